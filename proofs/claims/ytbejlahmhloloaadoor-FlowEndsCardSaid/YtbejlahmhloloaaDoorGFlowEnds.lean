/- Functions of the program as plain functions, with the proof that the code computes them: printed by gen.py of this session. -/
import Derived.Test.YtbejlahmhloloaaDoorProg
import Derived.Test.YtbejlahmhloloaaDoorQ27vced053
import Derived.Ground.NamesProg
import Derived.Ground.SlgcProg
import Derived.Ground.SlgmProg
import Derived.Ground.SlgnProg
import Derived.Ground.SlsfProg
import Derived.Shelf.Bits.Mul64
import Derived.Shelf.Lay
import Derived.Shelf.SlGeneric
import Derived.Shelf.SlSortCmp.WholeK
import Derived.Shelf.SlicesG.Cmp
import Derived.Shelf.SlicesG.CompactI
import Derived.Shelf.Small.Bits
import Derived.Shelf.SortM.Plain
import Derived.Shelf.SortM.SortNone
import Derived.Test.YtbejlahmhloloaaDoorGFlowEndsp1
set_option linter.unusedVariables false
set_option linter.unusedSimpArgs false
set_option maxRecDepth 20000
set_option maxHeartbeats 2000000
noncomputable section
namespace Go.Proofs.YtbejlahmhloloaaDoor
open Go.Q
/-! ### capstan/capstanlaw09.awake: function 18 -/
def capstanlaw09_awake.f  : Option Bool :=
  (capstanlaw09_row.f [28, 3, 0, 0, 29, 0, 31, 0]).bind fun t3 => (flow_Loops.f t3).bind fun t6 => (flow_Times.f t3).bind fun t9 => (flow_Ways.f t3 2).bind fun t12 => if ((((((decide (t6.2 ≠ 0)) || (decide (t9.2 ≠ 0))) || (decide (t12.2 ≠ 0))) || (decide ((t6.1.length : Int) ≠ 1))) || (decide ((t9.1.length : Int) ≠ 4))) || (decide ((t12.1.length : Int) ≠ 2))) = true then (some false) else ((elt t6.1 0).bind fun x26 => (if x26.From ≠ 0 then (some true) else ((elt t6.1 0).bind fun x31 => some (decide (x31.To ≠ 2)))).bind fun t33 => (if t33 = true then (some true) else ((elt t6.1 0).bind fun x37 => some (decide (x37.Turns ≠ 3)))).bind fun t39 => (if t39 = true then (some true) else ((elt t9.1 0).bind fun x43 => some (decide (x43 ≠ 1)))).bind fun t44 => (if t44 = true then (some true) else ((elt t9.1 1).bind fun x48 => some (decide (x48 ≠ 3)))).bind fun t49 => (if t49 = true then (some true) else ((elt t9.1 2).bind fun x53 => some (decide (x53 ≠ 3)))).bind fun t54 => (if t54 = true then (some true) else ((elt t9.1 3).bind fun x58 => some (decide (x58 ≠ 1)))).bind fun t59 => (if t59 = true then (some true) else ((elt t12.1 0).bind fun x63 => some (decide (x63 ≠ 1)))).bind fun t64 => (if t64 = true then (some true) else ((elt t12.1 1).bind fun x68 => some (decide (x68 ≠ 3)))).bind fun t69 => if t69 = true then (some false) else ((capstanlaw09_row.f [26, 1, 31, 0]).bind fun t72 => (flow_Check.f t72).bind fun t75 => (if t75 = 0 then ((capstanlaw09_row.f [26, 0, 31, 0]).bind fun t80 => (flow_Check.f t80).bind fun t83 => some (decide (t83 = 90))) else (some false)).bind fun t84 => (if t84 = true then ((capstanlaw09_row.f [26, 2, 31, 0]).bind fun t89 => (flow_Check.f t89).bind fun t92 => some (decide (t92 = 90))) else (some false)).bind fun t93 => (if t93 = true then ((capstanlaw09_row.f [27, 2, 28, 3, 29, 1, 31, 0]).bind fun t98 => (flow_Check.f t98).bind fun t101 => some (decide (t101 = 90))) else (some false)).bind fun t102 => (if t102 = true then ((capstanlaw09_row.f [28, 3, 26, 3, 29, 0, 31, 0]).bind fun t107 => (flow_Check.f t107).bind fun t110 => some (decide (t110 = 0))) else (some false)).bind fun t111 => (if t111 = true then ((capstanlaw09_row.f [0, 0]).bind fun t116 => (flow_Check.f t116).bind fun t119 => some (decide (t119 = 90))) else (some false)).bind fun t120 => some t120))
theorem capstanlaw09_awake.ok   (r : Bool) (H : capstanlaw09_awake.f  = some r) (w : World) (hV : Hp) (sV : Sub hV (hp w)) (h0 : (arrP k_arr88 0 tab0).p hV) :
    Trip Tryd.prog 18 [].toArray em hV w (fun v => HO.pure (v = .bool r)) := by
  have see : Sees w em hV := ⟨sV, Dj.em_right _⟩
  refine Trip.of (P := Tryd.prog) (n := ⟨164, []⟩) Tryd.func18 rfl ⟨rfl, rfl⟩ rfl (St.begin (All.cons (x := arrP k_arr88 0 tab0) h0 (All.nil _))) ?_
  have ho := H
  refine CP.seq ?_
  refine CP.region ?_
  refine SP.val (Val.assign rfl) rfl rfl rfl ?_
  refine SP.nil ?_
  refine QE.then ?_
  refine CP.seq ?_
  refine CP.region ?_
  refine SP.val (Val.assign rfl) rfl rfl rfl ?_
  refine SP.val (Val.assign rfl) rfl rfl rfl ?_
  refine SP.val (Val.assign rfl) rfl rfl rfl ?_
  refine SP.val (Val.assign rfl) rfl rfl rfl ?_
  refine SP.val (Val.assign rfl) rfl rfl rfl ?_
  refine SP.val (Val.assign rfl) rfl rfl rfl ?_
  refine SP.nil ?_
  refine QE.then ?_
  refine CP.seq ?_
  refine CP.region ?_
  refine SP.val (Val.move rfl) rfl rfl rfl ?_
  refine SP.val (Val.move rfl) rfl rfl rfl ?_
  refine SP.val (Val.move rfl) rfl rfl rfl ?_
  refine SP.val (Val.move rfl) rfl rfl rfl ?_
  refine SP.lit (k := (kInt .i64)) (xs := [28, 3, 0, 0, 29, 0, 31, 0]) (vs := [.int .i64 28, .int .i64 3, .int .i64 0, .int .i64 0, .int .i64 29, .int .i64 0, .int .i64 31, .int .i64 0]) (cells := [.int .i64 28, .int .i64 3, .int .i64 0, .int .i64 0, .int .i64 29, .int .i64 0, .int .i64 31, .int .i64 0]) Tryd.underlying27 inf3 rfl rfl rfl rfl rfl rfl rfl rfl (fun _ ap => ⟨[.int .i64 28], _, rfl, rfl, ⟨[.int .i64 3], _, rfl, rfl, ⟨[.int .i64 0], _, rfl, rfl, ⟨[.int .i64 0], _, rfl, rfl, ⟨[.int .i64 29], _, rfl, rfl, ⟨[.int .i64 0], _, rfl, rfl, ⟨[.int .i64 31], _, rfl, rfl, ⟨[.int .i64 0], _, rfl, rfl, rfl⟩⟩⟩⟩⟩⟩⟩⟩) rfl rfl rfl (fun v1 => ?_)
  obtain ⟨t3, hc, ho⟩ := bind_some (x := capstanlaw09_row.f [28, 3, 0, 0, 29, 0, 31, 0]) ho
  refine SP.callKO see (caps := []) _ fn40 rfl rfl rfl rfl (fun w2 hs => capstanlaw09_row.ok [28, 3, 0, 0, 29, 0, 31, 0] _ _ hc w2 (hp w2) (Sub.refl _) (slO.read (St.own 0 rfl see.sub see.dj hs) (Sub.refl _) (Sub.refl _))) (fun v a a2 b ⟨v4, e, h⟩ => ⟨v4, e, (Sep.fcons (fun _ => slO.flip (fun _ _ _ _ h => h)) (fun _ => Sep.fnil)) h⟩) (fun vr => ?_)
  refine SP.ex (fun w2 h => St.open h) (fun v4 => ?_)
  refine SP.have (fun w2 h => (St.pand h).1.symm) (fun er => ?_)
  subst er
  refine SP.imp (fun w2 h => St.seps (St.pand h).2) ?_
  clear hc
  refine SP.val (Val.assign rfl) rfl rfl rfl ?_
  refine SP.nil ?_
  refine QE.then ?_
  refine CP.seq ?_
  refine CP.region ?_
  refine SP.val (Val.move rfl) rfl rfl rfl ?_
  obtain ⟨t6, hc, ho⟩ := bind_some (x := flow_Loops.f t3) ho
  refine SP.callKO see (caps := []) _ fn11 rfl rfl rfl rfl (fun w2 hs => flow_Loops.ok t3 _ _ hc w2 (hp w2) (Sub.refl _) (slO.read (St.own 0 rfl see.sub see.dj hs) (Sub.refl _) (Sub.refl _)) ((St.pers 0 rfl see.sub see.dj hs))) (fun v a a2 b ⟨v7, e, h⟩ => ⟨v7, e, (Sep.fcons (fun _ => slO.flip (fun _ _ _ _ h => h)) (fun _ => Sep.fnil)) h⟩) (fun vr => ?_)
  refine SP.ex (fun w2 h => St.open h) (fun v7 => ?_)
  refine SP.have (fun w2 h => (St.pand h).1.symm) (fun er => ?_)
  subst er
  refine SP.imp (fun w2 h => St.seps (St.pand h).2) ?_
  clear hc
  refine SP.val (Val.move rfl) rfl rfl rfl ?_
  refine SP.val (Val.extract rfl rfl) rfl rfl rfl ?_
  refine SP.val (Val.extract rfl rfl) rfl rfl rfl ?_
  refine SP.val (Val.assign rfl) rfl rfl rfl ?_
  refine SP.val (Val.assign rfl) rfl rfl rfl ?_
  refine SP.nil ?_
  refine QE.then ?_
  refine CP.seq ?_
  refine CP.region ?_
  refine SP.val (Val.move rfl) rfl rfl rfl ?_
  obtain ⟨t9, hc, ho⟩ := bind_some (x := flow_Times.f t3) ho
  refine SP.callKO see (caps := []) _ fn12 rfl rfl rfl rfl (fun w2 hs => flow_Times.ok t3 _ _ hc w2 (hp w2) (Sub.refl _) (slO.read (St.own 1 rfl see.sub see.dj hs) (Sub.refl _) (Sub.refl _)) ((St.pers 0 rfl see.sub see.dj hs))) (fun v a a2 b ⟨v10, e, h⟩ => ⟨v10, e, (Sep.fcons (fun _ => slO.flip (fun _ _ _ _ h => h)) (fun _ => Sep.fnil)) h⟩) (fun vr => ?_)
  refine SP.ex (fun w2 h => St.open h) (fun v10 => ?_)
  refine SP.have (fun w2 h => (St.pand h).1.symm) (fun er => ?_)
  subst er
  refine SP.imp (fun w2 h => St.seps (St.pand h).2) ?_
  clear hc
  refine SP.val (Val.move rfl) rfl rfl rfl ?_
  refine SP.val (Val.extract rfl rfl) rfl rfl rfl ?_
  refine SP.val (Val.extract rfl rfl) rfl rfl rfl ?_
  refine SP.val (Val.assign rfl) rfl rfl rfl ?_
  refine SP.val (Val.assign rfl) rfl rfl rfl ?_
  refine SP.nil ?_
  refine QE.then ?_
  refine CP.seq ?_
  refine CP.region ?_
  refine SP.val (Val.move rfl) rfl rfl rfl ?_
  obtain ⟨t12, hc, ho⟩ := bind_some (x := flow_Ways.f t3 2) ho
  refine SP.callKO see (caps := []) _ fn17 rfl rfl rfl rfl (fun w2 hs => flow_Ways.ok t3 2 _ _ hc w2 (hp w2) (Sub.refl _) (slO.read (St.own 2 rfl see.sub see.dj hs) (Sub.refl _) (Sub.refl _)) ((St.pers 0 rfl see.sub see.dj hs))) (fun v a a2 b ⟨v13, e, h⟩ => ⟨v13, e, (Sep.fcons (fun _ => slO.flip (fun _ _ _ _ h => h)) (fun _ => Sep.fnil)) h⟩) (fun vr => ?_)
  refine SP.ex (fun w2 h => St.open h) (fun v13 => ?_)
  refine SP.have (fun w2 h => (St.pand h).1.symm) (fun er => ?_)
  subst er
  refine SP.imp (fun w2 h => St.seps (St.pand h).2) ?_
  clear hc
  refine SP.val (Val.move rfl) rfl rfl rfl ?_
  refine SP.val (Val.extract rfl rfl) rfl rfl rfl ?_
  refine SP.val (Val.extract rfl rfl) rfl rfl rfl ?_
  refine SP.val (Val.assign rfl) rfl rfl rfl ?_
  refine SP.val (Val.assign rfl) rfl rfl rfl ?_
  refine SP.nil ?_
  refine QE.then ?_
  refine CP.seq ?_
  refine CP.seq ?_
  refine CP.region ?_
  refine SP.val (Val.move rfl) rfl rfl rfl ?_
  refine SP.val (Val.neq rfl rfl) rfl rfl rfl ?_
  refine SP.val (Val.move rfl) rfl rfl rfl ?_
  refine SP.join 3 (fun a w2 => Env ⟨164, []⟩ [(1, .int .i64 28), (2, .int .i64 29), (3, .int .i64 31), (4, .int .i64 26), (5, .int .i64 27), (6, .int .i64 0), (8, v7), (10, v10), (12, v13), (13, .int .i64 t12.2), (40, .bool ((decide (t6.2 ≠ 0)) || (decide (t9.2 ≠ 0))))] a ∧ St w em hV [arrP k_arr88 0 tab0] [slO (kInt .i64) 3 v13 t12.1, slO (kInt .i64) 3 v10 t9.1, slO k_flow_Loop 40 v7 t6.1, slO k_api_Instr 52 v4 t3, slO (kInt .i64) 3 v1 [28, 3, 0, 0, 29, 0, 31, 0]] w2) ?_ ?_
  · rintro a w2 ⟨ha, hw⟩
    refine SP.app ha hw ?_
    clear ha hw a w2
    refine SP.val (Val.move rfl) rfl rfl rfl ?_
    refine SP.join 3 (fun a w2 => Env ⟨164, []⟩ [(1, .int .i64 28), (2, .int .i64 29), (3, .int .i64 31), (4, .int .i64 26), (5, .int .i64 27), (6, .int .i64 0), (8, v7), (10, v10), (12, v13), (44, .bool (((decide (t6.2 ≠ 0)) || (decide (t9.2 ≠ 0))) || (decide (t12.2 ≠ 0))))] a ∧ St w em hV [arrP k_arr88 0 tab0] [slO (kInt .i64) 3 v13 t12.1, slO (kInt .i64) 3 v10 t9.1, slO k_flow_Loop 40 v7 t6.1, slO k_api_Instr 52 v4 t3, slO (kInt .i64) 3 v1 [28, 3, 0, 0, 29, 0, 31, 0]] w2) ?_ ?_
    · rintro a w2 ⟨ha, hw⟩
      refine SP.app ha hw ?_
      clear ha hw a w2
      refine SP.val (Val.move rfl) rfl rfl rfl ?_
      refine SP.join 4 (fun a w2 => Env ⟨164, []⟩ [(1, .int .i64 28), (2, .int .i64 29), (3, .int .i64 31), (4, .int .i64 26), (5, .int .i64 27), (6, .int .i64 0), (8, v7), (10, v10), (12, v13), (49, .bool ((((decide (t6.2 ≠ 0)) || (decide (t9.2 ≠ 0))) || (decide (t12.2 ≠ 0))) || (decide ((t6.1.length : Int) ≠ 1))))] a ∧ St w em hV [arrP k_arr88 0 tab0] [slO (kInt .i64) 3 v13 t12.1, slO (kInt .i64) 3 v10 t9.1, slO k_flow_Loop 40 v7 t6.1, slO k_api_Instr 52 v4 t3, slO (kInt .i64) 3 v1 [28, 3, 0, 0, 29, 0, 31, 0]] w2) ?_ ?_
      · rintro a w2 ⟨ha, hw⟩
        refine SP.app ha hw ?_
        clear ha hw a w2
        refine SP.val (Val.move rfl) rfl rfl rfl ?_
        refine SP.join 4 (fun a w2 => Env ⟨164, []⟩ [(1, .int .i64 28), (2, .int .i64 29), (3, .int .i64 31), (4, .int .i64 26), (5, .int .i64 27), (6, .int .i64 0), (8, v7), (10, v10), (12, v13), (54, .bool (((((decide (t6.2 ≠ 0)) || (decide (t9.2 ≠ 0))) || (decide (t12.2 ≠ 0))) || (decide ((t6.1.length : Int) ≠ 1))) || (decide ((t9.1.length : Int) ≠ 4))))] a ∧ St w em hV [arrP k_arr88 0 tab0] [slO (kInt .i64) 3 v13 t12.1, slO (kInt .i64) 3 v10 t9.1, slO k_flow_Loop 40 v7 t6.1, slO k_api_Instr 52 v4 t3, slO (kInt .i64) 3 v1 [28, 3, 0, 0, 29, 0, 31, 0]] w2) ?_ ?_
        · rintro a w2 ⟨ha, hw⟩
          refine SP.app ha hw ?_
          clear ha hw a w2
          refine SP.val (Val.move rfl) rfl rfl rfl ?_
          refine SP.join 4 (fun a w2 => Env ⟨164, []⟩ [(1, .int .i64 28), (2, .int .i64 29), (3, .int .i64 31), (4, .int .i64 26), (5, .int .i64 27), (6, .int .i64 0), (8, v7), (10, v10), (12, v13), (59, .bool ((((((decide (t6.2 ≠ 0)) || (decide (t9.2 ≠ 0))) || (decide (t12.2 ≠ 0))) || (decide ((t6.1.length : Int) ≠ 1))) || (decide ((t9.1.length : Int) ≠ 4))) || (decide ((t12.1.length : Int) ≠ 2))))] a ∧ St w em hV [arrP k_arr88 0 tab0] [slO (kInt .i64) 3 v13 t12.1, slO (kInt .i64) 3 v10 t9.1, slO k_flow_Loop 40 v7 t6.1, slO k_api_Instr 52 v4 t3, slO (kInt .i64) 3 v1 [28, 3, 0, 0, 29, 0, 31, 0]] w2) ?_ ?_
          · rintro a w2 ⟨ha, hw⟩
            refine SP.app ha hw ?_
            clear ha hw a w2
            refine SP.nil ?_
            refine QE.then ?_
            rcases if_some ho with ⟨hc, ho⟩ | ⟨hc, ho⟩
            · refine CP.condT rfl hc ?_
              refine CP.seq ?_
              refine CP.region ?_
              refine SP.val (Val.assign rfl) rfl rfl rfl ?_
              refine SP.nil ?_
              refine QE.then ?_
              refine CP.ret ?_
              refine QE.thru (by intro e; cases e) ?_
              obtain rfl := Option.some.inj ho
              exact QE.rets (rs := [.tmp 0]) (vs := [.bool false]) Tryd.results18 rfl ⟨RVs.tmp rfl, trivial⟩ (fun w2 h => St.done (fun a b p s => rfl) h)
            · refine CP.condF rfl (bf hc) ?_
              refine CP.skip ?_
              refine QE.then ?_
              refine CP.seq ?_
              refine CP.seq ?_
              refine CP.region ?_
              refine SP.val (Val.move rfl) rfl rfl rfl ?_
              obtain ⟨x26, hx_x26, ho⟩ := bind_some ho
              have hx_x26 := elt_some hx_x26
              refine SP.indexW (fun w2 hw => slO.whole (St.own 2 rfl see.sub see.dj hw)) Tryd.underlying30 sz40 hx_x26.1 hx_x26.2 rfl rfl rfl rfl (fun p25 h_p25 => ?_)
              refine SP.fieldO h_p25 Tryd.underlying40 rfl sz3 rfl rfl rfl (fun p27 h_p27 => ?_)
              refine SP.val (Val.loadW1 (off := 0) (k := k_flow_Loop) (fun w2 hw => slO.whole (St.own 2 rfl see.sub see.dj hw)) hx_x26.2 h_p27 (fun _ _ e => by subst e; rfl) Tryd.underlying3 rfl rfl) rfl rfl rfl ?_
              refine SP.val (Val.neq rfl rfl) rfl rfl rfl ?_
              refine SP.val (Val.move rfl) rfl rfl rfl ?_
              obtain ⟨t33, hg_t33, ho⟩ := bind_some ho
              refine SP.join 6 (fun a w2 => Env ⟨164, []⟩ [(1, .int .i64 28), (2, .int .i64 29), (3, .int .i64 31), (4, .int .i64 26), (5, .int .i64 27), (6, .int .i64 0), (8, v7), (10, v10), (12, v13), (71, .bool t33)] a ∧ St w em hV [arrP k_arr88 0 tab0] [slO (kInt .i64) 3 v13 t12.1, slO (kInt .i64) 3 v10 t9.1, slO k_flow_Loop 40 v7 t6.1, slO k_api_Instr 52 v4 t3, slO (kInt .i64) 3 v1 [28, 3, 0, 0, 29, 0, 31, 0]] w2) ?_ ?_
              · rintro a w2 ⟨ha, hw⟩
                refine SP.app ha hw ?_
                clear ha hw a w2 hg_t33
                refine SP.val (Val.move rfl) rfl rfl rfl ?_
                obtain ⟨t39, hg_t39, ho⟩ := bind_some ho
                refine SP.join 6 (fun a w2 => Env ⟨164, []⟩ [(1, .int .i64 28), (2, .int .i64 29), (3, .int .i64 31), (4, .int .i64 26), (5, .int .i64 27), (6, .int .i64 0), (10, v10), (12, v13), (78, .bool t39)] a ∧ St w em hV [arrP k_arr88 0 tab0] [slO (kInt .i64) 3 v13 t12.1, slO (kInt .i64) 3 v10 t9.1, slO k_flow_Loop 40 v7 t6.1, slO k_api_Instr 52 v4 t3, slO (kInt .i64) 3 v1 [28, 3, 0, 0, 29, 0, 31, 0]] w2) ?_ ?_
                · rintro a w2 ⟨ha, hw⟩
                  refine SP.app ha hw ?_
                  clear ha hw a w2 hg_t39
                  refine SP.val (Val.move rfl) rfl rfl rfl ?_
                  obtain ⟨t44, hg_t44, ho⟩ := bind_some ho
                  refine SP.join 5 (fun a w2 => Env ⟨164, []⟩ [(1, .int .i64 28), (2, .int .i64 29), (3, .int .i64 31), (4, .int .i64 26), (5, .int .i64 27), (6, .int .i64 0), (10, v10), (12, v13), (84, .bool t44)] a ∧ St w em hV [arrP k_arr88 0 tab0] [slO (kInt .i64) 3 v13 t12.1, slO (kInt .i64) 3 v10 t9.1, slO k_flow_Loop 40 v7 t6.1, slO k_api_Instr 52 v4 t3, slO (kInt .i64) 3 v1 [28, 3, 0, 0, 29, 0, 31, 0]] w2) ?_ ?_
                  · rintro a w2 ⟨ha, hw⟩
                    refine SP.app ha hw ?_
                    clear ha hw a w2 hg_t44
                    refine SP.val (Val.move rfl) rfl rfl rfl ?_
                    obtain ⟨t49, hg_t49, ho⟩ := bind_some ho
                    refine SP.join 5 (fun a w2 => Env ⟨164, []⟩ [(1, .int .i64 28), (2, .int .i64 29), (3, .int .i64 31), (4, .int .i64 26), (5, .int .i64 27), (6, .int .i64 0), (10, v10), (12, v13), (90, .bool t49)] a ∧ St w em hV [arrP k_arr88 0 tab0] [slO (kInt .i64) 3 v13 t12.1, slO (kInt .i64) 3 v10 t9.1, slO k_flow_Loop 40 v7 t6.1, slO k_api_Instr 52 v4 t3, slO (kInt .i64) 3 v1 [28, 3, 0, 0, 29, 0, 31, 0]] w2) ?_ ?_
                    · rintro a w2 ⟨ha, hw⟩
                      refine SP.app ha hw ?_
                      clear ha hw a w2 hg_t49
                      refine SP.val (Val.move rfl) rfl rfl rfl ?_
                      obtain ⟨t54, hg_t54, ho⟩ := bind_some ho
                      refine SP.join 5 (fun a w2 => Env ⟨164, []⟩ [(1, .int .i64 28), (2, .int .i64 29), (3, .int .i64 31), (4, .int .i64 26), (5, .int .i64 27), (6, .int .i64 0), (10, v10), (12, v13), (96, .bool t54)] a ∧ St w em hV [arrP k_arr88 0 tab0] [slO (kInt .i64) 3 v13 t12.1, slO (kInt .i64) 3 v10 t9.1, slO k_flow_Loop 40 v7 t6.1, slO k_api_Instr 52 v4 t3, slO (kInt .i64) 3 v1 [28, 3, 0, 0, 29, 0, 31, 0]] w2) ?_ ?_
                      · rintro a w2 ⟨ha, hw⟩
                        refine SP.app ha hw ?_
                        clear ha hw a w2 hg_t54
                        refine SP.val (Val.move rfl) rfl rfl rfl ?_
                        obtain ⟨t59, hg_t59, ho⟩ := bind_some ho
                        refine SP.join 5 (fun a w2 => Env ⟨164, []⟩ [(1, .int .i64 28), (2, .int .i64 29), (3, .int .i64 31), (4, .int .i64 26), (5, .int .i64 27), (6, .int .i64 0), (12, v13), (102, .bool t59)] a ∧ St w em hV [arrP k_arr88 0 tab0] [slO (kInt .i64) 3 v13 t12.1, slO (kInt .i64) 3 v10 t9.1, slO k_flow_Loop 40 v7 t6.1, slO k_api_Instr 52 v4 t3, slO (kInt .i64) 3 v1 [28, 3, 0, 0, 29, 0, 31, 0]] w2) ?_ ?_
                        · rintro a w2 ⟨ha, hw⟩
                          refine SP.app ha hw ?_
                          clear ha hw a w2 hg_t59
                          refine SP.val (Val.move rfl) rfl rfl rfl ?_
                          obtain ⟨t64, hg_t64, ho⟩ := bind_some ho
                          refine SP.join 5 (fun a w2 => Env ⟨164, []⟩ [(1, .int .i64 28), (2, .int .i64 29), (3, .int .i64 31), (4, .int .i64 26), (5, .int .i64 27), (6, .int .i64 0), (12, v13), (108, .bool t64)] a ∧ St w em hV [arrP k_arr88 0 tab0] [slO (kInt .i64) 3 v13 t12.1, slO (kInt .i64) 3 v10 t9.1, slO k_flow_Loop 40 v7 t6.1, slO k_api_Instr 52 v4 t3, slO (kInt .i64) 3 v1 [28, 3, 0, 0, 29, 0, 31, 0]] w2) ?_ ?_
                          · rintro a w2 ⟨ha, hw⟩
                            refine SP.app ha hw ?_
                            clear ha hw a w2 hg_t64
                            refine SP.val (Val.move rfl) rfl rfl rfl ?_
                            obtain ⟨t69, hg_t69, ho⟩ := bind_some ho
                            refine SP.join 5 (fun a w2 => Env ⟨164, []⟩ [(1, .int .i64 28), (2, .int .i64 29), (3, .int .i64 31), (4, .int .i64 26), (5, .int .i64 27), (6, .int .i64 0), (114, .bool t69)] a ∧ St w em hV [arrP k_arr88 0 tab0] [slO (kInt .i64) 3 v13 t12.1, slO (kInt .i64) 3 v10 t9.1, slO k_flow_Loop 40 v7 t6.1, slO k_api_Instr 52 v4 t3, slO (kInt .i64) 3 v1 [28, 3, 0, 0, 29, 0, 31, 0]] w2) ?_ ?_
                            · rintro a w2 ⟨ha, hw⟩
                              refine SP.app ha hw ?_
                              clear ha hw a w2 hg_t69
                              refine SP.nil ?_
                              refine QE.then ?_
                              rcases if_some ho with ⟨hc, ho⟩ | ⟨hc, ho⟩
                              · refine CP.condT rfl hc ?_
                                refine CP.seq ?_
                                refine CP.region ?_
                                refine SP.val (Val.assign rfl) rfl rfl rfl ?_
                                refine SP.nil ?_
                                refine QE.then ?_
                                refine CP.ret ?_
                                refine QE.thru (by intro e; cases e) ?_
                                obtain rfl := Option.some.inj ho
                                exact QE.rets (rs := [.tmp 0]) (vs := [.bool false]) Tryd.results18 rfl ⟨RVs.tmp rfl, trivial⟩ (fun w2 h => St.done (fun a b p s => rfl) h)
                              · refine CP.condF rfl (bf hc) ?_
                                refine CP.skip ?_
                                refine QE.then ?_
                                refine CP.seq ?_
                                refine CP.region ?_
                                refine SP.val (Val.move rfl) rfl rfl rfl ?_
                                refine SP.val (Val.move rfl) rfl rfl rfl ?_
                                refine SP.lit (k := (kInt .i64)) (xs := [26, 1, 31, 0]) (vs := [.int .i64 26, .int .i64 1, .int .i64 31, .int .i64 0]) (cells := [.int .i64 26, .int .i64 1, .int .i64 31, .int .i64 0]) Tryd.underlying27 inf3 rfl rfl rfl rfl rfl rfl rfl rfl (fun _ ap => ⟨[.int .i64 26], _, rfl, rfl, ⟨[.int .i64 1], _, rfl, rfl, ⟨[.int .i64 31], _, rfl, rfl, ⟨[.int .i64 0], _, rfl, rfl, rfl⟩⟩⟩⟩) rfl rfl rfl (fun v70 => ?_)
                                obtain ⟨t72, hc, ho⟩ := bind_some (x := capstanlaw09_row.f [26, 1, 31, 0]) ho
                                refine SP.callKO see (caps := []) _ fn40 rfl rfl rfl rfl (fun w2 hs => capstanlaw09_row.ok [26, 1, 31, 0] _ _ hc w2 (hp w2) (Sub.refl _) (slO.read (St.own 0 rfl see.sub see.dj hs) (Sub.refl _) (Sub.refl _))) (fun v a a2 b ⟨v73, e, h⟩ => ⟨v73, e, (Sep.fcons (fun _ => slO.flip (fun _ _ _ _ h => h)) (fun _ => Sep.fnil)) h⟩) (fun vr => ?_)
                                refine SP.ex (fun w2 h => St.open h) (fun v73 => ?_)
                                refine SP.have (fun w2 h => (St.pand h).1.symm) (fun er => ?_)
                                subst er
                                refine SP.imp (fun w2 h => St.seps (St.pand h).2) ?_
                                clear hc
                                obtain ⟨t75, hc, ho⟩ := bind_some (x := flow_Check.f t72) ho
                                refine SP.callVO see (caps := []) (.int .i64 t75) fn13 rfl rfl rfl rfl (fun w2 hs => flow_Check.ok t72 _ _ hc w2 (hp w2) (Sub.refl _) (slO.read (St.own 0 rfl see.sub see.dj hs) (Sub.refl _) (Sub.refl _)) ((St.pers 0 rfl see.sub see.dj hs))) ?_
                                clear hc
                                refine SP.val (Val.eql rfl rfl) rfl rfl rfl ?_
                                refine SP.val (Val.move rfl) rfl rfl rfl ?_
                                obtain ⟨t84, hg_t84, ho⟩ := bind_some ho
                                refine SP.join 7 (fun a w2 => Env ⟨164, []⟩ [(1, .int .i64 28), (2, .int .i64 29), (3, .int .i64 31), (4, .int .i64 26), (5, .int .i64 27), (6, .int .i64 0), (128, .bool t84)] a ∧ St w em hV [arrP k_arr88 0 tab0] [slO k_api_Instr 52 v73 t72, slO (kInt .i64) 3 v70 [26, 1, 31, 0], slO (kInt .i64) 3 v13 t12.1, slO (kInt .i64) 3 v10 t9.1, slO k_flow_Loop 40 v7 t6.1, slO k_api_Instr 52 v4 t3, slO (kInt .i64) 3 v1 [28, 3, 0, 0, 29, 0, 31, 0]] w2) ?_ ?_
                                · rintro a w2 ⟨ha, hw⟩
                                  refine SP.app ha hw ?_
                                  clear ha hw a w2 hg_t84
                                  refine SP.val (Val.move rfl) rfl rfl rfl ?_
                                  obtain ⟨t93, hg_t93, ho⟩ := bind_some ho
                                  refine SP.join 7 (fun a w2 => Env ⟨164, []⟩ [(1, .int .i64 28), (2, .int .i64 29), (3, .int .i64 31), (4, .int .i64 26), (5, .int .i64 27), (6, .int .i64 0), (136, .bool t93)] a ∧ St w em hV [arrP k_arr88 0 tab0] [slO k_api_Instr 52 v73 t72, slO (kInt .i64) 3 v70 [26, 1, 31, 0], slO (kInt .i64) 3 v13 t12.1, slO (kInt .i64) 3 v10 t9.1, slO k_flow_Loop 40 v7 t6.1, slO k_api_Instr 52 v4 t3, slO (kInt .i64) 3 v1 [28, 3, 0, 0, 29, 0, 31, 0]] w2) ?_ ?_
                                  · rintro a w2 ⟨ha, hw⟩
                                    refine SP.app ha hw ?_
                                    clear ha hw a w2 hg_t93
                                    refine SP.val (Val.move rfl) rfl rfl rfl ?_
                                    obtain ⟨t102, hg_t102, ho⟩ := bind_some ho
                                    refine SP.join 9 (fun a w2 => Env ⟨164, []⟩ [(1, .int .i64 28), (2, .int .i64 29), (3, .int .i64 31), (4, .int .i64 26), (6, .int .i64 0), (146, .bool t102)] a ∧ St w em hV [arrP k_arr88 0 tab0] [slO k_api_Instr 52 v73 t72, slO (kInt .i64) 3 v70 [26, 1, 31, 0], slO (kInt .i64) 3 v13 t12.1, slO (kInt .i64) 3 v10 t9.1, slO k_flow_Loop 40 v7 t6.1, slO k_api_Instr 52 v4 t3, slO (kInt .i64) 3 v1 [28, 3, 0, 0, 29, 0, 31, 0]] w2) ?_ ?_
                                    · rintro a w2 ⟨ha, hw⟩
                                      refine SP.app ha hw ?_
                                      clear ha hw a w2 hg_t102
                                      refine SP.val (Val.move rfl) rfl rfl rfl ?_
                                      obtain ⟨t111, hg_t111, ho⟩ := bind_some ho
                                      refine SP.join 9 (fun a w2 => Env ⟨164, []⟩ [(6, .int .i64 0), (156, .bool t111)] a ∧ St w em hV [arrP k_arr88 0 tab0] [slO k_api_Instr 52 v73 t72, slO (kInt .i64) 3 v70 [26, 1, 31, 0], slO (kInt .i64) 3 v13 t12.1, slO (kInt .i64) 3 v10 t9.1, slO k_flow_Loop 40 v7 t6.1, slO k_api_Instr 52 v4 t3, slO (kInt .i64) 3 v1 [28, 3, 0, 0, 29, 0, 31, 0]] w2) ?_ ?_
                                      · rintro a w2 ⟨ha, hw⟩
                                        refine SP.app ha hw ?_
                                        clear ha hw a w2 hg_t111
                                        refine SP.val (Val.move rfl) rfl rfl rfl ?_
                                        obtain ⟨t120, hg_t120, ho⟩ := bind_some ho
                                        refine SP.join 6 (fun a w2 => Env ⟨164, []⟩ [(163, .bool t120)] a ∧ St w em hV [arrP k_arr88 0 tab0] [slO k_api_Instr 52 v73 t72, slO (kInt .i64) 3 v70 [26, 1, 31, 0], slO (kInt .i64) 3 v13 t12.1, slO (kInt .i64) 3 v10 t9.1, slO k_flow_Loop 40 v7 t6.1, slO k_api_Instr 52 v4 t3, slO (kInt .i64) 3 v1 [28, 3, 0, 0, 29, 0, 31, 0]] w2) ?_ ?_
                                        · rintro a w2 ⟨ha, hw⟩
                                          refine SP.app ha hw ?_
                                          clear ha hw a w2 hg_t120
                                          refine SP.val (Val.assign rfl) rfl rfl rfl ?_
                                          refine SP.nil ?_
                                          refine QE.then ?_
                                          refine CP.ret ?_
                                          obtain rfl := Option.some.inj ho
                                          exact QE.rets (rs := [.tmp 0]) (vs := [.bool t120]) Tryd.results18 rfl ⟨RVs.tmp rfl, trivial⟩ (fun w2 h => St.done (fun a b p s => rfl) h)
                                        · intro J
                                          clear ho
                                          have ho := hg_t120
                                          clear hg_t120
                                          rcases if_some ho with ⟨hc, ho⟩ | ⟨hc, ho⟩
                                          · have hq113 := hc
                                            refine SP.isT (d := 157) rfl hq113 ?_
                                            refine SP.val (Val.move rfl) rfl rfl rfl ?_
                                            refine SP.lit (k := (kInt .i64)) (xs := [0, 0]) (vs := [.int .i64 0, .int .i64 0]) (cells := [.int .i64 0, .int .i64 0]) Tryd.underlying27 inf3 rfl rfl rfl rfl rfl rfl rfl rfl (fun _ ap => ⟨[.int .i64 0], _, rfl, rfl, ⟨[.int .i64 0], _, rfl, rfl, rfl⟩⟩) rfl rfl rfl (fun v114 => ?_)
                                            obtain ⟨t116, hc, ho⟩ := bind_some (x := capstanlaw09_row.f [0, 0]) ho
                                            refine SP.callKO see (caps := []) _ fn40 rfl rfl rfl rfl (fun w2 hs => capstanlaw09_row.ok [0, 0] _ _ hc w2 (hp w2) (Sub.refl _) (slO.read (St.own 0 rfl see.sub see.dj hs) (Sub.refl _) (Sub.refl _))) (fun v a a2 b ⟨v117, e, h⟩ => ⟨v117, e, (Sep.fcons (fun _ => slO.flip (fun _ _ _ _ h => h)) (fun _ => Sep.fnil)) h⟩) (fun vr => ?_)
                                            refine SP.ex (fun w2 h => St.open h) (fun v117 => ?_)
                                            refine SP.have (fun w2 h => (St.pand h).1.symm) (fun er => ?_)
                                            subst er
                                            refine SP.imp (fun w2 h => St.seps (St.pand h).2) ?_
                                            clear hc
                                            obtain ⟨t119, hc, ho⟩ := bind_some (x := flow_Check.f t116) ho
                                            refine SP.callVO see (caps := []) (.int .i64 t119) fn13 rfl rfl rfl rfl (fun w2 hs => flow_Check.ok t116 _ _ hc w2 (hp w2) (Sub.refl _) (slO.read (St.own 0 rfl see.sub see.dj hs) (Sub.refl _) (Sub.refl _)) ((St.pers 0 rfl see.sub see.dj hs))) ?_
                                            clear hc
                                            refine SP.val (Val.eql rfl rfl) rfl rfl rfl ?_
                                            refine SP.val (Val.pickT rfl rfl) rfl rfl rfl ?_
                                            obtain rfl := Option.some.inj ho
                                            exact J fun a w2 ha hw => ⟨ha.sub ⟨rfl, trivial⟩, (St.selO [2, 3, 4, 5, 6, 7, 8] rfl rfl hw)⟩
                                          · have hq113 := (bf hc)
                                            refine SP.isF (d := 157) rfl hq113 ?_
                                            refine SP.not rfl rfl rfl ?_
                                            refine SP.not rfl rfl rfl ?_
                                            refine SP.not rfl rfl rfl ?_
                                            refine SP.not rfl rfl rfl ?_
                                            refine SP.not rfl rfl rfl ?_
                                            refine SP.val (Val.pickF rfl rfl) rfl rfl rfl ?_
                                            obtain rfl := Option.some.inj ho
                                            exact J fun a w2 ha hw => ⟨ha.sub ⟨rfl, trivial⟩, hw⟩
                                      · intro J
                                        clear ho
                                        have ho := hg_t111
                                        clear hg_t111
                                        rcases if_some ho with ⟨hc, ho⟩ | ⟨hc, ho⟩
                                        · have hq104 := hc
                                          refine SP.isT (d := 147) rfl hq104 ?_
                                          refine SP.val (Val.move rfl) rfl rfl rfl ?_
                                          refine SP.val (Val.move rfl) rfl rfl rfl ?_
                                          refine SP.val (Val.move rfl) rfl rfl rfl ?_
                                          refine SP.val (Val.move rfl) rfl rfl rfl ?_
                                          refine SP.lit (k := (kInt .i64)) (xs := [28, 3, 26, 3, 29, 0, 31, 0]) (vs := [.int .i64 28, .int .i64 3, .int .i64 26, .int .i64 3, .int .i64 29, .int .i64 0, .int .i64 31, .int .i64 0]) (cells := [.int .i64 28, .int .i64 3, .int .i64 26, .int .i64 3, .int .i64 29, .int .i64 0, .int .i64 31, .int .i64 0]) Tryd.underlying27 inf3 rfl rfl rfl rfl rfl rfl rfl rfl (fun _ ap => ⟨[.int .i64 28], _, rfl, rfl, ⟨[.int .i64 3], _, rfl, rfl, ⟨[.int .i64 26], _, rfl, rfl, ⟨[.int .i64 3], _, rfl, rfl, ⟨[.int .i64 29], _, rfl, rfl, ⟨[.int .i64 0], _, rfl, rfl, ⟨[.int .i64 31], _, rfl, rfl, ⟨[.int .i64 0], _, rfl, rfl, rfl⟩⟩⟩⟩⟩⟩⟩⟩) rfl rfl rfl (fun v105 => ?_)
                                          obtain ⟨t107, hc, ho⟩ := bind_some (x := capstanlaw09_row.f [28, 3, 26, 3, 29, 0, 31, 0]) ho
                                          refine SP.callKO see (caps := []) _ fn40 rfl rfl rfl rfl (fun w2 hs => capstanlaw09_row.ok [28, 3, 26, 3, 29, 0, 31, 0] _ _ hc w2 (hp w2) (Sub.refl _) (slO.read (St.own 0 rfl see.sub see.dj hs) (Sub.refl _) (Sub.refl _))) (fun v a a2 b ⟨v108, e, h⟩ => ⟨v108, e, (Sep.fcons (fun _ => slO.flip (fun _ _ _ _ h => h)) (fun _ => Sep.fnil)) h⟩) (fun vr => ?_)
                                          refine SP.ex (fun w2 h => St.open h) (fun v108 => ?_)
                                          refine SP.have (fun w2 h => (St.pand h).1.symm) (fun er => ?_)
                                          subst er
                                          refine SP.imp (fun w2 h => St.seps (St.pand h).2) ?_
                                          clear hc
                                          obtain ⟨t110, hc, ho⟩ := bind_some (x := flow_Check.f t107) ho
                                          refine SP.callVO see (caps := []) (.int .i64 t110) fn13 rfl rfl rfl rfl (fun w2 hs => flow_Check.ok t107 _ _ hc w2 (hp w2) (Sub.refl _) (slO.read (St.own 0 rfl see.sub see.dj hs) (Sub.refl _) (Sub.refl _)) ((St.pers 0 rfl see.sub see.dj hs))) ?_
                                          clear hc
                                          refine SP.val (Val.eql rfl rfl) rfl rfl rfl ?_
                                          refine SP.val (Val.pickT rfl rfl) rfl rfl rfl ?_
                                          obtain rfl := Option.some.inj ho
                                          exact J fun a w2 ha hw => ⟨ha.sub ⟨rfl, rfl, trivial⟩, (St.selO [2, 3, 4, 5, 6, 7, 8] rfl rfl hw)⟩
                                        · have hq104 := (bf hc)
                                          refine SP.isF (d := 147) rfl hq104 ?_
                                          refine SP.not rfl rfl rfl ?_
                                          refine SP.not rfl rfl rfl ?_
                                          refine SP.not rfl rfl rfl ?_
                                          refine SP.not rfl rfl rfl ?_
                                          refine SP.not rfl rfl rfl ?_
                                          refine SP.not rfl rfl rfl ?_
                                          refine SP.not rfl rfl rfl ?_
                                          refine SP.not rfl rfl rfl ?_
                                          refine SP.val (Val.pickF rfl rfl) rfl rfl rfl ?_
                                          obtain rfl := Option.some.inj ho
                                          exact J fun a w2 ha hw => ⟨ha.sub ⟨rfl, rfl, trivial⟩, hw⟩
                                    · intro J
                                      clear ho
                                      have ho := hg_t102
                                      clear hg_t102
                                      rcases if_some ho with ⟨hc, ho⟩ | ⟨hc, ho⟩
                                      · have hq95 := hc
                                        refine SP.isT (d := 137) rfl hq95 ?_
                                        refine SP.val (Val.move rfl) rfl rfl rfl ?_
                                        refine SP.val (Val.move rfl) rfl rfl rfl ?_
                                        refine SP.val (Val.move rfl) rfl rfl rfl ?_
                                        refine SP.val (Val.move rfl) rfl rfl rfl ?_
                                        refine SP.lit (k := (kInt .i64)) (xs := [27, 2, 28, 3, 29, 1, 31, 0]) (vs := [.int .i64 27, .int .i64 2, .int .i64 28, .int .i64 3, .int .i64 29, .int .i64 1, .int .i64 31, .int .i64 0]) (cells := [.int .i64 27, .int .i64 2, .int .i64 28, .int .i64 3, .int .i64 29, .int .i64 1, .int .i64 31, .int .i64 0]) Tryd.underlying27 inf3 rfl rfl rfl rfl rfl rfl rfl rfl (fun _ ap => ⟨[.int .i64 27], _, rfl, rfl, ⟨[.int .i64 2], _, rfl, rfl, ⟨[.int .i64 28], _, rfl, rfl, ⟨[.int .i64 3], _, rfl, rfl, ⟨[.int .i64 29], _, rfl, rfl, ⟨[.int .i64 1], _, rfl, rfl, ⟨[.int .i64 31], _, rfl, rfl, ⟨[.int .i64 0], _, rfl, rfl, rfl⟩⟩⟩⟩⟩⟩⟩⟩) rfl rfl rfl (fun v96 => ?_)
                                        obtain ⟨t98, hc, ho⟩ := bind_some (x := capstanlaw09_row.f [27, 2, 28, 3, 29, 1, 31, 0]) ho
                                        refine SP.callKO see (caps := []) _ fn40 rfl rfl rfl rfl (fun w2 hs => capstanlaw09_row.ok [27, 2, 28, 3, 29, 1, 31, 0] _ _ hc w2 (hp w2) (Sub.refl _) (slO.read (St.own 0 rfl see.sub see.dj hs) (Sub.refl _) (Sub.refl _))) (fun v a a2 b ⟨v99, e, h⟩ => ⟨v99, e, (Sep.fcons (fun _ => slO.flip (fun _ _ _ _ h => h)) (fun _ => Sep.fnil)) h⟩) (fun vr => ?_)
                                        refine SP.ex (fun w2 h => St.open h) (fun v99 => ?_)
                                        refine SP.have (fun w2 h => (St.pand h).1.symm) (fun er => ?_)
                                        subst er
                                        refine SP.imp (fun w2 h => St.seps (St.pand h).2) ?_
                                        clear hc
                                        obtain ⟨t101, hc, ho⟩ := bind_some (x := flow_Check.f t98) ho
                                        refine SP.callVO see (caps := []) (.int .i64 t101) fn13 rfl rfl rfl rfl (fun w2 hs => flow_Check.ok t98 _ _ hc w2 (hp w2) (Sub.refl _) (slO.read (St.own 0 rfl see.sub see.dj hs) (Sub.refl _) (Sub.refl _)) ((St.pers 0 rfl see.sub see.dj hs))) ?_
                                        clear hc
                                        refine SP.val (Val.eql rfl rfl) rfl rfl rfl ?_
                                        refine SP.val (Val.pickT rfl rfl) rfl rfl rfl ?_
                                        obtain rfl := Option.some.inj ho
                                        exact J fun a w2 ha hw => ⟨ha.sub ⟨rfl, rfl, rfl, rfl, rfl, rfl, trivial⟩, (St.selO [2, 3, 4, 5, 6, 7, 8] rfl rfl hw)⟩
                                      · have hq95 := (bf hc)
                                        refine SP.isF (d := 137) rfl hq95 ?_
                                        refine SP.not rfl rfl rfl ?_
                                        refine SP.not rfl rfl rfl ?_
                                        refine SP.not rfl rfl rfl ?_
                                        refine SP.not rfl rfl rfl ?_
                                        refine SP.not rfl rfl rfl ?_
                                        refine SP.not rfl rfl rfl ?_
                                        refine SP.not rfl rfl rfl ?_
                                        refine SP.not rfl rfl rfl ?_
                                        refine SP.val (Val.pickF rfl rfl) rfl rfl rfl ?_
                                        obtain rfl := Option.some.inj ho
                                        exact J fun a w2 ha hw => ⟨ha.sub ⟨rfl, rfl, rfl, rfl, rfl, rfl, trivial⟩, hw⟩
                                  · intro J
                                    clear ho
                                    have ho := hg_t93
                                    clear hg_t93
                                    rcases if_some ho with ⟨hc, ho⟩ | ⟨hc, ho⟩
                                    · have hq86 := hc
                                      refine SP.isT (d := 129) rfl hq86 ?_
                                      refine SP.val (Val.move rfl) rfl rfl rfl ?_
                                      refine SP.val (Val.move rfl) rfl rfl rfl ?_
                                      refine SP.lit (k := (kInt .i64)) (xs := [26, 2, 31, 0]) (vs := [.int .i64 26, .int .i64 2, .int .i64 31, .int .i64 0]) (cells := [.int .i64 26, .int .i64 2, .int .i64 31, .int .i64 0]) Tryd.underlying27 inf3 rfl rfl rfl rfl rfl rfl rfl rfl (fun _ ap => ⟨[.int .i64 26], _, rfl, rfl, ⟨[.int .i64 2], _, rfl, rfl, ⟨[.int .i64 31], _, rfl, rfl, ⟨[.int .i64 0], _, rfl, rfl, rfl⟩⟩⟩⟩) rfl rfl rfl (fun v87 => ?_)
                                      obtain ⟨t89, hc, ho⟩ := bind_some (x := capstanlaw09_row.f [26, 2, 31, 0]) ho
                                      refine SP.callKO see (caps := []) _ fn40 rfl rfl rfl rfl (fun w2 hs => capstanlaw09_row.ok [26, 2, 31, 0] _ _ hc w2 (hp w2) (Sub.refl _) (slO.read (St.own 0 rfl see.sub see.dj hs) (Sub.refl _) (Sub.refl _))) (fun v a a2 b ⟨v90, e, h⟩ => ⟨v90, e, (Sep.fcons (fun _ => slO.flip (fun _ _ _ _ h => h)) (fun _ => Sep.fnil)) h⟩) (fun vr => ?_)
                                      refine SP.ex (fun w2 h => St.open h) (fun v90 => ?_)
                                      refine SP.have (fun w2 h => (St.pand h).1.symm) (fun er => ?_)
                                      subst er
                                      refine SP.imp (fun w2 h => St.seps (St.pand h).2) ?_
                                      clear hc
                                      obtain ⟨t92, hc, ho⟩ := bind_some (x := flow_Check.f t89) ho
                                      refine SP.callVO see (caps := []) (.int .i64 t92) fn13 rfl rfl rfl rfl (fun w2 hs => flow_Check.ok t89 _ _ hc w2 (hp w2) (Sub.refl _) (slO.read (St.own 0 rfl see.sub see.dj hs) (Sub.refl _) (Sub.refl _)) ((St.pers 0 rfl see.sub see.dj hs))) ?_
                                      clear hc
                                      refine SP.val (Val.eql rfl rfl) rfl rfl rfl ?_
                                      refine SP.val (Val.pickT rfl rfl) rfl rfl rfl ?_
                                      obtain rfl := Option.some.inj ho
                                      exact J fun a w2 ha hw => ⟨ha.sub ⟨rfl, rfl, rfl, rfl, rfl, rfl, rfl, trivial⟩, (St.selO [2, 3, 4, 5, 6, 7, 8] rfl rfl hw)⟩
                                    · have hq86 := (bf hc)
                                      refine SP.isF (d := 129) rfl hq86 ?_
                                      refine SP.not rfl rfl rfl ?_
                                      refine SP.not rfl rfl rfl ?_
                                      refine SP.not rfl rfl rfl ?_
                                      refine SP.not rfl rfl rfl ?_
                                      refine SP.not rfl rfl rfl ?_
                                      refine SP.not rfl rfl rfl ?_
                                      refine SP.val (Val.pickF rfl rfl) rfl rfl rfl ?_
                                      obtain rfl := Option.some.inj ho
                                      exact J fun a w2 ha hw => ⟨ha.sub ⟨rfl, rfl, rfl, rfl, rfl, rfl, rfl, trivial⟩, hw⟩
                                · intro J
                                  clear ho
                                  have ho := hg_t84
                                  clear hg_t84
                                  rcases if_some ho with ⟨hc, ho⟩ | ⟨hc, ho⟩
                                  · have hq77 := (decide_eq_true hc)
                                    refine SP.isT (d := 121) rfl hq77 ?_
                                    refine SP.val (Val.move rfl) rfl rfl rfl ?_
                                    refine SP.val (Val.move rfl) rfl rfl rfl ?_
                                    refine SP.lit (k := (kInt .i64)) (xs := [26, 0, 31, 0]) (vs := [.int .i64 26, .int .i64 0, .int .i64 31, .int .i64 0]) (cells := [.int .i64 26, .int .i64 0, .int .i64 31, .int .i64 0]) Tryd.underlying27 inf3 rfl rfl rfl rfl rfl rfl rfl rfl (fun _ ap => ⟨[.int .i64 26], _, rfl, rfl, ⟨[.int .i64 0], _, rfl, rfl, ⟨[.int .i64 31], _, rfl, rfl, ⟨[.int .i64 0], _, rfl, rfl, rfl⟩⟩⟩⟩) rfl rfl rfl (fun v78 => ?_)
                                    obtain ⟨t80, hc, ho⟩ := bind_some (x := capstanlaw09_row.f [26, 0, 31, 0]) ho
                                    refine SP.callKO see (caps := []) _ fn40 rfl rfl rfl rfl (fun w2 hs => capstanlaw09_row.ok [26, 0, 31, 0] _ _ hc w2 (hp w2) (Sub.refl _) (slO.read (St.own 0 rfl see.sub see.dj hs) (Sub.refl _) (Sub.refl _))) (fun v a a2 b ⟨v81, e, h⟩ => ⟨v81, e, (Sep.fcons (fun _ => slO.flip (fun _ _ _ _ h => h)) (fun _ => Sep.fnil)) h⟩) (fun vr => ?_)
                                    refine SP.ex (fun w2 h => St.open h) (fun v81 => ?_)
                                    refine SP.have (fun w2 h => (St.pand h).1.symm) (fun er => ?_)
                                    subst er
                                    refine SP.imp (fun w2 h => St.seps (St.pand h).2) ?_
                                    clear hc
                                    obtain ⟨t83, hc, ho⟩ := bind_some (x := flow_Check.f t80) ho
                                    refine SP.callVO see (caps := []) (.int .i64 t83) fn13 rfl rfl rfl rfl (fun w2 hs => flow_Check.ok t80 _ _ hc w2 (hp w2) (Sub.refl _) (slO.read (St.own 0 rfl see.sub see.dj hs) (Sub.refl _) (Sub.refl _)) ((St.pers 0 rfl see.sub see.dj hs))) ?_
                                    clear hc
                                    refine SP.val (Val.eql rfl rfl) rfl rfl rfl ?_
                                    refine SP.val (Val.pickT rfl rfl) rfl rfl rfl ?_
                                    obtain rfl := Option.some.inj ho
                                    exact J fun a w2 ha hw => ⟨ha.sub ⟨rfl, rfl, rfl, rfl, rfl, rfl, rfl, trivial⟩, (St.selO [2, 3, 4, 5, 6, 7, 8] rfl rfl hw)⟩
                                  · have hq77 := (decide_eq_false hc)
                                    refine SP.isF (d := 121) rfl hq77 ?_
                                    refine SP.not rfl rfl rfl ?_
                                    refine SP.not rfl rfl rfl ?_
                                    refine SP.not rfl rfl rfl ?_
                                    refine SP.not rfl rfl rfl ?_
                                    refine SP.not rfl rfl rfl ?_
                                    refine SP.not rfl rfl rfl ?_
                                    refine SP.val (Val.pickF rfl rfl) rfl rfl rfl ?_
                                    obtain rfl := Option.some.inj ho
                                    exact J fun a w2 ha hw => ⟨ha.sub ⟨rfl, rfl, rfl, rfl, rfl, rfl, rfl, trivial⟩, hw⟩
                            · intro J
                              clear ho
                              have ho := hg_t69
                              clear hg_t69
                              rcases if_some ho with ⟨hc, ho⟩ | ⟨hc, ho⟩
                              · have hq66 := hc
                                refine SP.isT (d := 109) rfl hq66 ?_
                                refine SP.not rfl rfl rfl ?_
                                refine SP.not rfl rfl rfl ?_
                                refine SP.not rfl rfl rfl ?_
                                refine SP.not rfl rfl rfl ?_
                                refine SP.val (Val.pickT rfl rfl) rfl rfl rfl ?_
                                obtain rfl := Option.some.inj ho
                                exact J fun a w2 ha hw => ⟨ha.sub ⟨rfl, rfl, rfl, rfl, rfl, rfl, rfl, trivial⟩, hw⟩
                              · have hq66 := (bf hc)
                                refine SP.isF (d := 109) rfl hq66 ?_
                                refine SP.val (Val.move rfl) rfl rfl rfl ?_
                                obtain ⟨x68, hx_x68, ho⟩ := bind_some ho
                                have hx_x68 := elt_some hx_x68
                                refine SP.indexW (fun w2 hw => slO.whole (St.own 0 rfl see.sub see.dj hw)) Tryd.underlying27 sz3 hx_x68.1 hx_x68.2 rfl rfl rfl rfl (fun p67 h_p67 => ?_)
                                refine SP.val (Val.loadW1 (off := 0) (k := (kInt .i64)) (fun w2 hw => slO.whole (St.own 0 rfl see.sub see.dj hw)) hx_x68.2 h_p67 (fun _ _ e => by subst e; rfl) Tryd.underlying3 rfl rfl) rfl rfl rfl ?_
                                refine SP.val (Val.neq rfl rfl) rfl rfl rfl ?_
                                refine SP.val (Val.pickF rfl rfl) rfl rfl rfl ?_
                                obtain rfl := Option.some.inj ho
                                exact J fun a w2 ha hw => ⟨ha.sub ⟨rfl, rfl, rfl, rfl, rfl, rfl, rfl, trivial⟩, hw⟩
                          · intro J
                            clear ho
                            have ho := hg_t64
                            clear hg_t64
                            rcases if_some ho with ⟨hc, ho⟩ | ⟨hc, ho⟩
                            · have hq61 := hc
                              refine SP.isT (d := 103) rfl hq61 ?_
                              refine SP.not rfl rfl rfl ?_
                              refine SP.not rfl rfl rfl ?_
                              refine SP.not rfl rfl rfl ?_
                              refine SP.not rfl rfl rfl ?_
                              refine SP.val (Val.pickT rfl rfl) rfl rfl rfl ?_
                              obtain rfl := Option.some.inj ho
                              exact J fun a w2 ha hw => ⟨ha.sub ⟨rfl, rfl, rfl, rfl, rfl, rfl, rfl, rfl, trivial⟩, hw⟩
                            · have hq61 := (bf hc)
                              refine SP.isF (d := 103) rfl hq61 ?_
                              refine SP.val (Val.move rfl) rfl rfl rfl ?_
                              obtain ⟨x63, hx_x63, ho⟩ := bind_some ho
                              have hx_x63 := elt_some hx_x63
                              refine SP.indexW (fun w2 hw => slO.whole (St.own 0 rfl see.sub see.dj hw)) Tryd.underlying27 sz3 hx_x63.1 hx_x63.2 rfl rfl rfl rfl (fun p62 h_p62 => ?_)
                              refine SP.val (Val.loadW1 (off := 0) (k := (kInt .i64)) (fun w2 hw => slO.whole (St.own 0 rfl see.sub see.dj hw)) hx_x63.2 h_p62 (fun _ _ e => by subst e; rfl) Tryd.underlying3 rfl rfl) rfl rfl rfl ?_
                              refine SP.val (Val.neq rfl rfl) rfl rfl rfl ?_
                              refine SP.val (Val.pickF rfl rfl) rfl rfl rfl ?_
                              obtain rfl := Option.some.inj ho
                              exact J fun a w2 ha hw => ⟨ha.sub ⟨rfl, rfl, rfl, rfl, rfl, rfl, rfl, rfl, trivial⟩, hw⟩
                        · intro J
                          clear ho
                          have ho := hg_t59
                          clear hg_t59
                          rcases if_some ho with ⟨hc, ho⟩ | ⟨hc, ho⟩
                          · have hq56 := hc
                            refine SP.isT (d := 97) rfl hq56 ?_
                            refine SP.not rfl rfl rfl ?_
                            refine SP.not rfl rfl rfl ?_
                            refine SP.not rfl rfl rfl ?_
                            refine SP.not rfl rfl rfl ?_
                            refine SP.val (Val.pickT rfl rfl) rfl rfl rfl ?_
                            obtain rfl := Option.some.inj ho
                            exact J fun a w2 ha hw => ⟨ha.sub ⟨rfl, rfl, rfl, rfl, rfl, rfl, rfl, rfl, trivial⟩, hw⟩
                          · have hq56 := (bf hc)
                            refine SP.isF (d := 97) rfl hq56 ?_
                            refine SP.val (Val.move rfl) rfl rfl rfl ?_
                            obtain ⟨x58, hx_x58, ho⟩ := bind_some ho
                            have hx_x58 := elt_some hx_x58
                            refine SP.indexW (fun w2 hw => slO.whole (St.own 1 rfl see.sub see.dj hw)) Tryd.underlying27 sz3 hx_x58.1 hx_x58.2 rfl rfl rfl rfl (fun p57 h_p57 => ?_)
                            refine SP.val (Val.loadW1 (off := 0) (k := (kInt .i64)) (fun w2 hw => slO.whole (St.own 1 rfl see.sub see.dj hw)) hx_x58.2 h_p57 (fun _ _ e => by subst e; rfl) Tryd.underlying3 rfl rfl) rfl rfl rfl ?_
                            refine SP.val (Val.neq rfl rfl) rfl rfl rfl ?_
                            refine SP.val (Val.pickF rfl rfl) rfl rfl rfl ?_
                            obtain rfl := Option.some.inj ho
                            exact J fun a w2 ha hw => ⟨ha.sub ⟨rfl, rfl, rfl, rfl, rfl, rfl, rfl, rfl, trivial⟩, hw⟩
                      · intro J
                        clear ho
                        have ho := hg_t54
                        clear hg_t54
                        rcases if_some ho with ⟨hc, ho⟩ | ⟨hc, ho⟩
                        · have hq51 := hc
                          refine SP.isT (d := 91) rfl hq51 ?_
                          refine SP.not rfl rfl rfl ?_
                          refine SP.not rfl rfl rfl ?_
                          refine SP.not rfl rfl rfl ?_
                          refine SP.not rfl rfl rfl ?_
                          refine SP.val (Val.pickT rfl rfl) rfl rfl rfl ?_
                          obtain rfl := Option.some.inj ho
                          exact J fun a w2 ha hw => ⟨ha.sub ⟨rfl, rfl, rfl, rfl, rfl, rfl, rfl, rfl, rfl, trivial⟩, hw⟩
                        · have hq51 := (bf hc)
                          refine SP.isF (d := 91) rfl hq51 ?_
                          refine SP.val (Val.move rfl) rfl rfl rfl ?_
                          obtain ⟨x53, hx_x53, ho⟩ := bind_some ho
                          have hx_x53 := elt_some hx_x53
                          refine SP.indexW (fun w2 hw => slO.whole (St.own 1 rfl see.sub see.dj hw)) Tryd.underlying27 sz3 hx_x53.1 hx_x53.2 rfl rfl rfl rfl (fun p52 h_p52 => ?_)
                          refine SP.val (Val.loadW1 (off := 0) (k := (kInt .i64)) (fun w2 hw => slO.whole (St.own 1 rfl see.sub see.dj hw)) hx_x53.2 h_p52 (fun _ _ e => by subst e; rfl) Tryd.underlying3 rfl rfl) rfl rfl rfl ?_
                          refine SP.val (Val.neq rfl rfl) rfl rfl rfl ?_
                          refine SP.val (Val.pickF rfl rfl) rfl rfl rfl ?_
                          obtain rfl := Option.some.inj ho
                          exact J fun a w2 ha hw => ⟨ha.sub ⟨rfl, rfl, rfl, rfl, rfl, rfl, rfl, rfl, rfl, trivial⟩, hw⟩
                    · intro J
                      clear ho
                      have ho := hg_t49
                      clear hg_t49
                      rcases if_some ho with ⟨hc, ho⟩ | ⟨hc, ho⟩
                      · have hq46 := hc
                        refine SP.isT (d := 85) rfl hq46 ?_
                        refine SP.not rfl rfl rfl ?_
                        refine SP.not rfl rfl rfl ?_
                        refine SP.not rfl rfl rfl ?_
                        refine SP.not rfl rfl rfl ?_
                        refine SP.val (Val.pickT rfl rfl) rfl rfl rfl ?_
                        obtain rfl := Option.some.inj ho
                        exact J fun a w2 ha hw => ⟨ha.sub ⟨rfl, rfl, rfl, rfl, rfl, rfl, rfl, rfl, rfl, trivial⟩, hw⟩
                      · have hq46 := (bf hc)
                        refine SP.isF (d := 85) rfl hq46 ?_
                        refine SP.val (Val.move rfl) rfl rfl rfl ?_
                        obtain ⟨x48, hx_x48, ho⟩ := bind_some ho
                        have hx_x48 := elt_some hx_x48
                        refine SP.indexW (fun w2 hw => slO.whole (St.own 1 rfl see.sub see.dj hw)) Tryd.underlying27 sz3 hx_x48.1 hx_x48.2 rfl rfl rfl rfl (fun p47 h_p47 => ?_)
                        refine SP.val (Val.loadW1 (off := 0) (k := (kInt .i64)) (fun w2 hw => slO.whole (St.own 1 rfl see.sub see.dj hw)) hx_x48.2 h_p47 (fun _ _ e => by subst e; rfl) Tryd.underlying3 rfl rfl) rfl rfl rfl ?_
                        refine SP.val (Val.neq rfl rfl) rfl rfl rfl ?_
                        refine SP.val (Val.pickF rfl rfl) rfl rfl rfl ?_
                        obtain rfl := Option.some.inj ho
                        exact J fun a w2 ha hw => ⟨ha.sub ⟨rfl, rfl, rfl, rfl, rfl, rfl, rfl, rfl, rfl, trivial⟩, hw⟩
                  · intro J
                    clear ho
                    have ho := hg_t44
                    clear hg_t44
                    rcases if_some ho with ⟨hc, ho⟩ | ⟨hc, ho⟩
                    · have hq41 := hc
                      refine SP.isT (d := 79) rfl hq41 ?_
                      refine SP.not rfl rfl rfl ?_
                      refine SP.not rfl rfl rfl ?_
                      refine SP.not rfl rfl rfl ?_
                      refine SP.not rfl rfl rfl ?_
                      refine SP.val (Val.pickT rfl rfl) rfl rfl rfl ?_
                      obtain rfl := Option.some.inj ho
                      exact J fun a w2 ha hw => ⟨ha.sub ⟨rfl, rfl, rfl, rfl, rfl, rfl, rfl, rfl, rfl, trivial⟩, hw⟩
                    · have hq41 := (bf hc)
                      refine SP.isF (d := 79) rfl hq41 ?_
                      refine SP.val (Val.move rfl) rfl rfl rfl ?_
                      obtain ⟨x43, hx_x43, ho⟩ := bind_some ho
                      have hx_x43 := elt_some hx_x43
                      refine SP.indexW (fun w2 hw => slO.whole (St.own 1 rfl see.sub see.dj hw)) Tryd.underlying27 sz3 hx_x43.1 hx_x43.2 rfl rfl rfl rfl (fun p42 h_p42 => ?_)
                      refine SP.val (Val.loadW1 (off := 0) (k := (kInt .i64)) (fun w2 hw => slO.whole (St.own 1 rfl see.sub see.dj hw)) hx_x43.2 h_p42 (fun _ _ e => by subst e; rfl) Tryd.underlying3 rfl rfl) rfl rfl rfl ?_
                      refine SP.val (Val.neq rfl rfl) rfl rfl rfl ?_
                      refine SP.val (Val.pickF rfl rfl) rfl rfl rfl ?_
                      obtain rfl := Option.some.inj ho
                      exact J fun a w2 ha hw => ⟨ha.sub ⟨rfl, rfl, rfl, rfl, rfl, rfl, rfl, rfl, rfl, trivial⟩, hw⟩
                · intro J
                  clear ho
                  have ho := hg_t39
                  clear hg_t39
                  rcases if_some ho with ⟨hc, ho⟩ | ⟨hc, ho⟩
                  · have hq35 := hc
                    refine SP.isT (d := 72) rfl hq35 ?_
                    refine SP.not rfl rfl rfl ?_
                    refine SP.not rfl rfl rfl ?_
                    refine SP.not rfl rfl rfl ?_
                    refine SP.not rfl rfl rfl ?_
                    refine SP.not rfl rfl rfl ?_
                    refine SP.val (Val.pickT rfl rfl) rfl rfl rfl ?_
                    obtain rfl := Option.some.inj ho
                    exact J fun a w2 ha hw => ⟨ha.sub ⟨rfl, rfl, rfl, rfl, rfl, rfl, rfl, rfl, rfl, trivial⟩, hw⟩
                  · have hq35 := (bf hc)
                    refine SP.isF (d := 72) rfl hq35 ?_
                    refine SP.val (Val.move rfl) rfl rfl rfl ?_
                    obtain ⟨x37, hx_x37, ho⟩ := bind_some ho
                    have hx_x37 := elt_some hx_x37
                    refine SP.indexW (fun w2 hw => slO.whole (St.own 2 rfl see.sub see.dj hw)) Tryd.underlying30 sz40 hx_x37.1 hx_x37.2 rfl rfl rfl rfl (fun p36 h_p36 => ?_)
                    refine SP.fieldO h_p36 Tryd.underlying40 rfl sz3 rfl rfl rfl (fun p38 h_p38 => ?_)
                    refine SP.val (Val.loadW1 (off := 2) (k := k_flow_Loop) (fun w2 hw => slO.whole (St.own 2 rfl see.sub see.dj hw)) hx_x37.2 h_p38 (fun _ _ e => by subst e; rfl) Tryd.underlying3 rfl rfl) rfl rfl rfl ?_
                    refine SP.val (Val.neq rfl rfl) rfl rfl rfl ?_
                    refine SP.val (Val.pickF rfl rfl) rfl rfl rfl ?_
                    obtain rfl := Option.some.inj ho
                    exact J fun a w2 ha hw => ⟨ha.sub ⟨rfl, rfl, rfl, rfl, rfl, rfl, rfl, rfl, rfl, trivial⟩, hw⟩
              · intro J
                clear ho
                have ho := hg_t33
                clear hg_t33
                rcases if_some ho with ⟨hc, ho⟩ | ⟨hc, ho⟩
                · have hq29 := (decide_eq_true hc)
                  refine SP.isT (d := 65) rfl hq29 ?_
                  refine SP.not rfl rfl rfl ?_
                  refine SP.not rfl rfl rfl ?_
                  refine SP.not rfl rfl rfl ?_
                  refine SP.not rfl rfl rfl ?_
                  refine SP.not rfl rfl rfl ?_
                  refine SP.val (Val.pickT rfl rfl) rfl rfl rfl ?_
                  obtain rfl := Option.some.inj ho
                  exact J fun a w2 ha hw => ⟨ha.sub ⟨rfl, rfl, rfl, rfl, rfl, rfl, rfl, rfl, rfl, rfl, trivial⟩, hw⟩
                · have hq29 := (decide_eq_false hc)
                  refine SP.isF (d := 65) rfl hq29 ?_
                  refine SP.val (Val.move rfl) rfl rfl rfl ?_
                  obtain ⟨x31, hx_x31, ho⟩ := bind_some ho
                  have hx_x31 := elt_some hx_x31
                  refine SP.indexW (fun w2 hw => slO.whole (St.own 2 rfl see.sub see.dj hw)) Tryd.underlying30 sz40 hx_x31.1 hx_x31.2 rfl rfl rfl rfl (fun p30 h_p30 => ?_)
                  refine SP.fieldO h_p30 Tryd.underlying40 rfl sz3 rfl rfl rfl (fun p32 h_p32 => ?_)
                  refine SP.val (Val.loadW1 (off := 1) (k := k_flow_Loop) (fun w2 hw => slO.whole (St.own 2 rfl see.sub see.dj hw)) hx_x31.2 h_p32 (fun _ _ e => by subst e; rfl) Tryd.underlying3 rfl rfl) rfl rfl rfl ?_
                  refine SP.val (Val.neq rfl rfl) rfl rfl rfl ?_
                  refine SP.val (Val.pickF rfl rfl) rfl rfl rfl ?_
                  obtain rfl := Option.some.inj ho
                  exact J fun a w2 ha hw => ⟨ha.sub ⟨rfl, rfl, rfl, rfl, rfl, rfl, rfl, rfl, rfl, rfl, trivial⟩, hw⟩
          · intro J
            by_cases hc : (((((decide (t6.2 ≠ 0)) || (decide (t9.2 ≠ 0))) || (decide (t12.2 ≠ 0))) || (decide ((t6.1.length : Int) ≠ 1))) || (decide ((t9.1.length : Int) ≠ 4))) = true
            · have hq24 := hc
              refine SP.isT (d := 55) rfl hq24 ?_
              refine SP.not rfl rfl rfl ?_
              refine SP.not rfl rfl rfl ?_
              refine SP.not rfl rfl rfl ?_
              refine SP.val (Val.pickT rfl rfl) rfl rfl rfl ?_
              exact J fun a w2 ha hw => ⟨ha.sub ⟨rfl, rfl, rfl, rfl, rfl, rfl, rfl, rfl, rfl, congrArg (fun z => some (Value.bool z)) (or_t hq24), trivial⟩, hw⟩
            · have hq24 := (bf hc)
              refine SP.isF (d := 55) rfl hq24 ?_
              refine SP.val (Val.move rfl) rfl rfl rfl ?_
              refine SP.val (Val.lenW (fun w2 hw => slO.whole (St.own 0 rfl see.sub see.dj hw)) Tryd.underlying27 rfl) rfl rfl rfl ?_
              refine SP.val (Val.neq rfl rfl) rfl rfl rfl ?_
              refine SP.val (Val.pickF rfl rfl) rfl rfl rfl ?_
              exact J fun a w2 ha hw => ⟨ha.sub ⟨rfl, rfl, rfl, rfl, rfl, rfl, rfl, rfl, rfl, congrArg (fun z => some (Value.bool z)) (or_f hq24 rfl), trivial⟩, hw⟩
        · intro J
          by_cases hc : ((((decide (t6.2 ≠ 0)) || (decide (t9.2 ≠ 0))) || (decide (t12.2 ≠ 0))) || (decide ((t6.1.length : Int) ≠ 1))) = true
          · have hq22 := hc
            refine SP.isT (d := 50) rfl hq22 ?_
            refine SP.not rfl rfl rfl ?_
            refine SP.not rfl rfl rfl ?_
            refine SP.not rfl rfl rfl ?_
            refine SP.val (Val.pickT rfl rfl) rfl rfl rfl ?_
            exact J fun a w2 ha hw => ⟨ha.sub ⟨rfl, rfl, rfl, rfl, rfl, rfl, rfl, rfl, rfl, congrArg (fun z => some (Value.bool z)) (or_t hq22), trivial⟩, hw⟩
          · have hq22 := (bf hc)
            refine SP.isF (d := 50) rfl hq22 ?_
            refine SP.val (Val.move rfl) rfl rfl rfl ?_
            refine SP.val (Val.lenW (fun w2 hw => slO.whole (St.own 1 rfl see.sub see.dj hw)) Tryd.underlying27 rfl) rfl rfl rfl ?_
            refine SP.val (Val.neq rfl rfl) rfl rfl rfl ?_
            refine SP.val (Val.pickF rfl rfl) rfl rfl rfl ?_
            exact J fun a w2 ha hw => ⟨ha.sub ⟨rfl, rfl, rfl, rfl, rfl, rfl, rfl, rfl, rfl, congrArg (fun z => some (Value.bool z)) (or_f hq22 rfl), trivial⟩, hw⟩
      · intro J
        by_cases hc : (((decide (t6.2 ≠ 0)) || (decide (t9.2 ≠ 0))) || (decide (t12.2 ≠ 0))) = true
        · have hq20 := hc
          refine SP.isT (d := 45) rfl hq20 ?_
          refine SP.not rfl rfl rfl ?_
          refine SP.not rfl rfl rfl ?_
          refine SP.not rfl rfl rfl ?_
          refine SP.val (Val.pickT rfl rfl) rfl rfl rfl ?_
          exact J fun a w2 ha hw => ⟨ha.sub ⟨rfl, rfl, rfl, rfl, rfl, rfl, rfl, rfl, rfl, congrArg (fun z => some (Value.bool z)) (or_t hq20), trivial⟩, hw⟩
        · have hq20 := (bf hc)
          refine SP.isF (d := 45) rfl hq20 ?_
          refine SP.val (Val.move rfl) rfl rfl rfl ?_
          refine SP.val (Val.lenW (fun w2 hw => slO.whole (St.own 2 rfl see.sub see.dj hw)) Tryd.underlying30 rfl) rfl rfl rfl ?_
          refine SP.val (Val.neq rfl rfl) rfl rfl rfl ?_
          refine SP.val (Val.pickF rfl rfl) rfl rfl rfl ?_
          exact J fun a w2 ha hw => ⟨ha.sub ⟨rfl, rfl, rfl, rfl, rfl, rfl, rfl, rfl, rfl, congrArg (fun z => some (Value.bool z)) (or_f hq20 rfl), trivial⟩, hw⟩
    · intro J
      by_cases hc : ((decide (t6.2 ≠ 0)) || (decide (t9.2 ≠ 0))) = true
      · have hq18 := hc
        refine SP.isT (d := 41) rfl hq18 ?_
        refine SP.not rfl rfl rfl ?_
        refine SP.not rfl rfl rfl ?_
        refine SP.val (Val.pickT rfl rfl) rfl rfl rfl ?_
        exact J fun a w2 ha hw => ⟨ha.sub ⟨rfl, rfl, rfl, rfl, rfl, rfl, rfl, rfl, rfl, congrArg (fun z => some (Value.bool z)) (or_t hq18), trivial⟩, hw⟩
      · have hq18 := (bf hc)
        refine SP.isF (d := 41) rfl hq18 ?_
        refine SP.val (Val.move rfl) rfl rfl rfl ?_
        refine SP.val (Val.neq rfl rfl) rfl rfl rfl ?_
        refine SP.val (Val.pickF rfl rfl) rfl rfl rfl ?_
        exact J fun a w2 ha hw => ⟨ha.sub ⟨rfl, rfl, rfl, rfl, rfl, rfl, rfl, rfl, rfl, congrArg (fun z => some (Value.bool z)) (or_f hq18 rfl), trivial⟩, hw⟩
  · intro J
    by_cases hc : t6.2 ≠ 0
    · have hq16 := (decide_eq_true hc)
      refine SP.isT (d := 37) rfl hq16 ?_
      refine SP.not rfl rfl rfl ?_
      refine SP.not rfl rfl rfl ?_
      refine SP.val (Val.pickT rfl rfl) rfl rfl rfl ?_
      exact J fun a w2 ha hw => ⟨ha.sub ⟨rfl, rfl, rfl, rfl, rfl, rfl, rfl, rfl, rfl, rfl, congrArg (fun z => some (Value.bool z)) (or_t hq16), trivial⟩, hw⟩
    · have hq16 := (decide_eq_false hc)
      refine SP.isF (d := 37) rfl hq16 ?_
      refine SP.val (Val.move rfl) rfl rfl rfl ?_
      refine SP.val (Val.neq rfl rfl) rfl rfl rfl ?_
      refine SP.val (Val.pickF rfl rfl) rfl rfl rfl ?_
      exact J fun a w2 ha hw => ⟨ha.sub ⟨rfl, rfl, rfl, rfl, rfl, rfl, rfl, rfl, rfl, rfl, congrArg (fun z => some (Value.bool z)) (or_f hq16 rfl), trivial⟩, hw⟩
/-! ### capstan/capstanlaw09.flows: function 19 -/
inductive capstanlaw09_flows.S where
  | start
  | l1 (t3 : (List Int) × Int) (x11 : Int) (x12 : Int)

def capstanlaw09_flows.F (l_0 : (List api_Instr)) : capstanlaw09_flows.S → Option (capstanlaw09_flows.S ⊕ ((List Int) × Bool))
  | .start => if (l_0.length : Int) > 300 then (some (.inr ([], false))) else ((flow_Times.f l_0).bind fun t3 => if t3.2 ≠ 0 then (some (.inr ([], false))) else (some (.inl (.l1 t3 0 0))))
  | .l1 t3 x11 x12 => if x12 < (t3.1.length : Int) then ((elt t3.1 x12).bind fun x15 => if (IntKind.i64.wrap (x11 + x15)) > 20000 then (some (.inr ([], false))) else (some (.inl (.l1 t3 (IntKind.i64.wrap (x11 + x15)) (IntKind.i64.wrap (x12 + 1)))))) else (some (.inr (t3.1, decide ((t3.1.length : Int) = (l_0.length : Int)))))

def capstanlaw09_flows.f (l_0 : (List api_Instr)) : Option ((List Int) × Bool) := runF (capstanlaw09_flows.F l_0) .start
theorem capstanlaw09_flows.ok (l_0 : (List api_Instr)) (v_l_0 : Value)  (r : (List Int) × Bool) (H : capstanlaw09_flows.f l_0 = some r) (w : World) (hV : Hp) (sV : Sub hV (hp w)) (h0 : slR k_api_Instr hV v_l_0 l_0) (h1 : (arrP k_arr88 0 tab0).p hV) :
    Trip Tryd.prog 19 [v_l_0].toArray em hV w (fun v => HO.ex fun u0 : Value => HO.pand (v = .tuple #[u0, .bool r.2]) (HO.seps [slO (kInt .i64) 3 u0 r.1])) := by
  have see : Sees w em hV := ⟨sV, Dj.em_right _⟩
  refine Trip.of (P := Tryd.prog) (n := ⟨38, []⟩) Tryd.func19 rfl ⟨rfl, rfl⟩ rfl (St.begin (All.cons (x := slP k_api_Instr v_l_0 l_0) h0 (All.cons (x := arrP k_arr88 0 tab0) h1 (All.nil _)))) ?_
  obtain ⟨n0, hi⟩ := runF_iff.1 H
  obtain ⟨m0, o, hm0, ho, hr⟩ := iter_some hi
  clear hi
  refine CP.seq ?_
  refine CP.region ?_
  refine SP.val (Val.assign rfl) rfl rfl rfl ?_
  refine SP.val (Val.assign rfl) rfl rfl rfl ?_
  refine SP.nil ?_
  refine QE.then ?_
  refine CP.seq ?_
  refine CP.seq ?_
  refine CP.region ?_
  refine SP.val (Val.move rfl) rfl rfl rfl ?_
  refine SP.val (Val.lenP see 0 rfl Tryd.underlying22 rfl) rfl rfl rfl ?_
  refine SP.val (Val.gtr rfl rfl) rfl rfl rfl ?_
  refine SP.nil ?_
  refine QE.then ?_
  rcases if_some ho with ⟨hc, ho⟩ | ⟨hc, ho⟩
  · refine CP.condT rfl (decide_eq_true hc) ?_
    refine CP.seq ?_
    refine CP.region ?_
    refine SP.val (Val.assign rfl) rfl rfl rfl ?_
    refine SP.val (Val.assign rfl) rfl rfl rfl ?_
    refine SP.nil ?_
    refine QE.then ?_
    refine CP.ret ?_
    refine QE.thru (by intro e; cases e) ?_
    obtain rfl := Option.some.inj ho
    obtain rfl := Option.some.inj hr
    exact QE.rets (rs := [.tmp 2, .tmp 3]) (vs := [(.slice none 0 0), .bool false]) Tryd.results19 rfl ⟨RVs.tmp rfl, RVs.tmp rfl, trivial⟩ (fun w2 h => St.done (fun a b p s => ⟨_, rfl, s⟩) (St.selO [0] rfl rfl (St.addO (slO.nil (kInt .i64) 3) h)))
  · refine CP.condF rfl (decide_eq_false hc) ?_
    refine CP.skip ?_
    refine QE.then ?_
    refine CP.seq ?_
    refine CP.region ?_
    refine SP.val (Val.move rfl) rfl rfl rfl ?_
    obtain ⟨t3, hc, ho⟩ := bind_some (x := flow_Times.f l_0) ho
    refine SP.callK see (caps := []) _ fn12 rfl rfl rfl rfl (fun w2 hP hs sub ap => flow_Times.ok l_0 _ _ hc w2 hP sub (ap.get 0 rfl) (ap.get 1 rfl)) (fun vr => ?_)
    refine SP.ex (fun w2 h => St.open h) (fun v4 => ?_)
    refine SP.have (fun w2 h => (St.pand h).1.symm) (fun er => ?_)
    subst er
    refine SP.imp (fun w2 h => St.seps (St.pand h).2) ?_
    clear hc
    refine SP.val (Val.move rfl) rfl rfl rfl ?_
    refine SP.val (Val.extract rfl rfl) rfl rfl rfl ?_
    refine SP.val (Val.extract rfl rfl) rfl rfl rfl ?_
    refine SP.val (Val.assign rfl) rfl rfl rfl ?_
    refine SP.val (Val.assign rfl) rfl rfl rfl ?_
    refine SP.nil ?_
    refine QE.then ?_
    refine CP.seq ?_
    refine CP.seq ?_
    refine CP.region ?_
    refine SP.val (Val.move rfl) rfl rfl rfl ?_
    refine SP.val (Val.neq rfl rfl) rfl rfl rfl ?_
    refine SP.nil ?_
    refine QE.then ?_
    rcases if_some ho with ⟨hc, ho⟩ | ⟨hc, ho⟩
    · refine CP.condT rfl (decide_eq_true hc) ?_
      refine CP.seq ?_
      refine CP.region ?_
      refine SP.val (Val.assign rfl) rfl rfl rfl ?_
      refine SP.val (Val.assign rfl) rfl rfl rfl ?_
      refine SP.nil ?_
      refine QE.then ?_
      refine CP.ret ?_
      refine QE.thru (by intro e; cases e) ?_
      obtain rfl := Option.some.inj ho
      obtain rfl := Option.some.inj hr
      exact QE.rets (rs := [.tmp 2, .tmp 3]) (vs := [(.slice none 0 0), .bool false]) Tryd.results19 rfl ⟨RVs.tmp rfl, RVs.tmp rfl, trivial⟩ (fun w2 h => St.done (fun a b p s => ⟨_, rfl, s⟩) (St.selO [0] rfl rfl (St.addO (slO.nil (kInt .i64) 3) h)))
    · refine CP.condF rfl (decide_eq_false hc) ?_
      refine CP.skip ?_
      refine QE.then ?_
      refine CP.seq ?_
      refine CP.region ?_
      refine SP.val (Val.assign rfl) rfl rfl rfl ?_
      refine SP.nil ?_
      refine QE.then ?_
      refine CP.seq ?_
      refine CP.seq ?_
      refine CP.region ?_
      refine SP.val (Val.assign rfl) rfl rfl rfl ?_
      refine SP.nil ?_
      refine QE.then ?_
      refine CP.block ?_
      obtain rfl := Option.some.inj ho
      refine CP.loop (fun cl1 a w2 => ∃ x11 : Int, ∃ x12 : Int, cl1 ≤ m0 ∧ iter (capstanlaw09_flows.F l_0) cl1 (.l1 t3 x11 x12) = some r ∧ Env ⟨38, []⟩ [(0, v_l_0), (4, v4), (6, .int .i64 x11), (7, .int .i64 x12)] a ∧ St w em hV [slP k_api_Instr v_l_0 l_0, arrP k_arr88 0 tab0] [slO (kInt .i64) 3 v4 t3.1] w2) m0 (fun a w2 ha hw => ⟨0, 0, Nat.le_refl _, hr, ha.sub ⟨rfl, rfl, rfl, rfl, trivial⟩, hw⟩) ?_
      clear hr
      rintro cl1 a w2 ⟨x11, x12, hc_l1, hi, ha, hw⟩
      obtain ⟨m13, o, hm_m13, ho, hr⟩ := iter_some hi
      refine CP.app ha hw ?_
      clear ha hw a w2 hi
      refine CP.seq ?_
      refine CP.seq ?_
      refine CP.region ?_
      refine SP.val (Val.move rfl) rfl rfl rfl ?_
      refine SP.val (Val.move rfl) rfl rfl rfl ?_
      refine SP.val (Val.lenW (fun w2 hw => slO.whole (St.own 0 rfl see.sub see.dj hw)) Tryd.underlying27 rfl) rfl rfl rfl ?_
      refine SP.val (Val.lss rfl rfl) rfl rfl rfl ?_
      refine SP.nil ?_
      refine QE.then ?_
      rcases if_some ho with ⟨hc, ho⟩ | ⟨hc, ho⟩
      · refine CP.condT rfl (decide_eq_true hc) ?_
        refine CP.skip ?_
        refine QE.then ?_
        refine CP.seq ?_
        refine CP.block ?_
        refine CP.seq ?_
        refine CP.region ?_
        refine SP.val (Val.move rfl) rfl rfl rfl ?_
        refine SP.val (Val.move rfl) rfl rfl rfl ?_
        refine SP.val (Val.move rfl) rfl rfl rfl ?_
        obtain ⟨x15, hx_x15, ho⟩ := bind_some ho
        have hx_x15 := elt_some hx_x15
        refine SP.indexW (fun w2 hw => slO.whole (St.own 0 rfl see.sub see.dj hw)) Tryd.underlying27 sz3 hx_x15.1 hx_x15.2 rfl rfl rfl rfl (fun p14 h_p14 => ?_)
        refine SP.val (Val.loadW1 (off := 0) (k := (kInt .i64)) (fun w2 hw => slO.whole (St.own 0 rfl see.sub see.dj hw)) hx_x15.2 h_p14 (fun _ _ e => by subst e; rfl) Tryd.underlying3 rfl rfl) rfl rfl rfl ?_
        refine SP.val (Val.add rfl rfl) rfl rfl rfl ?_
        refine SP.val (Val.assign rfl) rfl rfl rfl ?_
        refine SP.nil ?_
        refine QE.then ?_
        refine CP.seq ?_
        refine CP.region ?_
        refine SP.val (Val.move rfl) rfl rfl rfl ?_
        refine SP.val (Val.gtr rfl rfl) rfl rfl rfl ?_
        refine SP.nil ?_
        refine QE.then ?_
        rcases if_some ho with ⟨hc, ho⟩ | ⟨hc, ho⟩
        · refine CP.condT rfl (decide_eq_true hc) ?_
          refine CP.seq ?_
          refine CP.region ?_
          refine SP.val (Val.assign rfl) rfl rfl rfl ?_
          refine SP.val (Val.assign rfl) rfl rfl rfl ?_
          refine SP.nil ?_
          refine QE.then ?_
          refine CP.ret ?_
          refine QE.blockR ?_
          refine QE.thru (by intro e; cases e) ?_
          refine QE.thru (by intro e; cases e) ?_
          refine QE.blockR ?_
          refine QE.thru (by intro e; cases e) ?_
          obtain rfl := Option.some.inj ho
          obtain rfl := Option.some.inj hr
          exact QE.rets (rs := [.tmp 2, .tmp 3]) (vs := [(.slice none 0 0), .bool false]) Tryd.results19 rfl ⟨RVs.tmp rfl, RVs.tmp rfl, trivial⟩ (fun w2 h => St.done (fun a b p s => ⟨_, rfl, s⟩) (St.selO [0] rfl rfl (St.addO (slO.nil (kInt .i64) 3) h)))
        · refine CP.condF rfl (decide_eq_false hc) ?_
          refine CP.skip ?_
          refine QE.blockN ?_
          refine QE.then ?_
          refine CP.region ?_
          refine SP.val (Val.move rfl) rfl rfl rfl ?_
          refine SP.val (Val.add rfl rfl) rfl rfl rfl ?_
          refine SP.val (Val.assign rfl) rfl rfl rfl ?_
          refine SP.nil ?_
          obtain rfl := Option.some.inj ho
          exact QE.lower m13 (by omega) fun a w2 ha hw => ⟨(IntKind.i64.wrap (x11 + x15)), (IntKind.i64.wrap (x12 + 1)), (by omega), hr, ha.sub ⟨rfl, rfl, rfl, rfl, trivial⟩, hw⟩
      · refine CP.condF rfl (decide_eq_false hc) ?_
        refine CP.exit ?_
        refine QE.thru (by intro e; cases e) ?_
        refine QE.thru (by intro e; cases e) ?_
        refine QE.blockE ?_
        refine QE.then ?_
        refine CP.seq ?_
        refine CP.region ?_
        refine SP.val (Val.move rfl) rfl rfl rfl ?_
        refine SP.val (Val.move rfl) rfl rfl rfl ?_
        refine SP.val (Val.lenW (fun w2 hw => slO.whole (St.own 0 rfl see.sub see.dj hw)) Tryd.underlying27 rfl) rfl rfl rfl ?_
        refine SP.val (Val.move rfl) rfl rfl rfl ?_
        refine SP.val (Val.lenP see 0 rfl Tryd.underlying22 rfl) rfl rfl rfl ?_
        refine SP.val (Val.eql rfl rfl) rfl rfl rfl ?_
        refine SP.val (Val.assign rfl) rfl rfl rfl ?_
        refine SP.val (Val.assign rfl) rfl rfl rfl ?_
        refine SP.nil ?_
        refine QE.then ?_
        refine CP.ret ?_
        obtain rfl := Option.some.inj ho
        obtain rfl := Option.some.inj hr
        exact QE.rets (rs := [.tmp 2, .tmp 3]) (vs := [v4, .bool (decide ((t3.1.length : Int) = (l_0.length : Int)))]) Tryd.results19 rfl ⟨RVs.tmp rfl, RVs.tmp rfl, trivial⟩ (fun w2 h => St.done (fun a b p s => ⟨_, rfl, s⟩) (St.selO [0] rfl rfl h))
/-! ### capstan/capstanlaw09.exact: function 20 -/
inductive capstanlaw09_exact_s1.S where
  | start
  | l1 (x27 : Int)

def capstanlaw09_exact_s1.j1 (l_0 : (List api_Instr)) (n_1 : (List Int)) (came_2_3 : List Int) (a3 : Int) (x27 : Int) (b45 : Bool) : Option (capstanlaw09_exact_s1.S ⊕ Bool) :=
  if b45 = true then (some (.inr false)) else (some (.inl (.l1 (IntKind.i64.wrap (x27 + 1)))))

def capstanlaw09_exact_s1.F (l_0 : (List api_Instr)) (n_1 : (List Int)) (came_2_3 : List Int) (a3 : Int) : capstanlaw09_exact_s1.S → Option (capstanlaw09_exact_s1.S ⊕ Bool)
  | .start => some (.inl (.l1 0))
  | .l1 x27 => if x27 < a3 then ((elt n_1 x27).bind fun x32 => (elt came_2_3 x27).bind fun x39 => if x39 ≠ x32 then ((elt n_1 a3).bind fun x43 => capstanlaw09_exact_s1.j1 l_0 n_1 came_2_3 a3 x27 (decide (x43 = 1))) else (capstanlaw09_exact_s1.j1 l_0 n_1 came_2_3 a3 x27 false)) else (some (.inr true))

def capstanlaw09_exact_s1.f (l_0 : (List api_Instr)) (n_1 : (List Int)) (came_2_3 : List Int) (a3 : Int) : Option Bool := runF (capstanlaw09_exact_s1.F l_0 n_1 came_2_3 a3) .start
theorem capstanlaw09_exact_s1.ok (l_0 : (List api_Instr)) (n_1 : (List Int)) (came_2_3 : List Int) (a3 : Int) (v_l_0 : Value) (v_n_1 : Value)  (r : Bool) (H : capstanlaw09_exact_s1.f l_0 n_1 came_2_3 a3 = some r) (w : World) (hV : Hp) (sV : Sub hV (hp w)) (h0 : slR k_api_Instr hV v_l_0 l_0) (h1 : slR (kInt .i64) hV v_n_1 n_1) (h2 : (lenP came_2_3.length 300).p hV) :
    Trip Tryd.prog 20 [v_l_0, v_n_1, .agg (List.map (fun z : Int => Value.int .i64 z) came_2_3).toArray, .int .i64 a3].toArray em hV w (fun v => HO.pure (v = .bool r)) := by
  have see : Sees w em hV := ⟨sV, Dj.em_right _⟩
  refine Trip.of (P := Tryd.prog) (n := ⟨30, []⟩) Tryd.func20 rfl ⟨rfl, rfl⟩ rfl (St.begin (All.cons (x := slP k_api_Instr v_l_0 l_0) h0 (All.cons (x := slP (kInt .i64) v_n_1 n_1) h1 (All.cons (x := lenP came_2_3.length 300) h2 (All.nil _))))) ?_
  obtain ⟨n0, hi⟩ := runF_iff.1 H
  obtain ⟨m0, o, hm0, ho, hr⟩ := iter_some hi
  clear hi
  refine CP.seq ?_
  refine CP.region ?_
  refine SP.box (cs := List.map (fun z : Int => Value.int .i64 z) came_2_3) rfl rfl rfl rfl (fun b5 => ?_)
  refine SP.have (q := came_2_3.length = 300) (fun w2 h => St.pers (x := lenP came_2_3.length 300) 2 rfl see.sub see.dj h) (fun hl7 => ?_)
  refine SP.imp (fun w2 hw => St.arr (f := (fun z : Int => Value.int .i64 z)) 0 rfl came_2_3 [] [] (List.append_nil _).symm hl7 hw) ?_
  refine SP.val (Val.assign rfl) rfl rfl rfl ?_
  refine SP.nil ?_
  refine QE.then ?_
  refine CP.seq ?_
  refine CP.seq ?_
  refine CP.region ?_
  refine SP.val (Val.assign rfl) rfl rfl rfl ?_
  refine SP.nil ?_
  refine QE.then ?_
  refine CP.block ?_
  obtain rfl := Option.some.inj ho
  refine CP.loop (fun cl1 a w2 => ∃ x27 : Int, cl1 ≤ m0 ∧ iter (capstanlaw09_exact_s1.F l_0 n_1 came_2_3 a3) cl1 (.l1 x27) = some r ∧ Env ⟨30, []⟩ [(1, v_n_1), (3, .int .i64 a3), (6, .pointer (some ⟨b5, 0, none⟩)), (9, .int .i64 x27)] a ∧ St w em hV [slP (kInt .i64) v_n_1 n_1] [arrO b5 [] (fun z : Int => Value.int .i64 z) 300 came_2_3 [] 50] w2) m0 (fun a w2 ha hw => ⟨0, Nat.le_refl _, hr, ha.sub ⟨rfl, rfl, rfl, rfl, trivial⟩, (St.selP [1] rfl hw)⟩) ?_
  clear hr
  rintro cl1 a w2 ⟨x27, hc_l1, hi, ha, hw⟩
  obtain ⟨m28, o, hm_m28, ho, hr⟩ := iter_some hi
  refine CP.app ha hw ?_
  clear ha hw a w2 hi
  refine CP.seq ?_
  refine CP.seq ?_
  refine CP.region ?_
  refine SP.val (Val.move rfl) rfl rfl rfl ?_
  refine SP.val (Val.move rfl) rfl rfl rfl ?_
  refine SP.val (Val.lss rfl rfl) rfl rfl rfl ?_
  refine SP.nil ?_
  refine QE.then ?_
  rcases if_some ho with ⟨hc, ho⟩ | ⟨hc, ho⟩
  · refine CP.condT rfl (decide_eq_true hc) ?_
    refine CP.skip ?_
    refine QE.then ?_
    refine CP.seq ?_
    refine CP.block ?_
    refine CP.join (fun a w2 => ∃ b45 : Bool, ∃ (m46 : Nat) (o : (capstanlaw09_exact_s1.S ⊕ Bool)), m46 ≤ m28 ∧ capstanlaw09_exact_s1.j1 l_0 n_1 came_2_3 a3 x27 b45 = some o ∧ next (capstanlaw09_exact_s1.F l_0 n_1 came_2_3 a3) m46 o = some r ∧ Env ⟨30, []⟩ [(1, v_n_1), (3, .int .i64 a3), (6, .pointer (some ⟨b5, 0, none⟩)), (9, .int .i64 x27), (29, .bool b45)] a ∧ St w em hV [slP (kInt .i64) v_n_1 n_1] [arrO b5 [] (fun z : Int => Value.int .i64 z) 300 came_2_3 [] 50] w2) ?_ ?_
    · rintro a w2 ⟨b45, m46, o, hm_m46, ho, hr, ha, hw⟩
      refine CP.app ha hw ?_
      clear ha hw a w2
      rcases if_some ho with ⟨hc, ho⟩ | ⟨hc, ho⟩
      · refine CP.condT rfl hc ?_
        refine CP.seq ?_
        refine CP.region ?_
        refine SP.val (Val.assign rfl) rfl rfl rfl ?_
        refine SP.nil ?_
        refine QE.then ?_
        refine CP.ret ?_
        refine QE.blockR ?_
        refine QE.thru (by intro e; cases e) ?_
        refine QE.thru (by intro e; cases e) ?_
        refine QE.blockR ?_
        refine QE.thru (by intro e; cases e) ?_
        obtain rfl := Option.some.inj ho
        obtain rfl := Option.some.inj hr
        exact QE.rets (rs := [.tmp 8]) (vs := [.bool false]) Tryd.results20 rfl ⟨RVs.tmp rfl, trivial⟩ (fun w2 h => St.done (fun a b p s => rfl) h)
      · refine CP.condF rfl (bf hc) ?_
        refine CP.skip ?_
        refine QE.blockN ?_
        refine QE.then ?_
        refine CP.region ?_
        refine SP.val (Val.move rfl) rfl rfl rfl ?_
        refine SP.val (Val.add rfl rfl) rfl rfl rfl ?_
        refine SP.val (Val.assign rfl) rfl rfl rfl ?_
        refine SP.nil ?_
        obtain rfl := Option.some.inj ho
        exact QE.lower m46 (by omega) fun a w2 ha hw => ⟨(IntKind.i64.wrap (x27 + 1)), (by omega), hr, ha.sub ⟨rfl, rfl, rfl, rfl, trivial⟩, hw⟩
    · refine CP.drawA (by kernel_rfl) (fun w2 k h => h.drawn k) ?_
      obtain ⟨x32, hx, ho⟩ := bind_some ho
      have hx := elt_some hx
      refine DA.ghost (fun w2 h => h.elem see 0 rfl hx.1 hx.2) (fun p30 h_p30 => ?_)
      clear hx
      refine DA.ghost (fun w2 h => h.openE see 0 rfl (fun _ : Unit => [.int .i64 x32]) (fun _ => []) (fun h cs e => ⟨(), e, All.nil _⟩)) (fun _ _ => ?_)
      refine DA.phase (fun i => Nat.ble 0 i && Nat.blt i 7) (fun w2 => St w em hV [atP p30 [.int .i64 x32], elP (kInt .i64) p30 x32, slP (kInt .i64) v_n_1 n_1] [arrO b5 [] (fun z : Int => Value.int .i64 z) 300 came_2_3 [] 50] w2) ?_
      refine DT.take 0 rfl rfl rfl rfl (by kernel_rfl) (fun _ _ _ h => h) (Val.move rfl) (fun w2 hw => hw) ?_
      refine DT.take 3 rfl rfl rfl rfl (by kernel_rfl) (fun _ _ _ h => h) (Val.move rfl) (fun w2 hw => hw) ?_
      refine DT.take 4 rfl rfl rfl rfl (by kernel_rfl) (fun _ _ _ h => h) (Val.move rfl) (fun w2 hw => hw) ?_
      refine DT.take 5 rfl rfl rfl rfl (by kernel_rfl) (fun _ _ _ h => h) (Val.indexE h_p30 Tryd.underlying27 sz3 rfl rfl) (fun w2 hw => hw) ?_
      refine DT.take 6 rfl rfl rfl rfl (by kernel_rfl) (fun _ _ _ h => h) (Val.loadAt1 see 0 rfl Tryd.underlying3 rfl rfl) (fun w2 hw => hw) ?_
      refine DT.one 1 rfl (by kernel_rfl) rfl ?_
      obtain ⟨x39, hx_x39, ho⟩ := bind_some ho
      have hx_x39 := elt_some hx_x39
      refine SP.val (Val.indexArr 0 rfl Tryd.underlying50 sz3 hx_x39.1 hx_x39.2 rfl rfl rfl) rfl rfl rfl ?_
      refine SP.nil ?_
      refine QE.atT (fun w2 hw => hw) ?_
      refine DT.take 2 rfl rfl rfl rfl (by kernel_rfl) (fun _ _ _ h => h) (Val.loadArr 0 rfl Tryd.underlying3 rfl hx_x39.2 rfl rfl) (fun w2 hw => hw) ?_
      refine DT.next (by kernel_rfl) ?_
      refine DA.one 7 rfl (by kernel_rfl) ?_
      refine SP.val (Val.neq rfl rfl) rfl rfl rfl ?_
      refine SP.nil ?_
      refine QE.atA ?_
      refine DA.one 8 rfl (by kernel_rfl) ?_
      refine SP.val (Val.move rfl) rfl rfl rfl ?_
      refine SP.nil ?_
      refine QE.atA ?_
      rcases if_some ho with ⟨hc, ho⟩ | ⟨hc, ho⟩
      · have hg40 := (decide_eq_true hc)
        clear hc
        refine DA.phase (fun i => Nat.ble 9 i && Nat.blt i 11) (fun w2 => St w em hV [atP p30 [.int .i64 x32], elP (kInt .i64) p30 x32, slP (kInt .i64) v_n_1 n_1] [arrO b5 [] (fun z : Int => Value.int .i64 z) 300 came_2_3 [] 50] w2) ?_
        refine DT.is (d := 23) (b := true) rfl hg40 ?_
        refine DT.take 9 rfl rfl rfl rfl (by kernel_rfl) (fun _ _ _ h => h) (Val.move rfl) (fun w2 hw => hw) ?_
        refine DT.take 10 rfl rfl rfl rfl (by kernel_rfl) (fun _ _ _ h => h) (Val.move rfl) (fun w2 hw => hw) ?_
        refine DT.next (by kernel_rfl) ?_
        refine DA.one 11 rfl (by kernel_rfl) ?_
        obtain ⟨x43, hx, ho⟩ := bind_some ho
        have hx := elt_some hx
        refine SP.indexP see 2 rfl Tryd.underlying27 sz3 hx.1 hx.2 rfl rfl rfl rfl (fun p41 => ?_)
        clear hx
        refine SP.nil ?_
        refine QE.atA ?_
        refine DA.one 12 rfl (by kernel_rfl) ?_
        refine SP.val (Val.loadP1 see 0 rfl (fun _ _ e => e) Tryd.underlying3 rfl rfl) rfl rfl rfl ?_
        refine SP.nil ?_
        refine QE.atA ?_
        refine DA.one 13 rfl (by kernel_rfl) ?_
        refine SP.val (Val.eql rfl rfl) rfl rfl rfl ?_
        refine SP.nil ?_
        refine QE.atA ?_
        refine DA.one 14 rfl (by kernel_rfl) ?_
        refine SP.val (Val.pickT rfl rfl) rfl rfl rfl ?_
        refine SP.nil ?_
        refine QE.atA ?_
        refine DA.done (by kernel_rfl) ?_
        exact QE.meet fun a w2 ha hw => ⟨(decide (x43 = 1)), m28, _, (by omega), ho, hr, ha.sub ⟨rfl, rfl, rfl, rfl, rfl, trivial⟩, (St.selP [3] rfl hw)⟩
      · have hg44 := (decide_eq_false hc)
        clear hc
        refine DA.phase (fun i => Nat.ble 9 i && Nat.blt i 11) (fun w2 => St w em hV [atP p30 [.int .i64 x32], elP (kInt .i64) p30 x32, slP (kInt .i64) v_n_1 n_1] [arrO b5 [] (fun z : Int => Value.int .i64 z) 300 came_2_3 [] 50] w2) ?_
        refine DT.is (d := 23) (b := false) rfl hg44 ?_
        refine DT.not 9 rfl rfl rfl rfl (by kernel_rfl) (fun _ _ _ h => h) (fun w2 hw => hw) ?_
        refine DT.not 10 rfl rfl rfl rfl (by kernel_rfl) (fun _ _ _ h => h) (fun w2 hw => hw) ?_
        refine DT.next (by kernel_rfl) ?_
        refine DA.phase (fun i => Nat.ble 11 i && Nat.blt i 12) (fun w2 => St w em hV [atP p30 [.int .i64 x32], elP (kInt .i64) p30 x32, slP (kInt .i64) v_n_1 n_1] [arrO b5 [] (fun z : Int => Value.int .i64 z) 300 came_2_3 [] 50] w2) ?_
        refine DT.not 11 rfl rfl rfl rfl (by kernel_rfl) (fun _ _ _ h => h) (fun w2 hw => hw) ?_
        refine DT.next (by kernel_rfl) ?_
        refine DA.phase (fun i => Nat.ble 12 i && Nat.blt i 13) (fun w2 => St w em hV [atP p30 [.int .i64 x32], elP (kInt .i64) p30 x32, slP (kInt .i64) v_n_1 n_1] [arrO b5 [] (fun z : Int => Value.int .i64 z) 300 came_2_3 [] 50] w2) ?_
        refine DT.not 12 rfl rfl rfl rfl (by kernel_rfl) (fun _ _ _ h => h) (fun w2 hw => hw) ?_
        refine DT.next (by kernel_rfl) ?_
        refine DA.phase (fun i => Nat.ble 13 i && Nat.blt i 14) (fun w2 => St w em hV [atP p30 [.int .i64 x32], elP (kInt .i64) p30 x32, slP (kInt .i64) v_n_1 n_1] [arrO b5 [] (fun z : Int => Value.int .i64 z) 300 came_2_3 [] 50] w2) ?_
        refine DT.not 13 rfl rfl rfl rfl (by kernel_rfl) (fun _ _ _ h => h) (fun w2 hw => hw) ?_
        refine DT.next (by kernel_rfl) ?_
        refine DA.one 14 rfl (by kernel_rfl) ?_
        refine SP.val (Val.pickF rfl rfl) rfl rfl rfl ?_
        refine SP.nil ?_
        refine QE.atA ?_
        refine DA.done (by kernel_rfl) ?_
        exact QE.meet fun a w2 ha hw => ⟨false, m28, _, (by omega), ho, hr, ha.sub ⟨rfl, rfl, rfl, rfl, rfl, trivial⟩, (St.selP [2] rfl hw)⟩
  · refine CP.condF rfl (decide_eq_false hc) ?_
    refine CP.exit ?_
    refine QE.thru (by intro e; cases e) ?_
    refine QE.thru (by intro e; cases e) ?_
    refine QE.blockE ?_
    refine QE.then ?_
    refine CP.seq ?_
    refine CP.region ?_
    refine SP.val (Val.assign rfl) rfl rfl rfl ?_
    refine SP.nil ?_
    refine QE.then ?_
    refine CP.ret ?_
    obtain rfl := Option.some.inj ho
    obtain rfl := Option.some.inj hr
    exact QE.rets (rs := [.tmp 8]) (vs := [.bool true]) Tryd.results20 rfl ⟨RVs.tmp rfl, trivial⟩ (fun w2 h => St.done (fun a b p s => rfl) h)
/-! ### capstan/capstanlaw09.FlowEnds: function 5 -/
inductive capstanlaw09_FlowEnds.S where
  | start
  | l1 (t4 : (List Int) × Bool) (l134 : List Int) (l135 : List Int) (x136 : Int) (x137 : Int) (b138 : Bool) (x139 : Int)

def capstanlaw09_FlowEnds.j1 (l_0 : (List api_Instr)) (ways_1 : (List Bool)) (t4 : (List Int) × Bool) (l135 : List Int) (x136 : Int) (x139 : Int) (x143 : Int) (l184 : List Int) (x185 : Int) (b186 : Bool) (x187 : Int) : Option (capstanlaw09_FlowEnds.S ⊕ Bool) :=
  some (.inl (.l1 t4 l184 (l135.set x136.toNat (IntKind.i64.wrap (x143 + 1))) x187 x185 b186 (IntKind.i64.wrap (x139 + 1))))

def capstanlaw09_FlowEnds.j2 (l_0 : (List api_Instr)) (ways_1 : (List Bool)) (t4 : (List Int) × Bool) (l134 : List Int) (l135 : List Int) (x136 : Int) (x137 : Int) (x139 : Int) (x143 : Int) (x182 : Int) : Option (capstanlaw09_FlowEnds.S ⊕ Bool) :=
  capstanlaw09_FlowEnds.j1 l_0 ways_1 t4 l135 x136 x139 x143 l134 (IntKind.i64.wrap (x137 + 1)) false x182

def capstanlaw09_FlowEnds.F (l_0 : (List api_Instr)) (ways_1 : (List Bool)) : capstanlaw09_FlowEnds.S → Option (capstanlaw09_FlowEnds.S ⊕ Bool)
  | .start => (capstanlaw09_awake.f ).bind fun t3 => if (!t3) = true then (some (.inr false)) else ((capstanlaw09_flows.f l_0).bind fun t4 => if (!t4.2) = true then (some (.inr true)) else (some (.inl (.l1 t4 (List.replicate 300 0 : List Int) (List.replicate 300 0 : List Int) 0 0 true 0))))
  | .l1 t4 l134 l135 x136 x137 b138 x139 => if x139 ≤ 20000 then (if ((decide (x136 < 0)) || (decide (x136 ≥ (l_0.length : Int)))) = true then (some (.inr false)) else ((elt l135 x136).bind fun x143 => (elt l135 x136).bind fun x144 => (elt t4.1 x136).bind fun x148 => (elt (l135.set x136.toNat (IntKind.i64.wrap (x143 + 1))) x136).bind fun x155 => if x155 > x148 then (some (.inr false)) else ((elt l_0 x136).bind fun x158 => if ((decide (x158.Op = 31)) || (decide (x158.Op = 32))) = true then ((if (!b138) = true then (some true) else ((capstanlaw09_exact_s1.f l_0 t4.1 (l135.set x136.toNat (IntKind.i64.wrap (x143 + 1))) x136).bind fun t166 => some t166)).bind fun t167 => some (.inr t167)) else (if ((decide (x158.Op = 29)) && ((decide (x158.A < 0)) || (decide (x158.A ≥ (l_0.length : Int))))) = true then (some (.inr false)) else (if x158.Op = 28 then ((elt l134 x136).bind fun x172 => capstanlaw09_FlowEnds.j1 l_0 ways_1 t4 l135 x136 x139 x143 (l134.set x136.toNat x158.A) x137 b138 (IntKind.i64.wrap (x136 + 1))) else (if x158.Op = 29 then ((elt l134 x158.A).bind fun x173 => (elt l134 x158.A).bind fun x174 => (elt (l134.set x158.A.toNat (IntKind.i64.wrap (x173 - 1))) x158.A).bind fun x175 => if x175 > 0 then (capstanlaw09_FlowEnds.j1 l_0 ways_1 t4 l135 x136 x139 x143 (l134.set x158.A.toNat (IntKind.i64.wrap (x173 - 1))) x137 b138 (IntKind.i64.wrap (x158.A + 1))) else (capstanlaw09_FlowEnds.j1 l_0 ways_1 t4 l135 x136 x139 x143 (l134.set x158.A.toNat (IntKind.i64.wrap (x173 - 1))) x137 b138 (IntKind.i64.wrap (x136 + 1)))) else (if x158.Op = 26 then (capstanlaw09_FlowEnds.j1 l_0 ways_1 t4 l135 x136 x139 x143 l134 x137 false x158.A) else (if x158.Op = 27 then ((if x137 < (ways_1.length : Int) then ((elt ways_1 x137).bind fun x180 => some x180) else (some false)).bind fun t181 => if t181 = true then (capstanlaw09_FlowEnds.j2 l_0 ways_1 t4 l134 l135 x136 x137 x139 x143 x158.A) else (capstanlaw09_FlowEnds.j2 l_0 ways_1 t4 l134 l135 x136 x137 x139 x143 (IntKind.i64.wrap (x136 + 1)))) else (capstanlaw09_FlowEnds.j1 l_0 ways_1 t4 l135 x136 x139 x143 l134 x137 b138 (IntKind.i64.wrap (x136 + 1))))))))))) else (some (.inr false))

def capstanlaw09_FlowEnds.f (l_0 : (List api_Instr)) (ways_1 : (List Bool)) : Option Bool := runF (capstanlaw09_FlowEnds.F l_0 ways_1) .start
theorem capstanlaw09_FlowEnds.ok (l_0 : (List api_Instr)) (ways_1 : (List Bool)) (v_l_0 : Value) (v_ways_1 : Value)  (r : Bool) (H : capstanlaw09_FlowEnds.f l_0 ways_1 = some r) (w : World) (hV : Hp) (sV : Sub hV (hp w)) (h0 : slR k_api_Instr hV v_l_0 l_0) (h1 : slR kBool hV v_ways_1 ways_1) (h2 : (arrP k_arr88 0 tab0).p hV) :
    Trip Tryd.prog 5 [v_l_0, v_ways_1].toArray em hV w (fun v => HO.pure (v = .bool r)) := by
  have see : Sees w em hV := ⟨sV, Dj.em_right _⟩
  refine Trip.of (P := Tryd.prog) (n := ⟨132, []⟩) Tryd.func5 rfl ⟨rfl, rfl⟩ rfl (St.begin (All.cons (x := slP k_api_Instr v_l_0 l_0) h0 (All.cons (x := slP kBool v_ways_1 ways_1) h1 (All.cons (x := arrP k_arr88 0 tab0) h2 (All.nil _))))) ?_
  obtain ⟨n0, hi⟩ := runF_iff.1 H
  obtain ⟨m0, o, hm0, ho, hr⟩ := iter_some hi
  clear hi
  refine CP.seq ?_
  refine CP.region ?_
  refine SP.val (Val.assign rfl) rfl rfl rfl ?_
  refine SP.nil ?_
  refine QE.then ?_
  refine CP.seq ?_
  refine CP.seq ?_
  refine CP.region ?_
  obtain ⟨t3, hc, ho⟩ := bind_some (x := capstanlaw09_awake.f ) ho
  refine SP.callV see (caps := []) (.bool t3) fn18 rfl rfl rfl rfl (fun w2 hP hs sub ap => capstanlaw09_awake.ok   _ hc w2 hP sub (ap.get 2 rfl)) ?_
  clear hc
  refine SP.val (Val.notB rfl) rfl rfl rfl ?_
  refine SP.nil ?_
  refine QE.then ?_
  rcases if_some ho with ⟨hc, ho⟩ | ⟨hc, ho⟩
  · refine CP.condT rfl hc ?_
    refine CP.seq ?_
    refine CP.region ?_
    refine SP.val (Val.assign rfl) rfl rfl rfl ?_
    refine SP.nil ?_
    refine QE.then ?_
    refine CP.ret ?_
    refine QE.thru (by intro e; cases e) ?_
    obtain rfl := Option.some.inj ho
    obtain rfl := Option.some.inj hr
    exact QE.rets (rs := [.tmp 4]) (vs := [.bool false]) Tryd.results5 rfl ⟨RVs.tmp rfl, trivial⟩ (fun w2 h => St.done (fun a b p s => rfl) h)
  · refine CP.condF rfl (bf hc) ?_
    refine CP.skip ?_
    refine QE.then ?_
    refine CP.seq ?_
    refine CP.region ?_
    refine SP.val (Val.move rfl) rfl rfl rfl ?_
    obtain ⟨t4, hc, ho⟩ := bind_some (x := capstanlaw09_flows.f l_0) ho
    refine SP.callK see (caps := []) _ fn19 rfl rfl rfl rfl (fun w2 hP hs sub ap => capstanlaw09_flows.ok l_0 _ _ hc w2 hP sub (ap.get 0 rfl) (ap.get 2 rfl)) (fun vr => ?_)
    refine SP.ex (fun w2 h => St.open h) (fun v5 => ?_)
    refine SP.have (fun w2 h => (St.pand h).1.symm) (fun er => ?_)
    subst er
    refine SP.imp (fun w2 h => St.seps (St.pand h).2) ?_
    clear hc
    refine SP.val (Val.move rfl) rfl rfl rfl ?_
    refine SP.val (Val.extract rfl rfl) rfl rfl rfl ?_
    refine SP.val (Val.extract rfl rfl) rfl rfl rfl ?_
    refine SP.val (Val.assign rfl) rfl rfl rfl ?_
    refine SP.val (Val.assign rfl) rfl rfl rfl ?_
    refine SP.nil ?_
    refine QE.then ?_
    refine CP.seq ?_
    refine CP.seq ?_
    refine CP.region ?_
    refine SP.val (Val.move rfl) rfl rfl rfl ?_
    refine SP.val (Val.notB rfl) rfl rfl rfl ?_
    refine SP.nil ?_
    refine QE.then ?_
    rcases if_some ho with ⟨hc, ho⟩ | ⟨hc, ho⟩
    · refine CP.condT rfl hc ?_
      refine CP.seq ?_
      refine CP.region ?_
      refine SP.val (Val.assign rfl) rfl rfl rfl ?_
      refine SP.nil ?_
      refine QE.then ?_
      refine CP.ret ?_
      refine QE.thru (by intro e; cases e) ?_
      obtain rfl := Option.some.inj ho
      obtain rfl := Option.some.inj hr
      exact QE.rets (rs := [.tmp 4]) (vs := [.bool true]) Tryd.results5 rfl ⟨RVs.tmp rfl, trivial⟩ (fun w2 h => St.done (fun a b p s => rfl) h)
    · refine CP.condF rfl (bf hc) ?_
      refine CP.skip ?_
      refine QE.then ?_
      refine CP.seq ?_
      refine CP.region ?_
      refine SP.alloc (cs := [.int .i64 0, .int .i64 0, .int .i64 0, .int .i64 0, .int .i64 0, .int .i64 0, .int .i64 0, .int .i64 0, .int .i64 0, .int .i64 0, .int .i64 0, .int .i64 0, .int .i64 0, .int .i64 0, .int .i64 0, .int .i64 0, .int .i64 0, .int .i64 0, .int .i64 0, .int .i64 0, .int .i64 0, .int .i64 0, .int .i64 0, .int .i64 0, .int .i64 0, .int .i64 0, .int .i64 0, .int .i64 0, .int .i64 0, .int .i64 0, .int .i64 0, .int .i64 0, .int .i64 0, .int .i64 0, .int .i64 0, .int .i64 0, .int .i64 0, .int .i64 0, .int .i64 0, .int .i64 0, .int .i64 0, .int .i64 0, .int .i64 0, .int .i64 0, .int .i64 0, .int .i64 0, .int .i64 0, .int .i64 0, .int .i64 0, .int .i64 0, .int .i64 0, .int .i64 0, .int .i64 0, .int .i64 0, .int .i64 0, .int .i64 0, .int .i64 0, .int .i64 0, .int .i64 0, .int .i64 0, .int .i64 0, .int .i64 0, .int .i64 0, .int .i64 0, .int .i64 0, .int .i64 0, .int .i64 0, .int .i64 0, .int .i64 0, .int .i64 0, .int .i64 0, .int .i64 0, .int .i64 0, .int .i64 0, .int .i64 0, .int .i64 0, .int .i64 0, .int .i64 0, .int .i64 0, .int .i64 0, .int .i64 0, .int .i64 0, .int .i64 0, .int .i64 0, .int .i64 0, .int .i64 0, .int .i64 0, .int .i64 0, .int .i64 0, .int .i64 0, .int .i64 0, .int .i64 0, .int .i64 0, .int .i64 0, .int .i64 0, .int .i64 0, .int .i64 0, .int .i64 0, .int .i64 0, .int .i64 0, .int .i64 0, .int .i64 0, .int .i64 0, .int .i64 0, .int .i64 0, .int .i64 0, .int .i64 0, .int .i64 0, .int .i64 0, .int .i64 0, .int .i64 0, .int .i64 0, .int .i64 0, .int .i64 0, .int .i64 0, .int .i64 0, .int .i64 0, .int .i64 0, .int .i64 0, .int .i64 0, .int .i64 0, .int .i64 0, .int .i64 0, .int .i64 0, .int .i64 0, .int .i64 0, .int .i64 0, .int .i64 0, .int .i64 0, .int .i64 0, .int .i64 0, .int .i64 0, .int .i64 0, .int .i64 0, .int .i64 0, .int .i64 0, .int .i64 0, .int .i64 0, .int .i64 0, .int .i64 0, .int .i64 0, .int .i64 0, .int .i64 0, .int .i64 0, .int .i64 0, .int .i64 0, .int .i64 0, .int .i64 0, .int .i64 0, .int .i64 0, .int .i64 0, .int .i64 0, .int .i64 0, .int .i64 0, .int .i64 0, .int .i64 0, .int .i64 0, .int .i64 0, .int .i64 0, .int .i64 0, .int .i64 0, .int .i64 0, .int .i64 0, .int .i64 0, .int .i64 0, .int .i64 0, .int .i64 0, .int .i64 0, .int .i64 0, .int .i64 0, .int .i64 0, .int .i64 0, .int .i64 0, .int .i64 0, .int .i64 0, .int .i64 0, .int .i64 0, .int .i64 0, .int .i64 0, .int .i64 0, .int .i64 0, .int .i64 0, .int .i64 0, .int .i64 0, .int .i64 0, .int .i64 0, .int .i64 0, .int .i64 0, .int .i64 0, .int .i64 0, .int .i64 0, .int .i64 0, .int .i64 0, .int .i64 0, .int .i64 0, .int .i64 0, .int .i64 0, .int .i64 0, .int .i64 0, .int .i64 0, .int .i64 0, .int .i64 0, .int .i64 0, .int .i64 0, .int .i64 0, .int .i64 0, .int .i64 0, .int .i64 0, .int .i64 0, .int .i64 0, .int .i64 0, .int .i64 0, .int .i64 0, .int .i64 0, .int .i64 0, .int .i64 0, .int .i64 0, .int .i64 0, .int .i64 0, .int .i64 0, .int .i64 0, .int .i64 0, .int .i64 0, .int .i64 0, .int .i64 0, .int .i64 0, .int .i64 0, .int .i64 0, .int .i64 0, .int .i64 0, .int .i64 0, .int .i64 0, .int .i64 0, .int .i64 0, .int .i64 0, .int .i64 0, .int .i64 0, .int .i64 0, .int .i64 0, .int .i64 0, .int .i64 0, .int .i64 0, .int .i64 0, .int .i64 0, .int .i64 0, .int .i64 0, .int .i64 0, .int .i64 0, .int .i64 0, .int .i64 0, .int .i64 0, .int .i64 0, .int .i64 0, .int .i64 0, .int .i64 0, .int .i64 0, .int .i64 0, .int .i64 0, .int .i64 0, .int .i64 0, .int .i64 0, .int .i64 0, .int .i64 0, .int .i64 0, .int .i64 0, .int .i64 0, .int .i64 0, .int .i64 0, .int .i64 0, .int .i64 0, .int .i64 0, .int .i64 0, .int .i64 0, .int .i64 0, .int .i64 0, .int .i64 0, .int .i64 0, .int .i64 0, .int .i64 0, .int .i64 0, .int .i64 0, .int .i64 0, .int .i64 0, .int .i64 0, .int .i64 0, .int .i64 0, .int .i64 0, .int .i64 0, .int .i64 0, .int .i64 0, .int .i64 0, .int .i64 0, .int .i64 0, .int .i64 0, .int .i64 0, .int .i64 0, .int .i64 0, .int .i64 0, .int .i64 0, .int .i64 0]) inf50 rfl rfl (fun b7 => ?_)
      refine SP.alloc (cs := [.int .i64 0, .int .i64 0, .int .i64 0, .int .i64 0, .int .i64 0, .int .i64 0, .int .i64 0, .int .i64 0, .int .i64 0, .int .i64 0, .int .i64 0, .int .i64 0, .int .i64 0, .int .i64 0, .int .i64 0, .int .i64 0, .int .i64 0, .int .i64 0, .int .i64 0, .int .i64 0, .int .i64 0, .int .i64 0, .int .i64 0, .int .i64 0, .int .i64 0, .int .i64 0, .int .i64 0, .int .i64 0, .int .i64 0, .int .i64 0, .int .i64 0, .int .i64 0, .int .i64 0, .int .i64 0, .int .i64 0, .int .i64 0, .int .i64 0, .int .i64 0, .int .i64 0, .int .i64 0, .int .i64 0, .int .i64 0, .int .i64 0, .int .i64 0, .int .i64 0, .int .i64 0, .int .i64 0, .int .i64 0, .int .i64 0, .int .i64 0, .int .i64 0, .int .i64 0, .int .i64 0, .int .i64 0, .int .i64 0, .int .i64 0, .int .i64 0, .int .i64 0, .int .i64 0, .int .i64 0, .int .i64 0, .int .i64 0, .int .i64 0, .int .i64 0, .int .i64 0, .int .i64 0, .int .i64 0, .int .i64 0, .int .i64 0, .int .i64 0, .int .i64 0, .int .i64 0, .int .i64 0, .int .i64 0, .int .i64 0, .int .i64 0, .int .i64 0, .int .i64 0, .int .i64 0, .int .i64 0, .int .i64 0, .int .i64 0, .int .i64 0, .int .i64 0, .int .i64 0, .int .i64 0, .int .i64 0, .int .i64 0, .int .i64 0, .int .i64 0, .int .i64 0, .int .i64 0, .int .i64 0, .int .i64 0, .int .i64 0, .int .i64 0, .int .i64 0, .int .i64 0, .int .i64 0, .int .i64 0, .int .i64 0, .int .i64 0, .int .i64 0, .int .i64 0, .int .i64 0, .int .i64 0, .int .i64 0, .int .i64 0, .int .i64 0, .int .i64 0, .int .i64 0, .int .i64 0, .int .i64 0, .int .i64 0, .int .i64 0, .int .i64 0, .int .i64 0, .int .i64 0, .int .i64 0, .int .i64 0, .int .i64 0, .int .i64 0, .int .i64 0, .int .i64 0, .int .i64 0, .int .i64 0, .int .i64 0, .int .i64 0, .int .i64 0, .int .i64 0, .int .i64 0, .int .i64 0, .int .i64 0, .int .i64 0, .int .i64 0, .int .i64 0, .int .i64 0, .int .i64 0, .int .i64 0, .int .i64 0, .int .i64 0, .int .i64 0, .int .i64 0, .int .i64 0, .int .i64 0, .int .i64 0, .int .i64 0, .int .i64 0, .int .i64 0, .int .i64 0, .int .i64 0, .int .i64 0, .int .i64 0, .int .i64 0, .int .i64 0, .int .i64 0, .int .i64 0, .int .i64 0, .int .i64 0, .int .i64 0, .int .i64 0, .int .i64 0, .int .i64 0, .int .i64 0, .int .i64 0, .int .i64 0, .int .i64 0, .int .i64 0, .int .i64 0, .int .i64 0, .int .i64 0, .int .i64 0, .int .i64 0, .int .i64 0, .int .i64 0, .int .i64 0, .int .i64 0, .int .i64 0, .int .i64 0, .int .i64 0, .int .i64 0, .int .i64 0, .int .i64 0, .int .i64 0, .int .i64 0, .int .i64 0, .int .i64 0, .int .i64 0, .int .i64 0, .int .i64 0, .int .i64 0, .int .i64 0, .int .i64 0, .int .i64 0, .int .i64 0, .int .i64 0, .int .i64 0, .int .i64 0, .int .i64 0, .int .i64 0, .int .i64 0, .int .i64 0, .int .i64 0, .int .i64 0, .int .i64 0, .int .i64 0, .int .i64 0, .int .i64 0, .int .i64 0, .int .i64 0, .int .i64 0, .int .i64 0, .int .i64 0, .int .i64 0, .int .i64 0, .int .i64 0, .int .i64 0, .int .i64 0, .int .i64 0, .int .i64 0, .int .i64 0, .int .i64 0, .int .i64 0, .int .i64 0, .int .i64 0, .int .i64 0, .int .i64 0, .int .i64 0, .int .i64 0, .int .i64 0, .int .i64 0, .int .i64 0, .int .i64 0, .int .i64 0, .int .i64 0, .int .i64 0, .int .i64 0, .int .i64 0, .int .i64 0, .int .i64 0, .int .i64 0, .int .i64 0, .int .i64 0, .int .i64 0, .int .i64 0, .int .i64 0, .int .i64 0, .int .i64 0, .int .i64 0, .int .i64 0, .int .i64 0, .int .i64 0, .int .i64 0, .int .i64 0, .int .i64 0, .int .i64 0, .int .i64 0, .int .i64 0, .int .i64 0, .int .i64 0, .int .i64 0, .int .i64 0, .int .i64 0, .int .i64 0, .int .i64 0, .int .i64 0, .int .i64 0, .int .i64 0, .int .i64 0, .int .i64 0, .int .i64 0, .int .i64 0, .int .i64 0, .int .i64 0, .int .i64 0, .int .i64 0, .int .i64 0, .int .i64 0, .int .i64 0, .int .i64 0, .int .i64 0, .int .i64 0, .int .i64 0, .int .i64 0, .int .i64 0, .int .i64 0, .int .i64 0, .int .i64 0, .int .i64 0, .int .i64 0, .int .i64 0, .int .i64 0, .int .i64 0, .int .i64 0, .int .i64 0, .int .i64 0, .int .i64 0, .int .i64 0, .int .i64 0, .int .i64 0]) inf50 rfl rfl (fun b9 => ?_)
      refine SP.nil ?_
      refine QE.then ?_
      refine CP.seq ?_
      refine CP.region ?_
      refine SP.val (Val.assign rfl) rfl rfl rfl ?_
      refine SP.val (Val.assign rfl) rfl rfl rfl ?_
      refine SP.val (Val.assign rfl) rfl rfl rfl ?_
      refine SP.nil ?_
      refine QE.then ?_
      refine CP.seq ?_
      refine CP.seq ?_
      refine CP.region ?_
      refine SP.val (Val.assign rfl) rfl rfl rfl ?_
      refine SP.nil ?_
      refine QE.then ?_
      refine CP.block ?_
      refine CP.freezeS see 2 rfl ?_
      obtain rfl := Option.some.inj ho
      refine CP.loop (fun cl1 a w2 => ∃ l134 : List Int, ∃ l135 : List Int, ∃ x136 : Int, ∃ x137 : Int, ∃ b138 : Bool, ∃ x139 : Int, cl1 ≤ m0 ∧ iter (capstanlaw09_FlowEnds.F l_0 ways_1) cl1 (.l1 t4 l134 l135 x136 x137 b138 x139) = some r ∧ Env ⟨132, []⟩ [(0, v_l_0), (1, v_ways_1), (5, v5), (7, .pointer (some ⟨b7, 0, none⟩)), (8, .pointer (some ⟨b9, 0, none⟩)), (9, .int .i64 x136), (10, .int .i64 x137), (11, .bool b138), (12, .int .i64 x139)] a ∧ St w em hV [slP (kInt .i64) v5 t4.1, slP k_api_Instr v_l_0 l_0, slP kBool v_ways_1 ways_1, arrP k_arr88 0 tab0] [arrO b9 [] (fun z : Int => Value.int .i64 z) 300 l134 [] 50, arrO b7 [] (fun z : Int => Value.int .i64 z) 300 l135 [] 50] w2) m0 (fun a w2 ha hw => ⟨(List.replicate 300 0 : List Int), (List.replicate 300 0 : List Int), 0, 0, true, 0, Nat.le_refl _, hr, ha.sub ⟨rfl, rfl, rfl, rfl, rfl, rfl, rfl, rfl, rfl, trivial⟩, (St.arr (f := (fun z : Int => Value.int .i64 z)) 1 rfl (List.replicate 300 0 : List Int) [] [] rfl rfl (St.arr (f := (fun z : Int => Value.int .i64 z)) 0 rfl (List.replicate 300 0 : List Int) [] [] rfl rfl hw))⟩) ?_
      clear hr
      rintro cl1 a w2 ⟨l134, l135, x136, x137, b138, x139, hc_l1, hi, ha, hw⟩
      obtain ⟨m140, o, hm_m140, ho, hr⟩ := iter_some hi
      refine CP.app ha hw ?_
      clear ha hw a w2 hi
      refine CP.seq ?_
      refine CP.seq ?_
      refine CP.region ?_
      refine SP.val (Val.move rfl) rfl rfl rfl ?_
      refine SP.val (Val.leq rfl rfl) rfl rfl rfl ?_
      refine SP.nil ?_
      refine QE.then ?_
      rcases if_some ho with ⟨hc, ho⟩ | ⟨hc, ho⟩
      · refine CP.condT rfl (decide_eq_true hc) ?_
        refine CP.skip ?_
        refine QE.then ?_
        refine CP.seq ?_
        refine CP.block ?_
        refine CP.seq ?_
        refine CP.seq ?_
        refine CP.region ?_
        refine SP.val (Val.move rfl) rfl rfl rfl ?_
        refine SP.val (Val.lss rfl rfl) rfl rfl rfl ?_
        refine SP.val (Val.move rfl) rfl rfl rfl ?_
        refine SP.join 5 (fun a w2 => Env ⟨132, []⟩ [(0, v_l_0), (1, v_ways_1), (5, v5), (7, .pointer (some ⟨b7, 0, none⟩)), (8, .pointer (some ⟨b9, 0, none⟩)), (9, .int .i64 x136), (10, .int .i64 x137), (11, .bool b138), (12, .int .i64 x139), (35, .bool ((decide (x136 < 0)) || (decide (x136 ≥ (l_0.length : Int)))))] a ∧ St w em hV [slP (kInt .i64) v5 t4.1, slP k_api_Instr v_l_0 l_0, slP kBool v_ways_1 ways_1, arrP k_arr88 0 tab0] [arrO b9 [] (fun z : Int => Value.int .i64 z) 300 l134 [] 50, arrO b7 [] (fun z : Int => Value.int .i64 z) 300 l135 [] 50] w2) ?_ ?_
        · rintro a w2 ⟨ha, hw⟩
          refine SP.app ha hw ?_
          clear ha hw a w2
          refine SP.nil ?_
          refine QE.then ?_
          rcases if_some ho with ⟨hc, ho⟩ | ⟨hc, ho⟩
          · refine CP.condT rfl hc ?_
            refine CP.seq ?_
            refine CP.region ?_
            refine SP.val (Val.assign rfl) rfl rfl rfl ?_
            refine SP.nil ?_
            refine QE.then ?_
            refine CP.ret ?_
            refine QE.thru (by intro e; cases e) ?_
            refine QE.blockR ?_
            refine QE.thru (by intro e; cases e) ?_
            refine QE.thru (by intro e; cases e) ?_
            refine QE.blockR ?_
            refine QE.thru (by intro e; cases e) ?_
            obtain rfl := Option.some.inj ho
            obtain rfl := Option.some.inj hr
            exact QE.rets (rs := [.tmp 4]) (vs := [.bool false]) Tryd.results5 rfl ⟨RVs.tmp rfl, trivial⟩ (fun w2 h => St.done (fun a b p s => rfl) h)
          · refine CP.condF rfl (bf hc) ?_
            refine CP.skip ?_
            refine QE.then ?_
            refine CP.seq ?_
            refine CP.region ?_
            refine SP.val (Val.move rfl) rfl rfl rfl ?_
            obtain ⟨x143, hx_x143, ho⟩ := bind_some ho
            have hx_x143 := elt_some hx_x143
            refine SP.val (Val.indexArr 1 rfl Tryd.underlying50 sz3 hx_x143.1 hx_x143.2 rfl rfl rfl) rfl rfl rfl ?_
            refine SP.val (Val.loadArr 1 rfl Tryd.underlying3 rfl hx_x143.2 rfl rfl) rfl rfl rfl ?_
            refine SP.val (Val.add rfl rfl) rfl rfl rfl ?_
            obtain ⟨x144, hx_x144, ho⟩ := bind_some ho
            have hx_x144 := elt_some hx_x144
            refine SP.val (Val.indexArr 1 rfl Tryd.underlying50 sz3 hx_x144.1 hx_x144.2 rfl rfl rfl) rfl rfl rfl ?_
            refine SP.storeArr 1 rfl sz3 rfl hx_x144.2 rfl rfl rfl (fun _ => rfl) (fun _ => rfl) ?_
            refine SP.nil ?_
            refine QE.then ?_
            refine CP.seq ?_
            refine CP.seq ?_
            refine CP.drawA (by kernel_rfl) (fun w2 k h => h.drawn k) ?_
            obtain ⟨x148, hx, ho⟩ := bind_some ho
            have hx := elt_some hx
            refine DA.ghost (fun w2 h => h.elem see 0 rfl hx.1 hx.2) (fun p146 h_p146 => ?_)
            clear hx
            refine DA.ghost (fun w2 h => h.openE see 0 rfl (fun _ : Unit => [.int .i64 x148]) (fun _ => []) (fun h cs e => ⟨(), e, All.nil _⟩)) (fun _ _ => ?_)
            refine DA.phase (fun i => Nat.ble 0 i && Nat.blt i 7) (fun w2 => St w em hV [atP p146 [.int .i64 x148], elP (kInt .i64) p146 x148, slP (kInt .i64) v5 t4.1, slP k_api_Instr v_l_0 l_0, slP kBool v_ways_1 ways_1, arrP k_arr88 0 tab0] [arrO b9 [] (fun z : Int => Value.int .i64 z) 300 l134 [] 50, arrO b7 [] (fun z : Int => Value.int .i64 z) 300 (l135.set x136.toNat (IntKind.i64.wrap (x143 + 1))) [] 50] w2) ?_
            refine DT.take 0 rfl rfl rfl rfl (by kernel_rfl) (fun _ _ _ h => h) (Val.move rfl) (fun w2 hw => hw) ?_
            refine DT.take 3 rfl rfl rfl rfl (by kernel_rfl) (fun _ _ _ h => h) (Val.move rfl) (fun w2 hw => hw) ?_
            refine DT.take 4 rfl rfl rfl rfl (by kernel_rfl) (fun _ _ _ h => h) (Val.move rfl) (fun w2 hw => hw) ?_
            refine DT.take 5 rfl rfl rfl rfl (by kernel_rfl) (fun _ _ _ h => h) (Val.indexE h_p146 Tryd.underlying27 sz3 rfl rfl) (fun w2 hw => hw) ?_
            refine DT.take 6 rfl rfl rfl rfl (by kernel_rfl) (fun _ _ _ h => h) (Val.loadAt1 see 0 rfl Tryd.underlying3 rfl rfl) (fun w2 hw => hw) ?_
            refine DT.one 1 rfl (by kernel_rfl) rfl ?_
            obtain ⟨x155, hx_x155, ho⟩ := bind_some ho
            have hx_x155 := elt_some hx_x155
            refine SP.val (Val.indexArr 1 rfl Tryd.underlying50 sz3 hx_x155.1 hx_x155.2 rfl rfl rfl) rfl rfl rfl ?_
            refine SP.nil ?_
            refine QE.atT (fun w2 hw => hw) ?_
            refine DT.take 2 rfl rfl rfl rfl (by kernel_rfl) (fun _ _ _ h => h) (Val.loadArr 1 rfl Tryd.underlying3 rfl hx_x155.2 rfl rfl) (fun w2 hw => hw) ?_
            refine DT.next (by kernel_rfl) ?_
            refine DA.one 7 rfl (by kernel_rfl) ?_
            refine SP.val (Val.gtr rfl rfl) rfl rfl rfl ?_
            refine SP.nil ?_
            refine QE.atA ?_
            refine DA.done (by kernel_rfl) ?_
            refine QE.then ?_
            rcases if_some ho with ⟨hc, ho⟩ | ⟨hc, ho⟩
            · refine CP.condT rfl (decide_eq_true hc) ?_
              refine CP.seq ?_
              refine CP.region ?_
              refine SP.val (Val.assign rfl) rfl rfl rfl ?_
              refine SP.nil ?_
              refine QE.then ?_
              refine CP.ret ?_
              refine QE.thru (by intro e; cases e) ?_
              refine QE.blockR ?_
              refine QE.thru (by intro e; cases e) ?_
              refine QE.thru (by intro e; cases e) ?_
              refine QE.blockR ?_
              refine QE.thru (by intro e; cases e) ?_
              obtain rfl := Option.some.inj ho
              obtain rfl := Option.some.inj hr
              exact QE.rets (rs := [.tmp 4]) (vs := [.bool false]) Tryd.results5 rfl ⟨RVs.tmp rfl, trivial⟩ (fun w2 h => St.done (fun a b p s => rfl) h)
            · refine CP.condF rfl (decide_eq_false hc) ?_
              refine CP.skip ?_
              refine QE.then ?_
              refine CP.seq ?_
              refine CP.region ?_
              refine SP.val (Val.move rfl) rfl rfl rfl ?_
              refine SP.val (Val.move rfl) rfl rfl rfl ?_
              obtain ⟨x158, hx, ho⟩ := bind_some ho
              have hx := elt_some hx
              refine SP.indexP see 3 rfl Tryd.underlying22 sz52 hx.1 hx.2 rfl rfl rfl rfl (fun p156 => ?_)
              clear hx
              refine k_api_Instr.load see 0 rfl Tryd.underlying52 rfl sz52 rfl rfl rfl ?_
              refine SP.alloc (cs := [.int .u8 0, .int .i64 0, .int .i64 0]) inf52 rfl rfl (fun b159 => ?_)
              refine SP.store (v := .agg #[.int .u8 x158.Op, .int .i64 x158.A, .int .i64 x158.B]) (vs := [.int .u8 x158.Op, .int .i64 x158.A, .int .i64 x158.B]) 0 (by rfl) sz52 (by rfl) (by rfl) (by rfl) (by rfl) (by rfl) (by rfl) ?_
              refine SP.nil ?_
              refine QE.then ?_
              refine CP.seq ?_
              refine CP.seq ?_
              refine CP.region ?_
              refine SP.val (Val.fieldAddr Tryd.underlying52 rfl sz5 rfl) rfl rfl rfl ?_
              refine SP.val (Val.load1 0 rfl Tryd.underlying5 rfl rfl rfl) rfl rfl rfl ?_
              refine SP.val (Val.eql rfl rfl) rfl rfl rfl ?_
              refine SP.val (Val.move rfl) rfl rfl rfl ?_
              refine SP.join 4 (fun a w2 => Env ⟨132, []⟩ [(0, v_l_0), (1, v_ways_1), (5, v5), (7, .pointer (some ⟨b7, 0, none⟩)), (8, .pointer (some ⟨b9, 0, none⟩)), (9, .int .i64 x136), (10, .int .i64 x137), (11, .bool b138), (12, .int .i64 x139), (13, .pointer (some ⟨b159, 0, none⟩)), (60, .bool ((decide (x158.Op = 31)) || (decide (x158.Op = 32))))] a ∧ St w em hV [elP k_api_Instr p156 x158, atP p146 [.int .i64 x148], elP (kInt .i64) p146 x148, slP (kInt .i64) v5 t4.1, slP k_api_Instr v_l_0 l_0, slP kBool v_ways_1 ways_1, arrP k_arr88 0 tab0] [boxO b159 [.int .u8 x158.Op, .int .i64 x158.A, .int .i64 x158.B] 52, arrO b9 [] (fun z : Int => Value.int .i64 z) 300 l134 [] 50, arrO b7 [] (fun z : Int => Value.int .i64 z) 300 (l135.set x136.toNat (IntKind.i64.wrap (x143 + 1))) [] 50] w2) ?_ ?_
              · rintro a w2 ⟨ha, hw⟩
                refine SP.app ha hw ?_
                clear ha hw a w2
                refine SP.nil ?_
                refine QE.then ?_
                rcases if_some ho with ⟨hc, ho⟩ | ⟨hc, ho⟩
                · refine CP.condT rfl hc ?_
                  refine CP.seq ?_
                  refine CP.region ?_
                  refine SP.val (Val.move rfl) rfl rfl rfl ?_
                  refine SP.val (Val.notB rfl) rfl rfl rfl ?_
                  refine SP.val (Val.move rfl) rfl rfl rfl ?_
                  obtain ⟨t167, hg_t167, ho⟩ := bind_some ho
                  refine SP.join 6 (fun a w2 => Env ⟨132, []⟩ [(69, .bool t167)] a ∧ St w em hV [elP k_api_Instr p156 x158, atP p146 [.int .i64 x148], elP (kInt .i64) p146 x148, slP (kInt .i64) v5 t4.1, slP k_api_Instr v_l_0 l_0, slP kBool v_ways_1 ways_1, arrP k_arr88 0 tab0] [boxO b159 [.int .u8 x158.Op, .int .i64 x158.A, .int .i64 x158.B] 52, arrO b9 [] (fun z : Int => Value.int .i64 z) 300 l134 [] 50, arrO b7 [] (fun z : Int => Value.int .i64 z) 300 (l135.set x136.toNat (IntKind.i64.wrap (x143 + 1))) [] 50] w2) ?_ ?_
                  · rintro a w2 ⟨ha, hw⟩
                    refine SP.app ha hw ?_
                    clear ha hw a w2 hg_t167
                    refine SP.val (Val.assign rfl) rfl rfl rfl ?_
                    refine SP.nil ?_
                    refine QE.then ?_
                    refine CP.ret ?_
                    refine QE.thru (by intro e; cases e) ?_
                    refine QE.blockR ?_
                    refine QE.thru (by intro e; cases e) ?_
                    refine QE.thru (by intro e; cases e) ?_
                    refine QE.blockR ?_
                    refine QE.thru (by intro e; cases e) ?_
                    obtain rfl := Option.some.inj ho
                    obtain rfl := Option.some.inj hr
                    exact QE.rets (rs := [.tmp 4]) (vs := [.bool t167]) Tryd.results5 rfl ⟨RVs.tmp rfl, trivial⟩ (fun w2 h => St.done (fun a b p s => rfl) h)
                  · intro J
                    clear ho
                    have ho := hg_t167
                    clear hg_t167
                    rcases if_some ho with ⟨hc, ho⟩ | ⟨hc, ho⟩
                    · have hq164 := hc
                      refine SP.isT (d := 63) rfl hq164 ?_
                      refine SP.not rfl rfl rfl ?_
                      refine SP.not rfl rfl rfl ?_
                      refine SP.not rfl rfl rfl ?_
                      refine SP.not rfl rfl rfl ?_
                      refine SP.not rfl rfl rfl ?_
                      refine SP.val (Val.pickT rfl rfl) rfl rfl rfl ?_
                      obtain rfl := Option.some.inj ho
                      exact J fun a w2 ha hw => ⟨ha.sub ⟨rfl, trivial⟩, hw⟩
                    · have hq164 := (bf hc)
                      refine SP.isF (d := 63) rfl hq164 ?_
                      refine SP.val (Val.move rfl) rfl rfl rfl ?_
                      refine SP.val (Val.move rfl) rfl rfl rfl ?_
                      refine SP.loadArrAll 2 rfl Tryd.underlying50 rfl sz50 rfl rfl rfl ?_
                      refine SP.val (Val.move rfl) rfl rfl rfl ?_
                      obtain ⟨t166, hc, ho⟩ := bind_some (x := capstanlaw09_exact_s1.f l_0 t4.1 (l135.set x136.toNat (IntKind.i64.wrap (x143 + 1))) x136) ho
                      refine SP.callV see (caps := []) (.bool t166) fn20 rfl rfl rfl rfl (fun w2 hP hs sub ap => capstanlaw09_exact_s1.ok l_0 t4.1 (l135.set x136.toNat (IntKind.i64.wrap (x143 + 1))) x136 _ _ _ hc w2 hP sub (ap.get 5 rfl) (ap.get 4 rfl) (ap.get 0 rfl)) ?_
                      clear hc
                      refine SP.val (Val.pickF rfl rfl) rfl rfl rfl ?_
                      obtain rfl := Option.some.inj ho
                      exact J fun a w2 ha hw => ⟨ha.sub ⟨rfl, trivial⟩, (St.selP [1, 2, 3, 4, 5, 6, 7] rfl hw)⟩
                · refine CP.condF rfl (bf hc) ?_
                  refine CP.skip ?_
                  refine QE.then ?_
                  refine CP.seq ?_
                  refine CP.region ?_
                  refine SP.val (Val.move rfl) rfl rfl rfl ?_
                  refine SP.val (Val.add rfl rfl) rfl rfl rfl ?_
                  refine SP.val (Val.assign rfl) rfl rfl rfl ?_
                  refine SP.nil ?_
                  refine QE.then ?_
                  refine CP.seq ?_
                  refine CP.seq ?_
                  refine CP.region ?_
                  refine SP.val (Val.fieldAddr Tryd.underlying52 rfl sz5 rfl) rfl rfl rfl ?_
                  refine SP.val (Val.load1 0 rfl Tryd.underlying5 rfl rfl rfl) rfl rfl rfl ?_
                  refine SP.val (Val.eql rfl rfl) rfl rfl rfl ?_
                  refine SP.val (Val.move rfl) rfl rfl rfl ?_
                  refine SP.join 11 (fun a w2 => Env ⟨132, []⟩ [(0, v_l_0), (1, v_ways_1), (5, v5), (7, .pointer (some ⟨b7, 0, none⟩)), (8, .pointer (some ⟨b9, 0, none⟩)), (9, .int .i64 x136), (10, .int .i64 x137), (11, .bool b138), (12, .int .i64 x139), (13, .pointer (some ⟨b159, 0, none⟩)), (14, .int .i64 (IntKind.i64.wrap (x136 + 1))), (86, .bool ((decide (x158.Op = 29)) && ((decide (x158.A < 0)) || (decide (x158.A ≥ (l_0.length : Int))))))] a ∧ St w em hV [elP k_api_Instr p156 x158, atP p146 [.int .i64 x148], elP (kInt .i64) p146 x148, slP (kInt .i64) v5 t4.1, slP k_api_Instr v_l_0 l_0, slP kBool v_ways_1 ways_1, arrP k_arr88 0 tab0] [boxO b159 [.int .u8 x158.Op, .int .i64 x158.A, .int .i64 x158.B] 52, arrO b9 [] (fun z : Int => Value.int .i64 z) 300 l134 [] 50, arrO b7 [] (fun z : Int => Value.int .i64 z) 300 (l135.set x136.toNat (IntKind.i64.wrap (x143 + 1))) [] 50] w2) ?_ ?_
                  · rintro a w2 ⟨ha, hw⟩
                    refine SP.app ha hw ?_
                    clear ha hw a w2
                    refine SP.nil ?_
                    refine QE.then ?_
                    rcases if_some ho with ⟨hc, ho⟩ | ⟨hc, ho⟩
                    · refine CP.condT rfl hc ?_
                      refine CP.seq ?_
                      refine CP.region ?_
                      refine SP.val (Val.assign rfl) rfl rfl rfl ?_
                      refine SP.nil ?_
                      refine QE.then ?_
                      refine CP.ret ?_
                      refine QE.thru (by intro e; cases e) ?_
                      refine QE.blockR ?_
                      refine QE.thru (by intro e; cases e) ?_
                      refine QE.thru (by intro e; cases e) ?_
                      refine QE.blockR ?_
                      refine QE.thru (by intro e; cases e) ?_
                      obtain rfl := Option.some.inj ho
                      obtain rfl := Option.some.inj hr
                      exact QE.rets (rs := [.tmp 4]) (vs := [.bool false]) Tryd.results5 rfl ⟨RVs.tmp rfl, trivial⟩ (fun w2 h => St.done (fun a b p s => rfl) h)
                    · refine CP.condF rfl (bf hc) ?_
                      refine CP.skip ?_
                      refine QE.then ?_
                      refine CP.join (fun a w2 => ∃ l184 : List Int, ∃ x185 : Int, ∃ b186 : Bool, ∃ x187 : Int, ∃ (m188 : Nat) (o : (capstanlaw09_FlowEnds.S ⊕ Bool)), m188 ≤ m140 ∧ capstanlaw09_FlowEnds.j1 l_0 ways_1 t4 l135 x136 x139 x143 l184 x185 b186 x187 = some o ∧ next (capstanlaw09_FlowEnds.F l_0 ways_1) m188 o = some r ∧ Env ⟨132, []⟩ [(0, v_l_0), (1, v_ways_1), (5, v5), (7, .pointer (some ⟨b7, 0, none⟩)), (8, .pointer (some ⟨b9, 0, none⟩)), (10, .int .i64 x185), (11, .bool b186), (12, .int .i64 x139), (14, .int .i64 x187)] a ∧ St w em hV [slP (kInt .i64) v5 t4.1, slP k_api_Instr v_l_0 l_0, slP kBool v_ways_1 ways_1, arrP k_arr88 0 tab0] [arrO b9 [] (fun z : Int => Value.int .i64 z) 300 l184 [] 50, arrO b7 [] (fun z : Int => Value.int .i64 z) 300 (l135.set x136.toNat (IntKind.i64.wrap (x143 + 1))) [] 50] w2) ?_ ?_
                      · rintro a w2 ⟨l184, x185, b186, x187, m188, o, hm_m188, ho, hr, ha, hw⟩
                        refine CP.app ha hw ?_
                        clear ha hw a w2
                        refine CP.region ?_
                        refine SP.val (Val.move rfl) rfl rfl rfl ?_
                        refine SP.val (Val.assign rfl) rfl rfl rfl ?_
                        refine SP.nil ?_
                        refine QE.blockN ?_
                        refine QE.then ?_
                        refine CP.region ?_
                        refine SP.val (Val.move rfl) rfl rfl rfl ?_
                        refine SP.val (Val.add rfl rfl) rfl rfl rfl ?_
                        refine SP.val (Val.assign rfl) rfl rfl rfl ?_
                        refine SP.nil ?_
                        obtain rfl := Option.some.inj ho
                        exact QE.lower m188 (by omega) fun a w2 ha hw => ⟨l184, (l135.set x136.toNat (IntKind.i64.wrap (x143 + 1))), x187, x185, b186, (IntKind.i64.wrap (x139 + 1)), (by omega), hr, ha.sub ⟨rfl, rfl, rfl, rfl, rfl, rfl, rfl, rfl, rfl, trivial⟩, hw⟩
                      · refine CP.seq ?_
                        refine CP.region ?_
                        refine SP.val (Val.fieldAddr Tryd.underlying52 rfl sz5 rfl) rfl rfl rfl ?_
                        refine SP.val (Val.load1 0 rfl Tryd.underlying5 rfl rfl rfl) rfl rfl rfl ?_
                        refine SP.nil ?_
                        refine QE.then ?_
                        refine CP.block ?_
                        refine CP.seq ?_
                        refine CP.region ?_
                        refine SP.val (Val.eql rfl rfl) rfl rfl rfl ?_
                        refine SP.val (Val.assign rfl) rfl rfl rfl ?_
                        refine SP.nil ?_
                        refine QE.then ?_
                        rcases if_some ho with ⟨hc, ho⟩ | ⟨hc, ho⟩
                        · refine CP.condT rfl (decide_eq_true hc) ?_
                          refine CP.region ?_
                          refine SP.val (Val.move rfl) rfl rfl rfl ?_
                          refine SP.val (Val.fieldAddr Tryd.underlying52 rfl sz3 rfl) rfl rfl rfl ?_
                          refine SP.val (Val.load1 0 rfl Tryd.underlying3 rfl rfl rfl) rfl rfl rfl ?_
                          obtain ⟨x172, hx_x172, ho⟩ := bind_some ho
                          have hx_x172 := elt_some hx_x172
                          refine SP.val (Val.indexArr 1 rfl Tryd.underlying50 sz3 hx_x172.1 hx_x172.2 rfl rfl rfl) rfl rfl rfl ?_
                          refine SP.storeArr 1 rfl sz3 rfl hx_x172.2 rfl rfl rfl (fun _ => rfl) (fun _ => rfl) ?_
                          refine SP.nil ?_
                          refine QE.blockN ?_
                          exact QE.meet fun a w2 ha hw => ⟨(l134.set x136.toNat x158.A), x137, b138, (IntKind.i64.wrap (x136 + 1)), m140, _, (by omega), ho, hr, ha.sub ⟨rfl, rfl, rfl, rfl, rfl, rfl, rfl, rfl, rfl, trivial⟩, (St.selP [3, 4, 5, 6] rfl (St.selO [1, 2] rfl rfl hw))⟩
                        · refine CP.condF rfl (decide_eq_false hc) ?_
                          refine CP.seq ?_
                          refine CP.region ?_
                          refine SP.val (Val.eql rfl rfl) rfl rfl rfl ?_
                          refine SP.val (Val.assign rfl) rfl rfl rfl ?_
                          refine SP.nil ?_
                          refine QE.then ?_
                          rcases if_some ho with ⟨hc, ho⟩ | ⟨hc, ho⟩
                          · refine CP.condT rfl (decide_eq_true hc) ?_
                            refine CP.seq ?_
                            refine CP.region ?_
                            refine SP.val (Val.fieldAddr Tryd.underlying52 rfl sz3 rfl) rfl rfl rfl ?_
                            refine SP.val (Val.load1 0 rfl Tryd.underlying3 rfl rfl rfl) rfl rfl rfl ?_
                            obtain ⟨x173, hx_x173, ho⟩ := bind_some ho
                            have hx_x173 := elt_some hx_x173
                            refine SP.val (Val.indexArr 1 rfl Tryd.underlying50 sz3 hx_x173.1 hx_x173.2 rfl rfl rfl) rfl rfl rfl ?_
                            refine SP.val (Val.loadArr 1 rfl Tryd.underlying3 rfl hx_x173.2 rfl rfl) rfl rfl rfl ?_
                            refine SP.val (Val.sub rfl rfl) rfl rfl rfl ?_
                            obtain ⟨x174, hx_x174, ho⟩ := bind_some ho
                            have hx_x174 := elt_some hx_x174
                            refine SP.val (Val.indexArr 1 rfl Tryd.underlying50 sz3 hx_x174.1 hx_x174.2 rfl rfl rfl) rfl rfl rfl ?_
                            refine SP.storeArr 1 rfl sz3 rfl hx_x174.2 rfl rfl rfl (fun _ => rfl) (fun _ => rfl) ?_
                            refine SP.nil ?_
                            refine QE.then ?_
                            refine CP.seq ?_
                            refine CP.region ?_
                            refine SP.val (Val.fieldAddr Tryd.underlying52 rfl sz3 rfl) rfl rfl rfl ?_
                            refine SP.val (Val.load1 0 rfl Tryd.underlying3 rfl rfl rfl) rfl rfl rfl ?_
                            obtain ⟨x175, hx_x175, ho⟩ := bind_some ho
                            have hx_x175 := elt_some hx_x175
                            refine SP.val (Val.indexArr 1 rfl Tryd.underlying50 sz3 hx_x175.1 hx_x175.2 rfl rfl rfl) rfl rfl rfl ?_
                            refine SP.val (Val.loadArr 1 rfl Tryd.underlying3 rfl hx_x175.2 rfl rfl) rfl rfl rfl ?_
                            refine SP.val (Val.gtr rfl rfl) rfl rfl rfl ?_
                            refine SP.nil ?_
                            refine QE.then ?_
                            rcases if_some ho with ⟨hc, ho⟩ | ⟨hc, ho⟩
                            · refine CP.condT rfl (decide_eq_true hc) ?_
                              refine CP.region ?_
                              refine SP.val (Val.fieldAddr Tryd.underlying52 rfl sz3 rfl) rfl rfl rfl ?_
                              refine SP.val (Val.load1 0 rfl Tryd.underlying3 rfl rfl rfl) rfl rfl rfl ?_
                              refine SP.val (Val.add rfl rfl) rfl rfl rfl ?_
                              refine SP.val (Val.assign rfl) rfl rfl rfl ?_
                              refine SP.nil ?_
                              refine QE.blockN ?_
                              exact QE.meet fun a w2 ha hw => ⟨(l134.set x158.A.toNat (IntKind.i64.wrap (x173 - 1))), x137, b138, (IntKind.i64.wrap (x158.A + 1)), m140, _, (by omega), ho, hr, ha.sub ⟨rfl, rfl, rfl, rfl, rfl, rfl, rfl, rfl, rfl, trivial⟩, (St.selP [3, 4, 5, 6] rfl (St.selO [1, 2] rfl rfl hw))⟩
                            · refine CP.condF rfl (decide_eq_false hc) ?_
                              refine CP.skip ?_
                              refine QE.blockN ?_
                              exact QE.meet fun a w2 ha hw => ⟨(l134.set x158.A.toNat (IntKind.i64.wrap (x173 - 1))), x137, b138, (IntKind.i64.wrap (x136 + 1)), m140, _, (by omega), ho, hr, ha.sub ⟨rfl, rfl, rfl, rfl, rfl, rfl, rfl, rfl, rfl, trivial⟩, (St.selP [3, 4, 5, 6] rfl (St.selO [1, 2] rfl rfl hw))⟩
                          · refine CP.condF rfl (decide_eq_false hc) ?_
                            refine CP.seq ?_
                            refine CP.region ?_
                            refine SP.val (Val.eql rfl rfl) rfl rfl rfl ?_
                            refine SP.val (Val.assign rfl) rfl rfl rfl ?_
                            refine SP.nil ?_
                            refine QE.then ?_
                            rcases if_some ho with ⟨hc, ho⟩ | ⟨hc, ho⟩
                            · refine CP.condT rfl (decide_eq_true hc) ?_
                              refine CP.seq ?_
                              refine CP.region ?_
                              refine SP.val (Val.fieldAddr Tryd.underlying52 rfl sz3 rfl) rfl rfl rfl ?_
                              refine SP.val (Val.load1 0 rfl Tryd.underlying3 rfl rfl rfl) rfl rfl rfl ?_
                              refine SP.val (Val.assign rfl) rfl rfl rfl ?_
                              refine SP.nil ?_
                              refine QE.then ?_
                              refine CP.region ?_
                              refine SP.val (Val.assign rfl) rfl rfl rfl ?_
                              refine SP.nil ?_
                              refine QE.blockN ?_
                              exact QE.meet fun a w2 ha hw => ⟨l134, x137, false, x158.A, m140, _, (by omega), ho, hr, ha.sub ⟨rfl, rfl, rfl, rfl, rfl, rfl, rfl, rfl, rfl, trivial⟩, (St.selP [3, 4, 5, 6] rfl (St.selO [1, 2] rfl rfl hw))⟩
                            · refine CP.condF rfl (decide_eq_false hc) ?_
                              refine CP.seq ?_
                              refine CP.region ?_
                              refine SP.val (Val.eql rfl rfl) rfl rfl rfl ?_
                              refine SP.val (Val.assign rfl) rfl rfl rfl ?_
                              refine SP.nil ?_
                              refine QE.then ?_
                              rcases if_some ho with ⟨hc, ho⟩ | ⟨hc, ho⟩
                              · refine CP.condT rfl (decide_eq_true hc) ?_
                                refine CP.join (fun a w2 => ∃ x182 : Int, ∃ (m183 : Nat) (o : (capstanlaw09_FlowEnds.S ⊕ Bool)), m183 ≤ m140 ∧ capstanlaw09_FlowEnds.j2 l_0 ways_1 t4 l134 l135 x136 x137 x139 x143 x182 = some o ∧ next (capstanlaw09_FlowEnds.F l_0 ways_1) m183 o = some r ∧ Env ⟨132, []⟩ [(0, v_l_0), (1, v_ways_1), (5, v5), (7, .pointer (some ⟨b7, 0, none⟩)), (8, .pointer (some ⟨b9, 0, none⟩)), (10, .int .i64 x137), (12, .int .i64 x139), (14, .int .i64 x182)] a ∧ St w em hV [slP (kInt .i64) v5 t4.1, slP k_api_Instr v_l_0 l_0, slP kBool v_ways_1 ways_1, arrP k_arr88 0 tab0] [arrO b9 [] (fun z : Int => Value.int .i64 z) 300 l134 [] 50, arrO b7 [] (fun z : Int => Value.int .i64 z) 300 (l135.set x136.toNat (IntKind.i64.wrap (x143 + 1))) [] 50] w2) ?_ ?_
                                · rintro a w2 ⟨x182, m183, o, hm_m183, ho, hr, ha, hw⟩
                                  refine CP.app ha hw ?_
                                  clear ha hw a w2
                                  refine CP.seq ?_
                                  refine CP.region ?_
                                  refine SP.val (Val.move rfl) rfl rfl rfl ?_
                                  refine SP.val (Val.add rfl rfl) rfl rfl rfl ?_
                                  refine SP.val (Val.assign rfl) rfl rfl rfl ?_
                                  refine SP.nil ?_
                                  refine QE.then ?_
                                  refine CP.region ?_
                                  refine SP.val (Val.assign rfl) rfl rfl rfl ?_
                                  refine SP.nil ?_
                                  refine QE.blockN ?_
                                  exact QE.meet fun a w2 ha hw => ⟨l134, (IntKind.i64.wrap (x137 + 1)), false, x182, m183, _, (by omega), ho, hr, ha.sub ⟨rfl, rfl, rfl, rfl, rfl, rfl, rfl, rfl, rfl, trivial⟩, hw⟩
                                · refine CP.seq ?_
                                  refine CP.region ?_
                                  refine SP.val (Val.move rfl) rfl rfl rfl ?_
                                  refine SP.val (Val.move rfl) rfl rfl rfl ?_
                                  refine SP.val (Val.lenP see 5 rfl Tryd.underlying46 rfl) rfl rfl rfl ?_
                                  refine SP.val (Val.lss rfl rfl) rfl rfl rfl ?_
                                  refine SP.val (Val.move rfl) rfl rfl rfl ?_
                                  obtain ⟨t181, hg_t181, ho⟩ := bind_some ho
                                  refine SP.join 5 (fun a w2 => Env ⟨132, []⟩ [(0, v_l_0), (1, v_ways_1), (5, v5), (7, .pointer (some ⟨b7, 0, none⟩)), (8, .pointer (some ⟨b9, 0, none⟩)), (10, .int .i64 x137), (12, .int .i64 x139), (13, .pointer (some ⟨b159, 0, none⟩)), (14, .int .i64 (IntKind.i64.wrap (x136 + 1))), (126, .bool t181)] a ∧ St w em hV [elP k_api_Instr p156 x158, atP p146 [.int .i64 x148], elP (kInt .i64) p146 x148, slP (kInt .i64) v5 t4.1, slP k_api_Instr v_l_0 l_0, slP kBool v_ways_1 ways_1, arrP k_arr88 0 tab0] [boxO b159 [.int .u8 x158.Op, .int .i64 x158.A, .int .i64 x158.B] 52, arrO b9 [] (fun z : Int => Value.int .i64 z) 300 l134 [] 50, arrO b7 [] (fun z : Int => Value.int .i64 z) 300 (l135.set x136.toNat (IntKind.i64.wrap (x143 + 1))) [] 50] w2) ?_ ?_
                                  · rintro a w2 ⟨ha, hw⟩
                                    refine SP.app ha hw ?_
                                    clear ha hw a w2 hg_t181
                                    refine SP.nil ?_
                                    refine QE.then ?_
                                    rcases if_some ho with ⟨hc, ho⟩ | ⟨hc, ho⟩
                                    · refine CP.condT rfl hc ?_
                                      refine CP.region ?_
                                      refine SP.val (Val.fieldAddr Tryd.underlying52 rfl sz3 rfl) rfl rfl rfl ?_
                                      refine SP.val (Val.load1 0 rfl Tryd.underlying3 rfl rfl rfl) rfl rfl rfl ?_
                                      refine SP.val (Val.assign rfl) rfl rfl rfl ?_
                                      refine SP.nil ?_
                                      exact QE.meet fun a w2 ha hw => ⟨x158.A, m140, _, (by omega), ho, hr, ha.sub ⟨rfl, rfl, rfl, rfl, rfl, rfl, rfl, rfl, trivial⟩, (St.selP [3, 4, 5, 6] rfl (St.selO [1, 2] rfl rfl hw))⟩
                                    · refine CP.condF rfl (bf hc) ?_
                                      refine CP.skip ?_
                                      exact QE.meet fun a w2 ha hw => ⟨(IntKind.i64.wrap (x136 + 1)), m140, _, (by omega), ho, hr, ha.sub ⟨rfl, rfl, rfl, rfl, rfl, rfl, rfl, rfl, trivial⟩, (St.selP [3, 4, 5, 6] rfl (St.selO [1, 2] rfl rfl hw))⟩
                                  · intro J
                                    clear ho
                                    have ho := hg_t181
                                    clear hg_t181
                                    rcases if_some ho with ⟨hc, ho⟩ | ⟨hc, ho⟩
                                    · have hq177 := (decide_eq_true hc)
                                      refine SP.isT (d := 121) rfl hq177 ?_
                                      refine SP.val (Val.move rfl) rfl rfl rfl ?_
                                      refine SP.val (Val.move rfl) rfl rfl rfl ?_
                                      obtain ⟨x180, hx, ho⟩ := bind_some ho
                                      have hx := elt_some hx
                                      refine SP.indexP see 5 rfl Tryd.underlying46 sz4 hx.1 hx.2 rfl rfl rfl rfl (fun p178 => ?_)
                                      clear hx
                                      refine SP.val (Val.loadP1 see 0 rfl (fun _ _ e => e) Tryd.underlying4 rfl rfl) rfl rfl rfl ?_
                                      refine SP.val (Val.pickT rfl rfl) rfl rfl rfl ?_
                                      obtain rfl := Option.some.inj ho
                                      exact J fun a w2 ha hw => ⟨ha.sub ⟨rfl, rfl, rfl, rfl, rfl, rfl, rfl, rfl, rfl, rfl, trivial⟩, (St.selP [1, 2, 3, 4, 5, 6, 7] rfl hw)⟩
                                    · have hq177 := (decide_eq_false hc)
                                      refine SP.isF (d := 121) rfl hq177 ?_
                                      refine SP.not rfl rfl rfl ?_
                                      refine SP.not rfl rfl rfl ?_
                                      refine SP.not rfl rfl rfl ?_
                                      refine SP.not rfl rfl rfl ?_
                                      refine SP.val (Val.pickF rfl rfl) rfl rfl rfl ?_
                                      obtain rfl := Option.some.inj ho
                                      exact J fun a w2 ha hw => ⟨ha.sub ⟨rfl, rfl, rfl, rfl, rfl, rfl, rfl, rfl, rfl, rfl, trivial⟩, hw⟩
                              · refine CP.condF rfl (decide_eq_false hc) ?_
                                refine CP.skip ?_
                                refine QE.blockN ?_
                                exact QE.meet fun a w2 ha hw => ⟨l134, x137, b138, (IntKind.i64.wrap (x136 + 1)), m140, _, (by omega), ho, hr, ha.sub ⟨rfl, rfl, rfl, rfl, rfl, rfl, rfl, rfl, rfl, trivial⟩, (St.selP [3, 4, 5, 6] rfl (St.selO [1, 2] rfl rfl hw))⟩
                  · intro J
                    by_cases hc : x158.Op = 29
                    · have hq169 := (decide_eq_true hc)
                      refine SP.isT (d := 75) rfl hq169 ?_
                      refine SP.val (Val.fieldAddr Tryd.underlying52 rfl sz3 rfl) rfl rfl rfl ?_
                      refine SP.val (Val.load1 0 rfl Tryd.underlying3 rfl rfl rfl) rfl rfl rfl ?_
                      refine SP.val (Val.lss rfl rfl) rfl rfl rfl ?_
                      refine SP.val (Val.move rfl) rfl rfl rfl ?_
                      refine SP.join 6 (fun a w2 => Env ⟨132, []⟩ [(0, v_l_0), (1, v_ways_1), (5, v5), (7, .pointer (some ⟨b7, 0, none⟩)), (8, .pointer (some ⟨b9, 0, none⟩)), (9, .int .i64 x136), (10, .int .i64 x137), (11, .bool b138), (12, .int .i64 x139), (13, .pointer (some ⟨b159, 0, none⟩)), (14, .int .i64 (IntKind.i64.wrap (x136 + 1))), (75, .bool true), (76, .pointer (some ⟨b159, 1, none⟩)), (77, .int .i64 x158.A), (78, .bool (decide (x158.A < 0))), (79, .bool (decide (x158.A < 0))), (85, .bool ((decide (x158.A < 0)) || (decide (x158.A ≥ (l_0.length : Int)))))] a ∧ St w em hV [elP k_api_Instr p156 x158, atP p146 [.int .i64 x148], elP (kInt .i64) p146 x148, slP (kInt .i64) v5 t4.1, slP k_api_Instr v_l_0 l_0, slP kBool v_ways_1 ways_1, arrP k_arr88 0 tab0] [boxO b159 [.int .u8 x158.Op, .int .i64 x158.A, .int .i64 x158.B] 52, arrO b9 [] (fun z : Int => Value.int .i64 z) 300 l134 [] 50, arrO b7 [] (fun z : Int => Value.int .i64 z) 300 (l135.set x136.toNat (IntKind.i64.wrap (x143 + 1))) [] 50] w2) ?_ ?_
                      · rintro a w2 ⟨ha, hw⟩
                        refine SP.app ha hw ?_
                        clear ha hw a w2
                        refine SP.val (Val.pickT rfl rfl) rfl rfl rfl ?_
                        exact J fun a w2 ha hw => ⟨ha.sub ⟨rfl, rfl, rfl, rfl, rfl, rfl, rfl, rfl, rfl, rfl, rfl, congrArg (fun z => some (Value.bool z)) (and_t hq169 rfl), trivial⟩, hw⟩
                      · intro J
                        by_cases hc : x158.A < 0
                        · have hq171 := (decide_eq_true hc)
                          refine SP.isT (d := 79) rfl hq171 ?_
                          refine SP.not rfl rfl rfl ?_
                          refine SP.not rfl rfl rfl ?_
                          refine SP.not rfl rfl rfl ?_
                          refine SP.not rfl rfl rfl ?_
                          refine SP.not rfl rfl rfl ?_
                          refine SP.val (Val.pickT rfl rfl) rfl rfl rfl ?_
                          exact J fun a w2 ha hw => ⟨ha.sub ⟨rfl, rfl, rfl, rfl, rfl, rfl, rfl, rfl, rfl, rfl, rfl, rfl, rfl, rfl, rfl, congrArg (fun z => some (Value.bool z)) hq171.symm, congrArg (fun z => some (Value.bool z)) (or_t hq171), trivial⟩, hw⟩
                        · have hq171 := (decide_eq_false hc)
                          refine SP.isF (d := 79) rfl hq171 ?_
                          refine SP.val (Val.fieldAddr Tryd.underlying52 rfl sz3 rfl) rfl rfl rfl ?_
                          refine SP.val (Val.load1 0 rfl Tryd.underlying3 rfl rfl rfl) rfl rfl rfl ?_
                          refine SP.val (Val.move rfl) rfl rfl rfl ?_
                          refine SP.val (Val.lenP see 4 rfl Tryd.underlying22 rfl) rfl rfl rfl ?_
                          refine SP.val (Val.geq rfl rfl) rfl rfl rfl ?_
                          refine SP.val (Val.pickF rfl rfl) rfl rfl rfl ?_
                          exact J fun a w2 ha hw => ⟨ha.sub ⟨rfl, rfl, rfl, rfl, rfl, rfl, rfl, rfl, rfl, rfl, rfl, rfl, rfl, rfl, rfl, congrArg (fun z => some (Value.bool z)) hq171.symm, congrArg (fun z => some (Value.bool z)) (or_f hq171 rfl), trivial⟩, hw⟩
                    · have hq169 := (decide_eq_false hc)
                      refine SP.isF (d := 75) rfl hq169 ?_
                      refine SP.not rfl rfl rfl ?_
                      refine SP.not rfl rfl rfl ?_
                      refine SP.not rfl rfl rfl ?_
                      refine SP.not rfl rfl rfl ?_
                      refine SP.not rfl rfl rfl ?_
                      refine SP.not rfl rfl rfl ?_
                      refine SP.not rfl rfl rfl ?_
                      refine SP.not rfl rfl rfl ?_
                      refine SP.not rfl rfl rfl ?_
                      refine SP.not rfl rfl rfl ?_
                      refine SP.val (Val.pickF rfl rfl) rfl rfl rfl ?_
                      exact J fun a w2 ha hw => ⟨ha.sub ⟨rfl, rfl, rfl, rfl, rfl, rfl, rfl, rfl, rfl, rfl, rfl, congrArg (fun z => some (Value.bool z)) (and_f hq169), trivial⟩, hw⟩
              · intro J
                by_cases hc : x158.Op = 31
                · have hq162 := (decide_eq_true hc)
                  refine SP.isT (d := 56) rfl hq162 ?_
                  refine SP.not rfl rfl rfl ?_
                  refine SP.not rfl rfl rfl ?_
                  refine SP.not rfl rfl rfl ?_
                  refine SP.val (Val.pickT rfl rfl) rfl rfl rfl ?_
                  exact J fun a w2 ha hw => ⟨ha.sub ⟨rfl, rfl, rfl, rfl, rfl, rfl, rfl, rfl, rfl, rfl, congrArg (fun z => some (Value.bool z)) (or_t hq162), trivial⟩, hw⟩
                · have hq162 := (decide_eq_false hc)
                  refine SP.isF (d := 56) rfl hq162 ?_
                  refine SP.val (Val.fieldAddr Tryd.underlying52 rfl sz5 rfl) rfl rfl rfl ?_
                  refine SP.val (Val.load1 0 rfl Tryd.underlying5 rfl rfl rfl) rfl rfl rfl ?_
                  refine SP.val (Val.eql rfl rfl) rfl rfl rfl ?_
                  refine SP.val (Val.pickF rfl rfl) rfl rfl rfl ?_
                  exact J fun a w2 ha hw => ⟨ha.sub ⟨rfl, rfl, rfl, rfl, rfl, rfl, rfl, rfl, rfl, rfl, congrArg (fun z => some (Value.bool z)) (or_f hq162 rfl), trivial⟩, hw⟩
        · intro J
          by_cases hc : x136 < 0
          · have hq142 := (decide_eq_true hc)
            refine SP.isT (d := 30) rfl hq142 ?_
            refine SP.not rfl rfl rfl ?_
            refine SP.not rfl rfl rfl ?_
            refine SP.not rfl rfl rfl ?_
            refine SP.not rfl rfl rfl ?_
            refine SP.val (Val.pickT rfl rfl) rfl rfl rfl ?_
            exact J fun a w2 ha hw => ⟨ha.sub ⟨rfl, rfl, rfl, rfl, rfl, rfl, rfl, rfl, rfl, congrArg (fun z => some (Value.bool z)) (or_t hq142), trivial⟩, hw⟩
          · have hq142 := (decide_eq_false hc)
            refine SP.isF (d := 30) rfl hq142 ?_
            refine SP.val (Val.move rfl) rfl rfl rfl ?_
            refine SP.val (Val.move rfl) rfl rfl rfl ?_
            refine SP.val (Val.lenP see 1 rfl Tryd.underlying22 rfl) rfl rfl rfl ?_
            refine SP.val (Val.geq rfl rfl) rfl rfl rfl ?_
            refine SP.val (Val.pickF rfl rfl) rfl rfl rfl ?_
            exact J fun a w2 ha hw => ⟨ha.sub ⟨rfl, rfl, rfl, rfl, rfl, rfl, rfl, rfl, rfl, congrArg (fun z => some (Value.bool z)) (or_f hq142 rfl), trivial⟩, hw⟩
      · refine CP.condF rfl (decide_eq_false hc) ?_
        refine CP.exit ?_
        refine QE.thru (by intro e; cases e) ?_
        refine QE.thru (by intro e; cases e) ?_
        refine QE.blockE ?_
        refine QE.then ?_
        refine CP.seq ?_
        refine CP.region ?_
        refine SP.val (Val.assign rfl) rfl rfl rfl ?_
        refine SP.nil ?_
        refine QE.then ?_
        refine CP.ret ?_
        obtain rfl := Option.some.inj ho
        obtain rfl := Option.some.inj hr
        exact QE.rets (rs := [.tmp 4]) (vs := [.bool false]) Tryd.results5 rfl ⟨RVs.tmp rfl, trivial⟩ (fun w2 h => St.done (fun a b p s => rfl) h)
theorem cl5 : Tryd.prog.cellsOf 5 = 1 := by kernel_rfl
theorem cl3 : Tryd.prog.cellsOf 3 = 1 := by kernel_rfl
theorem cl52 : Tryd.prog.cellsOf 52 = 3 := by kernel_rfl
def wf_api_Instr (x : api_Instr) : Prop := (Lit.int .u8 x.Op).wf = true ∧ (Lit.int .i64 x.A).wf = true ∧ (Lit.int .i64 x.B).wf = true
theorem opens_api_Instr : Opens Tryd.prog 52 k_api_Instr wf_api_Instr := by
  intro H enc W fuel cs d ps h
  cases fuel with
  | zero => simp [DataW.trod] at h
  | succ n =>
    obtain ⟨hl, hf⟩ := trod_struct Tryd.underlying52 h
    rw [cl52] at hl
    obtain ⟨c0, c1, c2, rfl⟩ := len3 hl
    obtain ⟨d0, q0, h0⟩ := hf 0 _ rfl
    replace h0 : DataW.trod enc Tryd.prog W 0 (fun _ => true) true n 5 (List.take (Tryd.prog.cellsOf 5) [c0, c1, c2]) = some (d0, q0) := h0
    rw [cl5] at h0
    replace h0 : DataW.trod enc Tryd.prog W 0 (fun _ => true) true n 5 [c0] = some (d0, q0) := h0
    obtain ⟨x0, r0, w0⟩ := (Opens.int Tryd.underlying5) enc W n _ _ _ h0
    obtain ⟨rfl, -⟩ := List.cons.inj r0
    obtain ⟨d1, q1, h1⟩ := hf 1 _ rfl
    replace h1 : DataW.trod enc Tryd.prog W 0 (fun _ => true) true n 3 (List.take (Tryd.prog.cellsOf 3) [c1, c2]) = some (d1, q1) := h1
    rw [cl3] at h1
    replace h1 : DataW.trod enc Tryd.prog W 0 (fun _ => true) true n 3 [c1] = some (d1, q1) := h1
    obtain ⟨x1, r1, w1⟩ := (Opens.int Tryd.underlying3) enc W n _ _ _ h1
    obtain ⟨rfl, -⟩ := List.cons.inj r1
    obtain ⟨d2, q2, h2⟩ := hf 2 _ rfl
    replace h2 : DataW.trod enc Tryd.prog W 0 (fun _ => true) true n 3 (List.take (Tryd.prog.cellsOf 3) [c2]) = some (d2, q2) := h2
    rw [cl3] at h2
    replace h2 : DataW.trod enc Tryd.prog W 0 (fun _ => true) true n 3 [c2] = some (d2, q2) := h2
    obtain ⟨x2, r2, w2⟩ := (Opens.int Tryd.underlying3) enc W n _ _ _ h2
    obtain ⟨rfl, -⟩ := List.cons.inj r2
    exact ⟨⟨x0, x1, x2⟩, rfl, w0, w1, w2⟩
theorem cl4 : Tryd.prog.cellsOf 4 = 1 := by kernel_rfl
/-- What is left to be shown of the law: of plain values alone. -/
def capstanlaw09_FlowEnds.Pure : Prop := ∀ (x0 : (List api_Instr)) (x1 : (List Bool)), (x0.length ≤ maxLen ∧ ∀ y ∈ x0, wf_api_Instr y) → (x1.length ≤ maxLen ∧ ∀ y ∈ x1, True) → capstanlaw09_FlowEnds.f x0 x1 = some true
end Go.Proofs.YtbejlahmhloloaaDoor
end
