/- Functions of the program as plain functions, with the proof that the code computes them: printed by gen.py of this session. -/
import Derived.Test.YtehjiiebjkkcmaaGreatDoorProg
import Derived.Test.YtehjiiebjkkcmaaGreatDoorQ33xVerifyMore
import Derived.Test.YtehjiiebjkkcmaaGreatDoorQ39xVerifyMore
import Derived.Ground.GgzProg
import Derived.Ground.Names8Prog
import Derived.Ground.NamesProg
import Derived.Ground.SlgcProg
import Derived.Ground.SlgmProg
import Derived.Ground.SlgnProg
import Derived.Ground.SlsfProg
import Derived.Shelf.Bits.Mul64
import Derived.Shelf.Lay
import Derived.Shelf.SlGeneric
import Derived.Shelf.SlIterI.Nil
import Derived.Shelf.SlSortCmp.WholeK
import Derived.Shelf.SlicesE.Reverse
import Derived.Shelf.SlicesG.Cmp
import Derived.Shelf.SlicesG.CompactI
import Derived.Shelf.Small.Bits
import Derived.Shelf.SortM.Plain
import Derived.Shelf.SortM.SortNone
import Derived.Shelf.Spec.SlicesGrow
import Derived.Test.YtehjiiebjkkcmaaGreatDoorGVerifyMorep2
set_option linter.unusedVariables false
set_option linter.unusedSimpArgs false
set_option maxRecDepth 20000
set_option maxHeartbeats 2000000
set_option linter.defProp false
set_option warn.classDefReducibility false
noncomputable section
namespace Go.Proofs.YtehjiiebjkkcmaaGreatDoor
open Go.Q
attribute [local irreducible] CP SP QE DA DT Val St
inductive calls_Order.S where
  | start
  | l1 (t6 : (List (List Int)) × Int) (l131 : List (Int × Int)) (x132 : Int)
  | l2 (t6 : (List (List Int)) × Int) (l192 : List (Int × Int)) (l194 : List Int)
  | l3 (t6 : (List (List Int)) × Int) (l192 : List (Int × Int)) (l194 : List Int) (x206 : Int)
  | l4 (t6 : (List (List Int)) × Int) (l194 : List Int) (x211 : Int) (l229 : List (Int × Int)) (l230 : List (Int × Int))
  | p5 (t6 : (List (List Int)) × Int) (l194 : List Int) (x211 : Int) (l229 : List (Int × Int)) (k236 : Int) (x237 : Int) (l238 : List (Int × Int))
def calls_Order.j1 (m_0 : api_Module) (t6 : (List (List Int)) × Int) (l192 : List (Int × Int)) (l194 : List Int) (x211 : Int) : Option (List calls_Order.S ⊕ ((List Int) × Int)) :=
  if x211 < 0 then (some (.inr ([], 110))) else (some (.inl [.l4 t6 l194 x211 (mdel l192 x211) (mdel l192 x211)]))
def calls_Order.F (m_0 : api_Module) : calls_Order.S → Option (List calls_Order.S ⊕ ((List Int) × Int))
  | .start => (calls_all.f m_0).bind fun t6 => if t6.2 ≠ 0 then (some (.inr ([], t6.2))) else (some (.inl [.l1 t6 ([] : List (Int × Int)) 0]))
  | .l1 t6 l131 x132 => if x132 < (t6.1.length : Int) then ((elt t6.1 x132).bind fun x135 => some (.inl [.l1 t6 (mset l131 x132 (x135.length : Int)) (IntKind.i64.wrap (x132 + 1))])) else (some (.inl [.l2 t6 l131 []]))
  | .l2 t6 l192 l194 => if (l192.length : Int) > 0 then (if okKeys l192 = true then (some (.inl [.l3 t6 l192 l194 0])) else none) else (some (.inr (l194, 0)))
  | .l3 t6 l192 l194 x206 => if x206 < ((sortedKeys l192).length : Int) then ((elt (sortedKeys l192) x206).bind fun x209 => if ((mget l192 x209).getD 0) = 0 then (calls_Order.j1 m_0 t6 l192 l194 x209) else (some (.inl [.l3 t6 l192 l194 (IntKind.i64.wrap (x206 + 1))]))) else (calls_Order.j1 m_0 t6 l192 l194 (-1))
  | .l4 t6 l194 x211 l229 l230 => if l230.isEmpty = true then (if (l194.length + [x211].length) * 8 ≤ 140737488355328 then (some (.inl [.l2 t6 l229 (l194 ++ [x211])])) else none) else some (.inl ((picks l230).map (fun z => .p5 t6 l194 x211 l229 z.1.1 z.1.2 z.2)))
  | .p5 t6 l194 x211 l229 k236 x237 l238 => (elt t6.1 k236).bind fun x241 => (slices_Contains_int_int.f x241 x211).bind fun t244 => if t244 = true then (if (l229.map (fun p => p.1)).Nodup ∧ (mget l229 k236).isSome = true then (some (.inl [.l4 t6 l194 x211 (mup l229 k236 (IntKind.i64.wrap (((mget l229 k236).getD 0) - 1))) (mup l238 k236 (IntKind.i64.wrap (((mget l229 k236).getD 0) - 1)))])) else none) else (some (.inl [.l4 t6 l194 x211 l229 l238]))
def calls_Order.f (m_0 : api_Module) : Option ((List Int) × Int) := runD (calls_Order.F m_0) .start
theorem calls_Order.ok (m_0 : api_Module) (v_m_0_Globals v_m_0_Pool v_m_0_Methods : Value) (r : (List Int) × Int) (H : calls_Order.f m_0 = some r) (w : World) (hV : Hp) (sV : Sub hV (hp w)) (h0 : slR k_api_Value hV v_m_0_Globals m_0.Globals) (h1 : slR k_api_Value hV v_m_0_Pool m_0.Pool) (h2 : slR k_api_Method hV v_m_0_Methods m_0.Methods) :
    Trip Tryz.prog 36 [.agg #[v_m_0_Globals, v_m_0_Pool, v_m_0_Methods, .int .i64 m_0.Migrate]].toArray em hV w (fun v => HO.ex fun u0 : Value => HO.pand (v = .tuple #[u0, .int .i64 r.2]) (HO.seps [slO (kInt .i64) 3 u0 r.1])) := by
 refine Trip.go 77 Tryz.func36 sV (aS h0 (aS h1 (aS h2 (All.nil _)))) fun see => ?_
 obtain ⟨n0, hi⟩ := runD_iff.1 H
 obtain ⟨m0, o, hm0, ho, hr⟩ := stepsD_some hi
 clear hi
 refine go ?_
 refine SP.box rfl rfl rfl rfl fun b4 => go ?_
 refine SP.val (Val.loadA 0 rfl Tryz.underlying25 rfl sz25 rfl rfl rfl) rfl rfl rfl ?_
 obtain ⟨t6, hc, ho⟩ := bind_some ho
 refine SP.callK see (caps := []) _ fn82 rfl rfl rfl rfl (fun w2 hP hs sub ap => calls_all.ok _ _ _ _ _ hc w2 hP sub (ap.get 0 rfl) (ap.get 1 rfl) (ap.get 2 rfl)) (SP.k1 fun v7 => ?_)
 clear hc
 refine go ?_
 refine CP.seq (go ?_)
 refine CP.ci ho (fun ho => ?_) fun ho => ?_
 ·refine go ?_
  obtain rfl := Option.some.inj ho
  obtain rfl : _ = r := hr
  exact QE.rt (fun _ h => St.selO [0] rfl rfl (St.addO (slO.nil (kInt .i64) 3) h))
 refine go ?_
 refine SP.makeMap .i64 (fun z : Int => Value.int .i64 z) rfl rfl (fun b10 => go ?_)
 refine CP.seq (go ?_)
 refine SP.val (Val.lenW (fun w2 hw => slO.whole (St.own 1 rfl see.sub see.dj hw)) Tryz.underlying71 rfl) rfl rfl rfl (go ?_)
 obtain rfl := Option.some.inj ho
 refine CP.loop (fun cl1 a w2 => ∃ l131 : List (Int × Int), ∃ x132 : Int, cl1 ≤ m0 ∧ stepsD (calls_Order.F m_0) cl1 (.l1 t6 l131 x132) r ∧ Env ⟨77, []⟩ [(4, v7), (6, .map (some b10)), (23, v7), (24, .int .i64 (t6.1.length : Int)), (25, .int .i64 x132)] a ∧ St w em hV [] [mapO b10 .i64 (fun z : Int => Value.int .i64 z) l131, slO (kSl (kInt .i64)) 48 v7 t6.1] w2) m0 (fun a w2 ha hw => ⟨([] : List (Int × Int)), 0, Nat.le_refl _, (nextD_one hr), ha.sub sb, (St.selP [] rfl (St.selO [0, 1] rfl rfl hw))⟩) ?_
 clear hr
 rintro cl1 a w2 ⟨l131, x132, hc_l1, hi, ha, hw⟩
 obtain ⟨m133, o, hm_m133, ho, hr⟩ := stepsD_some hi
 refine CP.app ha hw ?_
 clear ha hw a w2 hi
 refine go ?_
 refine CP.seq ?_
 refine CP.ci ho (fun ho => ?_) fun ho => ?_
 ·refine go ?_
  refine CP.seq (go ?_)
  obtain ⟨x135, hx_x135, ho⟩ := elt_bind ho
  refine SP.indexW (fun w2 hw => slO.whole (St.own 1 rfl see.sub see.dj hw)) Tryz.underlying71 sz48 hx_x135.1 hx_x135.2 rfl rfl rfl rfl (fun p134 h_p134 => ?_)
  refine SP.loadOS (j := x132) see 1 0 rfl hx_x135.2 h_p134 (fun _ _ ⟨v0_, e, p0_⟩ => ⟨v0_, by subst e; rfl, p0_⟩) Tryz.underlying48 rfl rfl rfl (fun v136 => go ?_)
  refine SP.mapUpdate see 0 rfl Tryz.underlying126 Tryz.underlying3 rfl rfl rfl rfl (go ?_)
  obtain rfl := Option.some.inj ho
  exact QE.lower m133 (by omega) fun a w2 ha hw => ⟨(mset l131 x132 (x135.length : Int)), (IntKind.i64.wrap (x132 + 1)), (by omega), (nextD_one hr), ha.sub sb, (St.selP [] rfl hw)⟩
 refine go ?_
 refine CP.seq (go ?_)
 obtain rfl := Option.some.inj ho
 refine CP.loop (fun cl2 a w2 => ∃ l192 : List (Int × Int), ∃ l194 : List Int, ∃ v195 : Value, cl2 ≤ m133 ∧ stepsD (calls_Order.F m_0) cl2 (.l2 t6 l192 l194) r ∧ Env ⟨77, []⟩ [(4, v7), (6, .map (some b10)), (9, v195)] a ∧ St w em hV [] [slO (kInt .i64) 3 v195 l194, mapO b10 .i64 (fun z : Int => Value.int .i64 z) l192, slO (kSl (kInt .i64)) 48 v7 t6.1] w2) m133 (fun a w2 ha hw => ⟨l131, [], (.slice none 0 0), Nat.le_refl _, (nextD_one hr), ha.sub sb, (St.addO (slO.nil (kInt .i64) 3) hw)⟩) ?_
 clear hr
 rintro cl2 a w2 ⟨l192, l194, v195, hc_l2, hi, ha, hw⟩
 obtain ⟨m196, o, hm_m196, ho, hr⟩ := stepsD_some hi
 refine CP.app ha hw ?_
 clear ha hw a w2 hi
 refine CP.seq (go ?_)
 refine SP.val (Val.lenM see 1 rfl Tryz.underlying126 rfl) rfl rfl rfl (go ?_)
 refine CP.ci ho (fun ho => ?_) fun ho => ?_
 ·refine go ?_
  refine CP.join (fun a w2 => ∃ x211 : Int, ∃ (m212 : Nat) (o : (List calls_Order.S ⊕ ((List Int) × Int))), m212 ≤ m196 ∧ calls_Order.j1 m_0 t6 l192 l194 x211 = some o ∧ nextD (calls_Order.F m_0) m212 r o ∧ Env ⟨77, []⟩ [(4, v7), (6, .map (some b10)), (9, v195), (10, .int .i64 x211)] a ∧ St w em hV [] [slO (kInt .i64) 3 v195 l194, mapO b10 .i64 (fun z : Int => Value.int .i64 z) l192, slO (kSl (kInt .i64)) 48 v7 t6.1] w2) ?_ ?_
  ·rintro a w2 ⟨x211, m212, o, hm_m212, ho, hr, ha, hw⟩
   refine CP.app ha hw ?_
   clear ha hw a w2
   refine CP.seq (go ?_)
   refine CP.ci ho (fun ho => ?_) fun ho => ?_
   ·refine go ?_
    obtain rfl := Option.some.inj ho
    obtain rfl : _ = r := hr
    exact QE.rt (fun _ h => St.selO [0] rfl rfl (St.addO (slO.nil (kInt .i64) 3) h))
   refine go ?_
   refine SP.delete see 1 rfl Tryz.underlying126 Tryz.underlying3 rfl rfl rfl (go ?_)
   refine CP.seq (go ?_)
   refine SP.imp (fun w2 hw => St.selO [1, 0, 2] rfl rfl hw) ?_
   refine SP.range see Tryz.underlying126 rfl rfl rfl (fun r214 => go ?_)
   obtain rfl := Option.some.inj ho
   refine CP.loop (fun cl4 a w2 => ∃ l229 : List (Int × Int), ∃ l230 : List (Int × Int), cl4 ≤ m212 ∧ stepsD (calls_Order.F m_0) cl4 (.l4 t6 l194 x211 l229 l230) r ∧ Env ⟨77, []⟩ [(4, v7), (6, .map (some b10)), (9, v195), (10, .int .i64 x211), (57, .pointer (some ⟨r214, 0, none⟩))] a ∧ St w em hV [] [rangeO r214 b10 .i64 (fun z : Int => Value.int .i64 z) l229 l230 none, slO (kInt .i64) 3 v195 l194, slO (kSl (kInt .i64)) 48 v7 t6.1] w2) m212 (fun a w2 ha hw => ⟨(mdel l192 x211), (mdel l192 x211), Nat.le_refl _, (nextD_one hr), ha.sub sb, hw⟩) ?_
   clear hr
   rintro cl4 a w2 ⟨l229, l230, hc_l4, hi, ha, hw⟩
   obtain ⟨m231, o, hm_m231, ho, hr⟩ := stepsD_some hi
   refine CP.app ha hw ?_
   clear ha hw a w2 hi
   refine go ?_
   rcases if_some ho with ⟨hc, ho⟩ | ⟨hc, ho⟩
   ·refine SP.next see 0 rfl rfl rfl rfl (fun _ => go ?_) (fun j k v hj => by rw [List.isEmpty_iff.1 hc] at hj; simp at hj)
    refine CP.seq ?_
    refine CP.condF rfl rfl (go ?_)
    refine SP.lit (k := (kInt .i64)) (xs := [x211]) (vs := [.int .i64 x211]) (cells := [.int .i64 x211]) Tryz.underlying48 inf3 rfl rfl rfl rfl rfl rfl rfl rfl (fun _ ap => ⟨[.int .i64 x211], _, rfl, rfl, rfl⟩) rfl rfl rfl (fun v232 => ?_)
    refine SP.freezeS see 0 rfl ?_
    obtain ⟨hb, ho⟩ := must_some ho
    refine SP.append see 1 rfl 0 rfl Tryz.underlying48 inf3 rfl rfl hb rfl rfl rfl rfl rfl (fun v234 => ?_)
    clear hb
    refine go ?_
    obtain rfl := Option.some.inj ho
    exact QE.lower m231 (by omega) fun a w2 ha hw => ⟨l229, (l194 ++ [x211]), v234, (by omega), (nextD_one hr), ha.sub sb, (St.selP [] rfl (St.selO [1, 0, 2] rfl rfl (St.weakO 0 rfl rangeO.toMap hw)))⟩
   refine SP.next see 0 rfl rfl rfl rfl (fun h0 => absurd (by rw [h0]; rfl) hc) (fun j k236 x237 hj => ?_)
   obtain rfl := Option.some.inj ho
   replace hr := hr.2 _ (List.mem_map_of_mem (mem_picks hj))
   obtain ⟨m239, o, hm_m239, ho, hr⟩ := stepsD_some hr
   clear hj hc
   generalize List.eraseIdx l230 j = l238 at ho ⊢
   refine go ?_
   refine CP.seq ?_
   refine CP.condT rfl rfl (go ?_)
   refine SP.val (Val.entry see 0 (p := (k236, x237)) rfl rfl) rfl rfl rfl (go ?_)
   obtain ⟨x241, hx_x241, ho⟩ := elt_bind ho
   refine SP.indexW (fun w2 hw => slO.whole (St.own 2 rfl see.sub see.dj hw)) Tryz.underlying71 sz48 hx_x241.1 hx_x241.2 rfl rfl rfl rfl (fun p240 h_p240 => ?_)
   refine SP.loadOS (j := k236) see 2 0 rfl hx_x241.2 h_p240 (fun _ _ ⟨v0_, e, p0_⟩ => ⟨v0_, by subst e; rfl, p0_⟩) Tryz.underlying48 rfl rfl rfl (fun v242 => go ?_)
   obtain ⟨t244, hc, ho⟩ := bind_some ho
   refine SP.callV see (caps := []) (.bool t244) fn85 rfl rfl rfl rfl (fun w2 hP hs sub ap => slices_Contains_int_int.ok _ _ _ _ hc w2 hP sub (ap.get 0 rfl)) ?_
   clear hc
   refine go ?_
   refine CP.cb ho (fun ho => ?_) fun ho => ?_
   ·refine go ?_
    refine SP.val (Val.lookupR (z0 := 0) see 0 rfl Tryz.underlying126 Tryz.underlying3 inf3 (by kernel_rfl) rfl rfl) rfl rfl rfl (go ?_)
    obtain ⟨hb, ho⟩ := must_some ho
    refine SP.mapUpdateR see 0 rfl Tryz.underlying126 Tryz.underlying3 hb rfl rfl rfl rfl ?_
    clear hb
    refine go ?_
    obtain rfl := Option.some.inj ho
    exact QE.lower m239 (by omega) fun a w2 ha hw => ⟨(mup l229 k236 (IntKind.i64.wrap (((mget l229 k236).getD 0) - 1))), (mup l238 k236 (IntKind.i64.wrap (((mget l229 k236).getD 0) - 1))), (by omega), (nextD_one hr), ha.sub sb, (St.selP [] rfl hw)⟩
   refine go ?_
   obtain rfl := Option.some.inj ho
   exact QE.lower m239 (by omega) fun a w2 ha hw => ⟨l229, l238, (by omega), (nextD_one hr), ha.sub sb, (St.selP [] rfl (St.weakO 0 rfl rangeO.forget hw))⟩
  refine go ?_
  refine SP.callK see (caps := []) _ fn84 rfl rfl rfl rfl (fun w2 hP hs sub ap => keys84_trip _ w2 hP) (SP.k1 fun b198 => ?_)
  obtain ⟨hb, ho⟩ := must_some ho
  refine SP.callKO see (caps := []) _ fn83 rfl rfl rfl rfl (fun w2 hs => sorted83_trip hb w2 (St.own 0 rfl see.sub see.dj hs) (St.own 2 rfl see.sub see.dj hs)) (fun v a a2 b ⟨v201, e, h⟩ => ⟨v201, e, (Sep.fcons (fun _ => slO.flip (fun _ _ _ _ h => h)) (fun _ => Sep.fnil)) h⟩) (SP.k1 fun v201 => ?_)
  clear hb
  refine SP.val (Val.lenW (fun w2 hw => slO.whole (St.own 0 rfl see.sub see.dj hw)) Tryz.underlying48 rfl) rfl rfl rfl (go ?_)
  obtain rfl := Option.some.inj ho
  refine CP.loop (fun cl3 a w2 => ∃ x206 : Int, cl3 ≤ m196 ∧ stepsD (calls_Order.F m_0) cl3 (.l3 t6 l192 l194 x206) r ∧ Env ⟨77, []⟩ [(4, v7), (6, .map (some b10)), (9, v195), (10, .int .i64 (-1)), (40, v201), (41, .int .i64 ((sortedKeys l192).length : Int)), (42, .int .i64 x206)] a ∧ St w em hV [] [slO (kInt .i64) 3 v201 (sortedKeys l192), slO (kInt .i64) 3 v195 l194, mapO b10 .i64 (fun z : Int => Value.int .i64 z) l192, slO (kSl (kInt .i64)) 48 v7 t6.1] w2) m196 (fun a w2 ha hw => ⟨0, Nat.le_refl _, (nextD_one hr), ha.sub sb, (St.selO [0, 2, 3, 4] rfl rfl hw)⟩) ?_
  clear hr
  rintro cl3 a w2 ⟨x206, hc_l3, hi, ha, hw⟩
  obtain ⟨m207, o, hm_m207, ho, hr⟩ := stepsD_some hi
  refine CP.app ha hw ?_
  clear ha hw a w2 hi
  refine go ?_
  refine CP.seq ?_
  refine CP.ci ho (fun ho => ?_) fun ho => ?_
  ·refine go ?_
   refine CP.seq (go ?_)
   obtain ⟨x209, hx_x209, ho⟩ := elt_bind ho
   refine SP.indexW (fun w2 hw => slO.whole (St.own 0 rfl see.sub see.dj hw)) Tryz.underlying48 sz3 hx_x209.1 hx_x209.2 rfl rfl rfl rfl (fun p208 h_p208 => ?_)
   refine SP.val (Val.loadW1 (off := 0) (k := (kInt .i64)) (fun w2 hw => slO.whole (St.own 0 rfl see.sub see.dj hw)) hx_x209.2 h_p208 (fun _ _ e => by subst e; rfl) Tryz.underlying3 rfl rfl) rfl rfl rfl (go ?_)
   refine SP.val (Val.lookup (z0 := 0) see 2 rfl Tryz.underlying126 Tryz.underlying3 inf3 (by kernel_rfl) rfl rfl) rfl rfl rfl (go ?_)
   refine CP.ci ho (fun ho => ?_) fun ho => ?_
   ·refine go ?_
    exact QE.meet fun a w2 ha hw => ⟨x209, m207, _, (by omega), ho, hr, ha.sub sb, (St.selO [1, 2, 3] rfl rfl hw)⟩
   refine go ?_
   obtain rfl := Option.some.inj ho
   exact QE.lower m207 (by omega) fun a w2 ha hw => ⟨(IntKind.i64.wrap (x206 + 1)), (by omega), (nextD_one hr), ha.sub sb, hw⟩
  refine go ?_
  exact QE.meet fun a w2 ha hw => ⟨(-1), m207, _, (by omega), ho, hr, ha.sub sb, (St.selO [1, 2, 3] rfl rfl hw)⟩
 refine go ?_
 obtain rfl := Option.some.inj ho
 obtain rfl : _ = r := hr
 exact QE.rt (fun _ h => St.selO [0] rfl rfl h)
def calls_Check.f (m_0 : api_Module) : Option Int :=
  (calls_Order.f m_0).bind fun t6 => some t6.2
theorem calls_Check.ok (m_0 : api_Module) (v_m_0_Globals v_m_0_Pool v_m_0_Methods : Value) (r : Int) (H : calls_Check.f m_0 = some r) (w : World) (hV : Hp) (sV : Sub hV (hp w)) (h0 : slR k_api_Value hV v_m_0_Globals m_0.Globals) (h1 : slR k_api_Value hV v_m_0_Pool m_0.Pool) (h2 : slR k_api_Method hV v_m_0_Methods m_0.Methods) :
    Trip Tryz.prog 14 [.agg #[v_m_0_Globals, v_m_0_Pool, v_m_0_Methods, .int .i64 m_0.Migrate]].toArray em hV w (fun v => HO.pure (v = .int .i64 r)) := by
 refine Trip.go 11 Tryz.func14 sV (aS h0 (aS h1 (aS h2 (All.nil _)))) fun see => ?_
 have ho := H
 refine go ?_
 refine SP.box rfl rfl rfl rfl fun b4 => go ?_
 refine SP.val (Val.loadA 0 rfl Tryz.underlying25 rfl sz25 rfl rfl rfl) rfl rfl rfl ?_
 obtain ⟨t6, hc, ho⟩ := bind_some ho
 refine SP.callK see (caps := []) _ fn36 rfl rfl rfl rfl (fun w2 hP hs sub ap => calls_Order.ok _ _ _ _ _ hc w2 hP sub (ap.get 0 rfl) (ap.get 1 rfl) (ap.get 2 rfl)) (SP.k1 fun v7 => ?_)
 clear hc
 refine go ?_
 obtain rfl := Option.some.inj ho
 exact QE.rt (fun _ h => h)
inductive slices_Repeat_int_int.S where
  | start
  | l1 (l12 : List Int) (x14 : Int)
def slices_Repeat_int_int.j2 (x_0 : (List Int)) (count_1 : Int) (t3 : Int × Int) : Option (slices_Repeat_int_int.S ⊕ (List Int)) :=
  if (0 : Int) ≤ (IntKind.i64.wrap t3.2) ∧ (8 : Int) * (IntKind.i64.wrap t3.2) ≤ 281474976710656 ∧ ((IntKind.i64.wrap t3.2) : Int) ≤ 9223372036854775807 then (some (.inl (.l1 (x_0.take (List.replicate (IntKind.i64.wrap t3.2 : Int).toNat 0 : List Int).length ++ (List.replicate (IntKind.i64.wrap t3.2 : Int).toNat 0 : List Int).drop x_0.length) ((min x_0.length (List.replicate (IntKind.i64.wrap t3.2 : Int).toNat 0 : List Int).length : Nat) : Int)))) else none
def slices_Repeat_int_int.j1 (x_0 : (List Int)) (count_1 : Int)  : Option (slices_Repeat_int_int.S ⊕ (List Int)) :=
  (math_bits_Mul.f (IntKind.u64.wrap (x_0.length : Int)) (IntKind.u64.wrap count_1)).bind fun t3 => if ((decide (t3.1 > 0)) || (decide (t3.2 > 9223372036854775807))) = true then (none) else (slices_Repeat_int_int.j2 x_0 count_1 t3)
def slices_Repeat_int_int.F (x_0 : (List Int)) (count_1 : Int) : slices_Repeat_int_int.S → Option (slices_Repeat_int_int.S ⊕ (List Int))
  | .start => if count_1 < 0 then (none) else (slices_Repeat_int_int.j1 x_0 count_1)
  | .l1 l12 x14 => if x14 < (l12.length : Int) then (if (0 : Int) ≤ x14 ∧ x14 ≤ (l12.length : Int) then (if (0 : Int) ≤ x14 ∧ x14 ≤ (l12.length : Int) then (some (.inl (.l1 (l12.take (x14 : Int).toNat ++ l12.take (min (x14 : Int).toNat (l12.length - (x14 : Int).toNat)) ++ l12.drop ((x14 : Int).toNat + min (x14 : Int).toNat (l12.length - (x14 : Int).toNat))) (IntKind.i64.wrap (x14 + ((min (x14 : Int).toNat (l12.length - (x14 : Int).toNat) : Nat) : Int)))))) else none) else none) else (some (.inr l12))
def slices_Repeat_int_int.f (x_0 : (List Int)) (count_1 : Int) : Option (List Int) := runF (slices_Repeat_int_int.F x_0 count_1) .start
theorem slices_Repeat_int_int.ok (x_0 : (List Int)) (count_1 : Int) (v_x_0 : Value) (r : (List Int)) (H : slices_Repeat_int_int.f x_0 count_1 = some r) (w : World) (hV : Hp) (sV : Sub hV (hp w)) (h0 : slR (kInt .i64) hV v_x_0 x_0) :
    Trip Tryz.prog 144 [v_x_0, .int .i64 count_1].toArray em hV w (fun v => HO.ex fun u0 : Value => HO.pand (v = u0) (HO.seps [slO (kInt .i64) 3 u0 r])) := by
 refine Trip.go 48 Tryz.func144 sV (aS h0 (All.nil _)) fun see => ?_
 obtain ⟨n0, hi⟩ := runF_iff.1 H
 obtain ⟨m0, o, hm0, ho, hr⟩ := iter_some hi
 clear hi
 refine go ?_
 refine CP.join (fun a w2 => ∃ (m2 : Nat) (o : (slices_Repeat_int_int.S ⊕ (List Int))), m2 ≤ m0 ∧ slices_Repeat_int_int.j1 x_0 count_1 = some o ∧ next (slices_Repeat_int_int.F x_0 count_1) m2 o = some r ∧ Env ⟨48, []⟩ [(0, v_x_0), (1, .int .i64 count_1)] a ∧ St w em hV [slP (kInt .i64) v_x_0 x_0] [] w2) ?_ ?_
 ·rintro a w2 ⟨m2, o, hm_m2, ho, hr, ha, hw⟩
  refine CP.app ha hw ?_
  clear ha hw a w2
  refine go ?_
  refine SP.val (Val.conv (by rw [Tryz.underlying3]; rfl) Tryz.underlying148 rfl) rfl rfl rfl (go ?_)
  refine SP.val (Val.conv (by rw [Tryz.underlying3]; rfl) Tryz.underlying148 rfl) rfl rfl rfl ?_
  obtain ⟨t3, hc, ho⟩ := bind_some ho
  refine SP.callV see (caps := []) (.tuple #[.int .u64 t3.1, .int .u64 t3.2]) fn203 rfl rfl rfl rfl (fun w2 hP hs sub ap => math_bits_Mul.ok _ _  _ hc w2 hP sub ) ?_
  clear hc
  refine go ?_
  refine CP.join (fun a w2 => ∃ (m6 : Nat) (o : (slices_Repeat_int_int.S ⊕ (List Int))), m6 ≤ m2 ∧ slices_Repeat_int_int.j2 x_0 count_1 t3 = some o ∧ next (slices_Repeat_int_int.F x_0 count_1) m6 o = some r ∧ Env ⟨48, []⟩ [(0, v_x_0), (6, .int .u64 t3.2)] a ∧ St w em hV [slP (kInt .i64) v_x_0 x_0] [] w2) ?_ ?_
  ·rintro a w2 ⟨m6, o, hm_m6, ho, hr, ha, hw⟩
   refine CP.app ha hw ?_
   clear ha hw a w2
   refine go ?_
   refine SP.val (Val.conv (by rw [Tryz.underlying148]; rfl) Tryz.underlying3 rfl) rfl rfl rfl ?_
   obtain ⟨hb, ho⟩ := must_some ho
   refine SP.makeO (k := (kInt .i64)) (z := 0) Tryz.underlying48 inf3 rfl (fun _ => rfl) rfl rfl rfl rfl hb (fun v7 => ?_)
   clear hb
   refine go ?_
   refine SP.copyIn see 0 rfl 0 rfl Tryz.underlying48 sz3 rfl rfl rfl rfl rfl (go ?_)
   refine CP.seq (go ?_)
   obtain rfl := Option.some.inj ho
   refine CP.loop (fun cl1 a w2 => ∃ l12 : List Int, ∃ x14 : Int, ∃ v13 : Value, cl1 ≤ m6 ∧ iter (slices_Repeat_int_int.F x_0 count_1) cl1 (.l1 l12 x14) = some r ∧ Env ⟨48, []⟩ [(7, v13), (8, .int .i64 x14)] a ∧ St w em hV [] [slO (kInt .i64) 3 v13 l12] w2) m6 (fun a w2 ha hw => ⟨(x_0.take (List.replicate (IntKind.i64.wrap t3.2 : Int).toNat 0 : List Int).length ++ (List.replicate (IntKind.i64.wrap t3.2 : Int).toNat 0 : List Int).drop x_0.length), ((min x_0.length (List.replicate (IntKind.i64.wrap t3.2 : Int).toNat 0 : List Int).length : Nat) : Int), v7, Nat.le_refl _, hr, ha.sub sb, (St.selP [] rfl hw)⟩) ?_
   clear hr
   rintro cl1 a w2 ⟨l12, x14, v13, hc_l1, hi, ha, hw⟩
   obtain ⟨m15, o, hm_m15, ho, hr⟩ := iter_some hi
   refine CP.app ha hw ?_
   clear ha hw a w2 hi
   refine CP.seq (go ?_)
   refine SP.val (Val.lenW (fun w2 hw => slO.whole (St.own 0 rfl see.sub see.dj hw)) Tryz.underlying48 rfl) rfl rfl rfl (go ?_)
   refine CP.ci ho (fun ho => ?_) fun ho => ?_
   ·refine go ?_
    refine CP.drawA (by kernel_rfl) (fun w2 k h => h.drawn k) ?_
    refine DA.phase (fun _ => true) (fun _ => True) ?_
    refine DT.take 0 rfl rfl rfl rfl (by kernel_rfl) (fun _ _ _ h => h) (Val.move rfl) (fun _ _ => trivial) ?_
    refine DT.take 1 rfl rfl rfl rfl (by kernel_rfl) (fun _ _ _ h => h) (Val.move rfl) (fun _ _ => trivial) ?_
    refine DT.take 2 rfl rfl rfl rfl (by kernel_rfl) (fun _ _ _ h => h) (Val.move rfl) (fun _ _ => trivial) ?_
    refine DT.take 4 rfl rfl rfl rfl (by kernel_rfl) (fun _ _ _ h => h) (Val.move rfl) (fun _ _ => trivial) ?_
    refine DT.take 5 rfl rfl rfl rfl (by kernel_rfl) (fun _ _ _ h => h) (Val.move rfl) (fun _ _ => trivial) ?_
    refine DT.list (l2 := #[true, true, true, false, true, true, false, false, false, false]) (by kernel_rfl) ?_
    refine DT.free ?_
    obtain ⟨hz16, ho⟩ := must_some ho
    obtain ⟨hz17, ho⟩ := must_some ho
    refine DA.ph 0 7 ?_
    refine DT.tv 3 rfl (Val.sliceFrom see 0 rfl Tryz.underlying48 sz3 rfl rfl hz16) ?_
    refine DT.tv 6 rfl (Val.sliceTo see 0 rfl Tryz.underlying48 sz3 rfl rfl hz17) ?_
    refine DT.next (by kernel_rfl) ?_
    refine DA.one 7 rfl (by kernel_rfl) ?_
    refine SP.copyOver see 0 rfl Tryz.underlying48 sz3 rfl (by omega) rfl rfl rfl rfl (go ?_)
    refine QE.atA ?_
    refine DA.one 8 rfl (by kernel_rfl) (go ?_)
    refine QE.atA ?_
    refine DA.one 9 rfl (by kernel_rfl) (go ?_)
    refine QE.atA ?_
    refine DA.done (by kernel_rfl) (go ?_)
    obtain rfl := Option.some.inj ho
    exact QE.lower m15 (by omega) fun a w2 ha hw => ⟨(l12.take (x14 : Int).toNat ++ l12.take (min (x14 : Int).toNat (l12.length - (x14 : Int).toNat)) ++ l12.drop ((x14 : Int).toNat + min (x14 : Int).toNat (l12.length - (x14 : Int).toNat))), (IntKind.i64.wrap (x14 + ((min (x14 : Int).toNat (l12.length - (x14 : Int).toNat) : Nat) : Int))), v13, (by omega), hr, ha.sub sb, hw⟩
   refine go ?_
   obtain rfl := fin ho hr
   exact QE.rt (fun _ h => St.selO [0] rfl rfl h)
  refine go ?_
  refine SP.jn 3 [0, 6] 26 (.bool ((decide (t3.1 > 0)) || (decide (t3.2 > 9223372036854775807)))) ?_ ?_
  ·refine go ?_
   refine CP.cb ho (fun ho => ?_) fun ho => ?_
   ·cases ho
   refine go ?_
   exact QE.meet fun a w2 ha hw => ⟨m2, _, (by omega), ho, hr, ha.sub sb, hw⟩
  refine SP.bb 23 (fun hq5 => ?_) fun hq5 => ?_
  ·refine go ?_
   exact QE.jb (or_t hq5) fun w2 hw => hw
  refine go ?_
  exact QE.jb (or_f hq5 rfl) fun w2 hw => hw
 refine go ?_
 refine CP.ci ho (fun ho => ?_) fun ho => ?_
 ·cases ho
 refine go ?_
 exact QE.meet fun a w2 ha hw => ⟨m0, _, (by omega), ho, hr, ha.sub sb, hw⟩
inductive flow_Times.S where
  | start
  | l1 (t2 : (List flow_Loop) × Int) (l32 : List Int) (x34 : Int)
  | l2 (t2 : (List flow_Loop) × Int) (x34 : Int) (x37 : flow_Loop) (l45 : List Int) (x47 : Int)
def flow_Times.F (l_0 : (List api_Instr)) : flow_Times.S → Option (flow_Times.S ⊕ ((List Int) × Int))
  | .start => (flow_Loops.f l_0).bind fun t2 => if t2.2 ≠ 0 then (some (.inr ([], t2.2))) else ((slices_Repeat_int_int.f [1] (l_0.length : Int)).bind fun t8 => some (.inl (.l1 t2 t8 0)))
  | .l1 t2 l32 x34 => if x34 < (t2.1.length : Int) then ((elt t2.1 x34).bind fun x37 => some (.inl (.l2 t2 x34 x37 l32 (IntKind.i64.wrap (x37.From + 1))))) else (some (.inr (l32, 0)))
  | .l2 t2 x34 x37 l45 x47 => if x47 ≤ x37.To then ((elt l45 x47).bind fun x50 => (elt l45 x47).bind fun x52 => some (.inl (.l2 t2 x34 x37 (l45.set x47.toNat (IntKind.i64.wrap (x50 * x37.Turns))) (IntKind.i64.wrap (x47 + 1))))) else (some (.inl (.l1 t2 l45 (IntKind.i64.wrap (x34 + 1)))))
def flow_Times.f (l_0 : (List api_Instr)) : Option ((List Int) × Int) := runF (flow_Times.F l_0) .start
theorem flow_Times.ok (l_0 : (List api_Instr)) (v_l_0 : Value)  (r : (List Int) × Int) (H : flow_Times.f l_0 = some r) (w : World) (hV : Hp) (sV : Sub hV (hp w)) (h0 : slR k_api_Instr hV v_l_0 l_0) (h1 : (arrP k_arr245 0 tab0).p hV) :
    Trip Tryz.prog 89 [v_l_0].toArray em hV w (fun v => HO.ex fun u0 : Value => HO.pand (v = .tuple #[u0, .int .i64 r.2]) (HO.seps [slO (kInt .i64) 3 u0 r.1])) := by
 refine Trip.go 47 Tryz.func89 sV (aS h0 (All.cons (x := arrP k_arr245 0 tab0) h1 (All.nil _))) fun see => ?_
 obtain ⟨n0, hi⟩ := runF_iff.1 H
 obtain ⟨m0, o, hm0, ho, hr⟩ := iter_some hi
 clear hi
 refine go ?_
 obtain ⟨t2, hc, ho⟩ := bind_some ho
 refine SP.callK see (caps := []) _ fn34 rfl rfl rfl rfl (fun w2 hP hs sub ap => flow_Loops.ok _ _ _ hc w2 hP sub (ap.get 0 rfl) (ap.get 1 rfl)) (SP.k1 fun v3 => ?_)
 clear hc
 refine go ?_
 refine CP.seq (go ?_)
 refine CP.ci ho (fun ho => ?_) fun ho => ?_
 ·refine go ?_
  obtain rfl := fin ho hr
  exact QE.rt (fun _ h => St.selO [0] rfl rfl (St.addO (slO.nil (kInt .i64) 3) h))
 refine go ?_
 refine SP.lit (k := (kInt .i64)) (xs := [1]) (vs := [.int .i64 1]) (cells := [.int .i64 1]) Tryz.underlying48 inf3 rfl rfl rfl rfl rfl rfl rfl rfl (fun _ ap => ⟨[.int .i64 1], _, rfl, rfl, rfl⟩) rfl rfl rfl (fun v6 => go ?_)
 obtain ⟨t8, hc, ho⟩ := bind_some ho
 refine SP.callKO see (caps := []) _ fn144 rfl rfl rfl rfl (fun w2 hs => slices_Repeat_int_int.ok _ _ _ _ hc w2 (hp w2) (Sub.refl _) (slO.read (St.own 0 rfl see.sub see.dj hs) (Sub.refl _) (Sub.refl _))) (fun v a a2 b ⟨v9, e, h⟩ => ⟨v9, e, (Sep.fcons (fun _ => slO.flip (fun _ _ _ _ h => h)) (fun _ => Sep.fnil)) h⟩) (SP.k1 fun v9 => ?_)
 clear hc
 refine go ?_
 refine CP.seq (go ?_)
 refine SP.val (Val.lenW (fun w2 hw => slO.whole (St.own 2 rfl see.sub see.dj hw)) Tryz.underlying64 rfl) rfl rfl rfl (go ?_)
 obtain rfl := Option.some.inj ho
 refine CP.loop (fun cl1 a w2 => ∃ l32 : List Int, ∃ x34 : Int, ∃ v33 : Value, cl1 ≤ m0 ∧ iter (flow_Times.F l_0) cl1 (.l1 t2 l32 x34) = some r ∧ Env ⟨47, []⟩ [(6, v33), (22, v3), (23, .int .i64 (t2.1.length : Int)), (24, .int .i64 x34)] a ∧ St w em hV [arrP k_arr245 0 tab0] [slO (kInt .i64) 3 v33 l32, slO k_flow_Loop 111 v3 t2.1] w2) m0 (fun a w2 ha hw => ⟨t8, 0, v9, Nat.le_refl _, hr, ha.sub sb, (St.selP [1] rfl (St.selO [0, 2] rfl rfl hw))⟩) ?_
 clear hr
 rintro cl1 a w2 ⟨l32, x34, v33, hc_l1, hi, ha, hw⟩
 obtain ⟨m35, o, hm_m35, ho, hr⟩ := iter_some hi
 refine CP.app ha hw ?_
 clear ha hw a w2 hi
 refine go ?_
 refine CP.seq ?_
 refine CP.ci ho (fun ho => ?_) fun ho => ?_
 ·refine go ?_
  refine CP.seq (go ?_)
  obtain ⟨x37, hx_x37, ho⟩ := elt_bind ho
  refine SP.indexW (fun w2 hw => slO.whole (St.own 1 rfl see.sub see.dj hw)) Tryz.underlying64 sz111 hx_x37.1 hx_x37.2 rfl rfl rfl rfl (fun p36 h_p36 => ?_)
  refine SP.val (Val.loadOA see 1 rfl hx_x37.2 h_p36 (fun _ _ e => e) Tryz.underlying111 rfl sz111 rfl) rfl rfl rfl ?_
  refine SP.alloc (cs := [.int .i64 0, .int .i64 0, .int .i64 0]) inf111 rfl rfl (fun b38 => ?_)
  refine SP.store (v := .agg #[.int .i64 x37.From, .int .i64 x37.To, .int .i64 x37.Turns]) (vs := [.int .i64 x37.From, .int .i64 x37.To, .int .i64 x37.Turns]) 0 (by rfl) sz111 (by rfl) (by rfl) (by rfl) (by rfl) (by rfl) (by rfl) (go ?_)
  obtain rfl := Option.some.inj ho
  refine CP.loop (fun cl2 a w2 => ∃ l45 : List Int, ∃ x47 : Int, ∃ v46 : Value, cl2 ≤ m35 ∧ iter (flow_Times.F l_0) cl2 (.l2 t2 x34 x37 l45 x47) = some r ∧ Env ⟨47, []⟩ [(6, v46), (8, .pointer (some ⟨b38, 0, none⟩)), (9, .int .i64 x47), (22, v3), (23, .int .i64 (t2.1.length : Int)), (24, .int .i64 x34)] a ∧ St w em hV [arrP k_arr245 0 tab0] [boxO b38 [.int .i64 x37.From, .int .i64 x37.To, .int .i64 x37.Turns] 111, slO (kInt .i64) 3 v46 l45, slO k_flow_Loop 111 v3 t2.1] w2) m35 (fun a w2 ha hw => ⟨l32, (IntKind.i64.wrap (x37.From + 1)), v33, Nat.le_refl _, hr, ha.sub sb, hw⟩) ?_
  clear hr
  rintro cl2 a w2 ⟨l45, x47, v46, hc_l2, hi, ha, hw⟩
  obtain ⟨m48, o, hm_m48, ho, hr⟩ := iter_some hi
  refine CP.app ha hw ?_
  clear ha hw a w2 hi
  refine CP.seq (go ?_)
  refine CP.ci ho (fun ho => ?_) fun ho => ?_
  ·refine go ?_
   refine CP.seq (go ?_)
   refine CP.drawA (by kernel_rfl) (fun w2 k h => h.drawn k) ?_
   obtain ⟨x50, hx_x50, ho⟩ := elt_bind ho
   refine DA.ghost (fun w2 hw => let ⟨z, hz⟩ := ixC ((fun w2 hw => slO.whole (St.own 1 rfl see.sub see.dj hw)) w2 hw) hx_x50.1 hx_x50.2; ⟨z, hz, hw⟩) (fun p49 i_p49 => ?_)
   have h_p49 := i_p49.1
   refine DA.ph 0 6 ?_
   refine DT.tk 0 ?_
   refine DT.tk 1 ?_
   refine DT.tv 2 rfl (Val.indexC' i_p49 Tryz.underlying48 sz3 rfl rfl) ?_
   refine DT.tv 3 rfl (Val.loadW1 (off := 0) (k := (kInt .i64)) (fun w2 hw => slO.whole (St.own 1 rfl see.sub see.dj hw)) hx_x50.2 h_p49 (fun _ _ e => by subst e; rfl) Tryz.underlying3 rfl rfl) ?_
   refine DT.tk 4 ?_
   refine DT.tk 5 ?_
   refine DT.next (by kernel_rfl) ?_
   refine DA.one 6 rfl (by kernel_rfl) (go ?_)
   refine QE.atA ?_
   refine DA.one 7 rfl (by kernel_rfl) ?_
   obtain ⟨x52, hx_x52, ho⟩ := elt_bind ho
   refine SP.indexW (fun w2 hw => slO.whole (St.own 1 rfl see.sub see.dj hw)) Tryz.underlying48 sz3 hx_x52.1 hx_x52.2 rfl rfl rfl rfl (fun p51 h_p51 => go ?_)
   refine QE.atA ?_
   refine DA.one 8 rfl (by kernel_rfl) ?_
   refine SP.storeO (z0 := IntKind.i64.wrap (x50 * x37.Turns)) (off := 0) (vs := [.int .i64 (IntKind.i64.wrap (x50 * x37.Turns))]) see 1 rfl hx_x52.2 h_p51 rfl rfl sz3 rfl (fun a cs _ e => by subst e; rfl) rfl rfl rfl (go ?_)
   refine QE.atA ?_
   refine DA.done (by kernel_rfl) (go ?_)
   obtain rfl := Option.some.inj ho
   exact QE.lower m48 (by omega) fun a w2 ha hw => ⟨(l45.set x47.toNat (IntKind.i64.wrap (x50 * x37.Turns))), (IntKind.i64.wrap (x47 + 1)), v46, (by omega), hr, ha.sub sb, hw⟩
  refine go ?_
  obtain rfl := Option.some.inj ho
  exact QE.lower m48 (by omega) fun a w2 ha hw => ⟨l45, (IntKind.i64.wrap (x34 + 1)), v46, (by omega), hr, ha.sub sb, (St.selO [1, 2] rfl rfl hw)⟩
 refine go ?_
 obtain rfl := fin ho hr
 exact QE.rt (fun _ h => St.selO [0] rfl rfl h)
inductive types_Height.S where
  | start
  | l1 (x10 : Int) (x11 : Int)
def types_Height.F (rows_0 : (List types_Row)) : types_Height.S → Option (types_Height.S ⊕ Int)
  | .start => some (.inl (.l1 0 0))
  | .l1 x10 x11 => if x11 < (rows_0.length : Int) then ((elt rows_0 x11).bind fun x15 => some (.inl (.l1 (if (x15.Kinds.length : Int) > x10 then (x15.Kinds.length : Int) else x10) (IntKind.i64.wrap (x11 + 1))))) else (some (.inr x10))
def types_Height.f (rows_0 : (List types_Row)) : Option Int := runF (types_Height.F rows_0) .start
theorem types_Height.ok (rows_0 : (List types_Row)) (v_rows_0 : Value) (r : Int) (H : types_Height.f rows_0 = some r) (w : World) (hV : Hp) (sV : Sub hV (hp w)) (h0 : slR k_types_Row hV v_rows_0 rows_0) :
    Trip Tryz.prog 91 [v_rows_0].toArray em hV w (fun v => HO.pure (v = .int .i64 r)) := by
 refine Trip.go 19 Tryz.func91 sV (aS h0 (All.nil _)) fun see => ?_
 obtain ⟨n0, hi⟩ := runF_iff.1 H
 obtain ⟨m0, o, hm0, ho, hr⟩ := iter_some hi
 clear hi
 refine go ?_
 refine CP.seq (go ?_)
 obtain rfl := Option.some.inj ho
 refine CP.loop (fun cl1 a w2 => ∃ x10 : Int, ∃ x11 : Int, cl1 ≤ m0 ∧ iter (types_Height.F rows_0) cl1 (.l1 x10 x11) = some r ∧ Env ⟨19, []⟩ [(3, .int .i64 x10), (6, v_rows_0), (7, .int .i64 (rows_0.length : Int)), (8, .int .i64 x11)] a ∧ St w em hV [slP k_types_Row v_rows_0 rows_0] [] w2) m0 (fun a w2 ha hw => ⟨0, 0, Nat.le_refl _, hr, ha.sub sb, hw⟩) ?_
 clear hr
 rintro cl1 a w2 ⟨x10, x11, hc_l1, hi, ha, hw⟩
 obtain ⟨m12, o, hm_m12, ho, hr⟩ := iter_some hi
 refine CP.app ha hw ?_
 clear ha hw a w2 hi
 refine go ?_
 refine CP.seq ?_
 refine CP.ci ho (fun ho => ?_) fun ho => ?_
 ·refine go ?_
  refine CP.seq (go ?_)
  obtain ⟨x15, hx, ho⟩ := elt_bind ho
  refine SP.indexP see 0 rfl Tryz.underlying67 sz119 hx.1 hx.2 rfl rfl rfl rfl (fun p13 => ?_)
  clear hx
  refine k_types_Row.load see 0 rfl Tryz.underlying119 rfl sz119 rfl rfl rfl (fun v16 => ?_)
  refine SP.alloc (cs := [.bool false, (.slice none 0 0)]) inf119 rfl rfl (fun b18 => ?_)
  refine SP.have (fun w2 hw => slR.shape (St.pers 0 rfl see.sub see.dj hw)) (fun hs_v16 => ?_)
  refine SP.store (v := .agg #[.bool x15.Reached, v16]) (vs := [.bool x15.Reached, v16]) 0 (by rfl) sz119 (by rfl) (by rfl) (by rfl) (by rfl) (one_cons rfl (one_cons hs_v16 (rfl))) (by rfl) (go ?_)
  refine SP.val (Val.max2 rfl rfl) rfl rfl rfl (go ?_)
  obtain rfl := Option.some.inj ho
  exact QE.lower m12 (by omega) fun a w2 ha hw => ⟨(if (x15.Kinds.length : Int) > x10 then (x15.Kinds.length : Int) else x10), (IntKind.i64.wrap (x11 + 1)), (by omega), hr, ha.sub sb, (St.selP [2] rfl (St.selO [] rfl rfl hw))⟩
 refine go ?_
 obtain rfl := fin ho hr
 exact QE.rt (fun _ h => h)
def cost_sum_high_s2.f (s_0_2 : Int) (s_0_3 : Int) (s_0_4 : Int) (s_0_5 : List Int) (s_0_7 : List Int) (s_0_9 : Int) (s_0_10 : Bool) (s_0_11 : Int) (s_0_12 : Int) (s_0_13 : Int) (s_0_14 : List api_Instr) (s_0_16 : List types_Row) (n_1 : Int) : Option (Int × Int × Int × Int × Bool × Int × Int × Int × (List types_Row)) :=
  some (s_0_2, if n_1 > s_0_3 then n_1 else s_0_3, s_0_4, s_0_9, s_0_10, s_0_11, s_0_12, s_0_13, s_0_16)
theorem cost_sum_high_s2.ok (s_0_2 s_0_3 s_0_4 : Int) (s_0_5 : List Int) (s_0_7 : List Int) (s_0_9 : Int) (s_0_10 : Bool) (s_0_11 s_0_12 s_0_13 : Int) (s_0_14 : List api_Instr) (s_0_16 : List types_Row) (n_1 : Int) (v_s_0_5 v_s_0_7 : Value) (v_s_0_14 v_s_0_16 : Value) (r : Int × Int × Int × Int × Bool × Int × Int × Int × (List types_Row)) (H : cost_sum_high_s2.f s_0_2 s_0_3 s_0_4 s_0_5 s_0_7 s_0_9 s_0_10 s_0_11 s_0_12 s_0_13 s_0_14 s_0_16 n_1 = some r) (w : World) (hV : Hp) (sV : Sub hV (hp w)) (h0 : slR (kInt .u8) hV v_s_0_5 s_0_5) (h1 : slR (kInt .u8) hV v_s_0_7 s_0_7) (h2 : slR k_api_Instr hV v_s_0_14 s_0_14) (h3 : anyP.p hV) (b1 : Nat) (hA : Hp) (sA : Sub hA (hp w)) (dA : Dj hV hA) (hI : (HO.seps [boxO b1 [.int .i64 s_0_2, .int .i64 s_0_3, .int .i64 s_0_4, v_s_0_5, v_s_0_7, .int .u8 s_0_9, .bool s_0_10, .int .i64 s_0_11, .int .i64 s_0_12, .int .i64 s_0_13, v_s_0_14, v_s_0_16] 140, slO k_types_Row 119 v_s_0_16 s_0_16]).p hV hA) :
    Trip Tryz.prog 90 [.pointer (some ⟨b1, 0, none⟩), .int .i64 n_1].toArray hA hV w (fun v => HO.pand (v = .tuple #[]) (HO.seps [HO.ex fun v19 : Value => HO.seps [boxO b1 [.int .i64 r.1, .int .i64 r.2.1, .int .i64 r.2.2.1, v_s_0_5, v_s_0_7, .int .u8 r.2.2.2.1, .bool r.2.2.2.2.1, .int .i64 r.2.2.2.2.2.1, .int .i64 r.2.2.2.2.2.2.1, .int .i64 r.2.2.2.2.2.2.2.1, v_s_0_14, v19] 140, slO k_types_Row 119 v19 r.2.2.2.2.2.2.2.2]])) := by
 have see : Sees w hA hV := ⟨sV, dA⟩
 refine Trip.of (P := Tryz.prog) (n := ⟨15, []⟩) Tryz.func90 rfl ⟨rfl, rfl⟩ rfl (St.beginA (os := [boxO b1 [.int .i64 s_0_2, .int .i64 s_0_3, .int .i64 s_0_4, v_s_0_5, v_s_0_7, .int .u8 s_0_9, .bool s_0_10, .int .i64 s_0_11, .int .i64 s_0_12, .int .i64 s_0_13, v_s_0_14, v_s_0_16] 140, slO k_types_Row 119 v_s_0_16 s_0_16]) sA (aS h0 (aS h1 (aS h2 (All.cons (x := anyP) h3 (All.nil _))))) hI) ?_
 have ho := H
 refine go ?_
 refine SP.val (Val.max2 rfl rfl) rfl rfl rfl (go ?_)
 refine SP.store (v := .int .i64 (if n_1 > s_0_3 then n_1 else s_0_3)) (vs := [.int .i64 (if n_1 > s_0_3 then n_1 else s_0_3)]) 0 (by rfl) sz3 (by rfl) (by rfl) (by rfl) (by rfl) (by rfl) (by rfl) (go ?_)
 obtain rfl := Option.some.inj ho
 exact QE.over (rs := []) (vs := []) Tryz.results90 rfl trivial (fun w2 h => St.done (fun a b p s => ⟨rfl, s⟩) (St.shut v_s_0_16 (St.group [boxO b1 [.int .i64 s_0_2, .int .i64 (if n_1 > s_0_3 then n_1 else s_0_3), .int .i64 s_0_4, v_s_0_5, v_s_0_7, .int .u8 s_0_9, .bool s_0_10, .int .i64 s_0_11, .int .i64 s_0_12, .int .i64 s_0_13, v_s_0_14, v_s_0_16] 140, slO k_types_Row 119 v_s_0_16 s_0_16] (St.selO [0, 1] rfl rfl h))))
def cost_sum_often_s2.f (s_0_2 : Int) (s_0_3 : Int) (s_0_4 : Int) (s_0_5 : List Int) (s_0_7 : List Int) (s_0_9 : Int) (s_0_10 : Bool) (s_0_11 : Int) (s_0_12 : Int) (s_0_13 : Int) (s_0_14 : List api_Instr) (s_0_16 : List types_Row) (times_1 : Int) (fuel_2 : Int) (heap_3 : Int) : Option (Int × Int × Int × Int × Bool × Int × Int × Int × (List types_Row)) :=
  some (IntKind.i64.wrap (s_0_2 + (IntKind.i64.wrap (times_1 * fuel_2))), s_0_3, IntKind.i64.wrap (s_0_4 + (IntKind.i64.wrap (times_1 * heap_3))), s_0_9, s_0_10, s_0_11, s_0_12, s_0_13, s_0_16)
theorem cost_sum_often_s2.ok (s_0_2 s_0_3 s_0_4 : Int) (s_0_5 : List Int) (s_0_7 : List Int) (s_0_9 : Int) (s_0_10 : Bool) (s_0_11 s_0_12 s_0_13 : Int) (s_0_14 : List api_Instr) (s_0_16 : List types_Row) (times_1 fuel_2 heap_3 : Int) (v_s_0_5 v_s_0_7 : Value) (v_s_0_14 v_s_0_16 : Value) (r : Int × Int × Int × Int × Bool × Int × Int × Int × (List types_Row)) (H : cost_sum_often_s2.f s_0_2 s_0_3 s_0_4 s_0_5 s_0_7 s_0_9 s_0_10 s_0_11 s_0_12 s_0_13 s_0_14 s_0_16 times_1 fuel_2 heap_3 = some r) (w : World) (hV : Hp) (sV : Sub hV (hp w)) (h0 : slR (kInt .u8) hV v_s_0_5 s_0_5) (h1 : slR (kInt .u8) hV v_s_0_7 s_0_7) (h2 : slR k_api_Instr hV v_s_0_14 s_0_14) (h3 : anyP.p hV) (b1 : Nat) (hA : Hp) (sA : Sub hA (hp w)) (dA : Dj hV hA) (hI : (HO.seps [boxO b1 [.int .i64 s_0_2, .int .i64 s_0_3, .int .i64 s_0_4, v_s_0_5, v_s_0_7, .int .u8 s_0_9, .bool s_0_10, .int .i64 s_0_11, .int .i64 s_0_12, .int .i64 s_0_13, v_s_0_14, v_s_0_16] 140, slO k_types_Row 119 v_s_0_16 s_0_16]).p hV hA) :
    Trip Tryz.prog 92 [.pointer (some ⟨b1, 0, none⟩), .int .i64 times_1, .int .i64 fuel_2, .int .i64 heap_3].toArray hA hV w (fun v => HO.pand (v = .tuple #[]) (HO.seps [HO.ex fun v19 : Value => HO.seps [boxO b1 [.int .i64 r.1, .int .i64 r.2.1, .int .i64 r.2.2.1, v_s_0_5, v_s_0_7, .int .u8 r.2.2.2.1, .bool r.2.2.2.2.1, .int .i64 r.2.2.2.2.2.1, .int .i64 r.2.2.2.2.2.2.1, .int .i64 r.2.2.2.2.2.2.2.1, v_s_0_14, v19] 140, slO k_types_Row 119 v19 r.2.2.2.2.2.2.2.2]])) := by
 have see : Sees w hA hV := ⟨sV, dA⟩
 refine Trip.of (P := Tryz.prog) (n := ⟨32, []⟩) Tryz.func92 rfl ⟨rfl, rfl⟩ rfl (St.beginA (os := [boxO b1 [.int .i64 s_0_2, .int .i64 s_0_3, .int .i64 s_0_4, v_s_0_5, v_s_0_7, .int .u8 s_0_9, .bool s_0_10, .int .i64 s_0_11, .int .i64 s_0_12, .int .i64 s_0_13, v_s_0_14, v_s_0_16] 140, slO k_types_Row 119 v_s_0_16 s_0_16]) sA (aS h0 (aS h1 (aS h2 (All.cons (x := anyP) h3 (All.nil _))))) hI) ?_
 have ho := H
 refine go ?_
 refine SP.store (v := .int .i64 (IntKind.i64.wrap (s_0_2 + (IntKind.i64.wrap (times_1 * fuel_2))))) (vs := [.int .i64 (IntKind.i64.wrap (s_0_2 + (IntKind.i64.wrap (times_1 * fuel_2))))]) 0 (by rfl) sz3 (by rfl) (by rfl) (by rfl) (by rfl) (by rfl) (by rfl) (go ?_)
 refine SP.store (v := .int .i64 (IntKind.i64.wrap (s_0_4 + (IntKind.i64.wrap (times_1 * heap_3))))) (vs := [.int .i64 (IntKind.i64.wrap (s_0_4 + (IntKind.i64.wrap (times_1 * heap_3))))]) 0 (by rfl) sz3 (by rfl) (by rfl) (by rfl) (by rfl) (by rfl) (by rfl) (go ?_)
 obtain rfl := Option.some.inj ho
 exact QE.over (rs := []) (vs := []) Tryz.results92 rfl trivial (fun w2 h => St.done (fun a b p s => ⟨rfl, s⟩) (St.shut v_s_0_16 (St.group [boxO b1 [.int .i64 (IntKind.i64.wrap (s_0_2 + (IntKind.i64.wrap (times_1 * fuel_2)))), .int .i64 s_0_3, .int .i64 (IntKind.i64.wrap (s_0_4 + (IntKind.i64.wrap (times_1 * heap_3)))), v_s_0_5, v_s_0_7, .int .u8 s_0_9, .bool s_0_10, .int .i64 s_0_11, .int .i64 s_0_12, .int .i64 s_0_13, v_s_0_14, v_s_0_16] 140, slO k_types_Row 119 v_s_0_16 s_0_16] (St.selO [0, 1] rfl rfl h))))
def cost_sum_often_s3.f (s_0_2 : Int) (s_0_3 : Int) (s_0_4 : Int) (s_0_5 : List Int) (s_0_7 : List Int) (s_0_9 : Int) (s_0_10 : Bool) (s_0_11 : Int) (s_0_12 : Int) (s_0_13 : Int) (s_0_14 : List api_Instr) (s_0_16 : List types_Row) (times_1 : Int) (fuel_2 : Int) (heap_3 : Int) : Option (Int × Int × Int × Int × Bool × Int × Int × Int) :=
  some (IntKind.i64.wrap (s_0_2 + (IntKind.i64.wrap (times_1 * fuel_2))), s_0_3, IntKind.i64.wrap (s_0_4 + (IntKind.i64.wrap (times_1 * heap_3))), s_0_9, s_0_10, s_0_11, s_0_12, s_0_13)
theorem cost_sum_often_s3.ok (s_0_2 s_0_3 s_0_4 : Int) (s_0_5 : List Int) (s_0_7 : List Int) (s_0_9 : Int) (s_0_10 : Bool) (s_0_11 s_0_12 s_0_13 : Int) (s_0_14 : List api_Instr) (s_0_16 : List types_Row) (times_1 fuel_2 heap_3 : Int) (v_s_0_5 v_s_0_7 : Value) (v_s_0_14 v_s_0_16 : Value) (r : Int × Int × Int × Int × Bool × Int × Int × Int) (H : cost_sum_often_s3.f s_0_2 s_0_3 s_0_4 s_0_5 s_0_7 s_0_9 s_0_10 s_0_11 s_0_12 s_0_13 s_0_14 s_0_16 times_1 fuel_2 heap_3 = some r) (w : World) (hV : Hp) (sV : Sub hV (hp w)) (h0 : slR (kInt .u8) hV v_s_0_5 s_0_5) (h1 : slR (kInt .u8) hV v_s_0_7 s_0_7) (h2 : slR k_api_Instr hV v_s_0_14 s_0_14) (h3 : slR k_types_Row hV v_s_0_16 s_0_16) (b1 : Nat) (hA : Hp) (sA : Sub hA (hp w)) (dA : Dj hV hA) (hI : (boxO b1 [.int .i64 s_0_2, .int .i64 s_0_3, .int .i64 s_0_4, v_s_0_5, v_s_0_7, .int .u8 s_0_9, .bool s_0_10, .int .i64 s_0_11, .int .i64 s_0_12, .int .i64 s_0_13, v_s_0_14, v_s_0_16] 140).p hV hA) :
    Trip Tryz.prog 92 [.pointer (some ⟨b1, 0, none⟩), .int .i64 times_1, .int .i64 fuel_2, .int .i64 heap_3].toArray hA hV w (fun v => HO.pand (v = .tuple #[]) (HO.seps [boxO b1 [.int .i64 r.1, .int .i64 r.2.1, .int .i64 r.2.2.1, v_s_0_5, v_s_0_7, .int .u8 r.2.2.2.1, .bool r.2.2.2.2.1, .int .i64 r.2.2.2.2.2.1, .int .i64 r.2.2.2.2.2.2.1, .int .i64 r.2.2.2.2.2.2.2, v_s_0_14, v_s_0_16] 140])) := by
 have see : Sees w hA hV := ⟨sV, dA⟩
 refine Trip.of (P := Tryz.prog) (n := ⟨32, []⟩) Tryz.func92 rfl ⟨rfl, rfl⟩ rfl (St.beginA (os := [boxO b1 [.int .i64 s_0_2, .int .i64 s_0_3, .int .i64 s_0_4, v_s_0_5, v_s_0_7, .int .u8 s_0_9, .bool s_0_10, .int .i64 s_0_11, .int .i64 s_0_12, .int .i64 s_0_13, v_s_0_14, v_s_0_16] 140]) sA (aS h0 (aS h1 (aS h2 (aS h3 (All.nil _))))) ⟨hA, em, Dj.em_right _, Sub.refl _, Sub.em _, hI, trivial⟩) ?_
 have ho := H
 refine go ?_
 refine SP.store (v := .int .i64 (IntKind.i64.wrap (s_0_2 + (IntKind.i64.wrap (times_1 * fuel_2))))) (vs := [.int .i64 (IntKind.i64.wrap (s_0_2 + (IntKind.i64.wrap (times_1 * fuel_2))))]) 0 (by rfl) sz3 (by rfl) (by rfl) (by rfl) (by rfl) (by rfl) (by rfl) (go ?_)
 refine SP.store (v := .int .i64 (IntKind.i64.wrap (s_0_4 + (IntKind.i64.wrap (times_1 * heap_3))))) (vs := [.int .i64 (IntKind.i64.wrap (s_0_4 + (IntKind.i64.wrap (times_1 * heap_3))))]) 0 (by rfl) sz3 (by rfl) (by rfl) (by rfl) (by rfl) (by rfl) (by rfl) (go ?_)
 obtain rfl := Option.some.inj ho
 exact QE.over (rs := []) (vs := []) Tryz.results92 rfl trivial (fun w2 h => St.done (fun a b p s => ⟨rfl, s⟩) (St.selO [0] rfl rfl h))
def cost_sum_high_s3.f (s_0_2 : Int) (s_0_3 : Int) (s_0_4 : Int) (s_0_5 : List Int) (s_0_7 : List Int) (s_0_9 : Int) (s_0_10 : Bool) (s_0_11 : Int) (s_0_12 : Int) (s_0_13 : Int) (s_0_14 : List api_Instr) (s_0_16 : List types_Row) (n_1 : Int) : Option (Int × Int × Int × Int × Bool × Int × Int × Int) :=
  some (s_0_2, if n_1 > s_0_3 then n_1 else s_0_3, s_0_4, s_0_9, s_0_10, s_0_11, s_0_12, s_0_13)
theorem cost_sum_high_s3.ok (s_0_2 s_0_3 s_0_4 : Int) (s_0_5 : List Int) (s_0_7 : List Int) (s_0_9 : Int) (s_0_10 : Bool) (s_0_11 s_0_12 s_0_13 : Int) (s_0_14 : List api_Instr) (s_0_16 : List types_Row) (n_1 : Int) (v_s_0_5 v_s_0_7 : Value) (v_s_0_14 v_s_0_16 : Value) (r : Int × Int × Int × Int × Bool × Int × Int × Int) (H : cost_sum_high_s3.f s_0_2 s_0_3 s_0_4 s_0_5 s_0_7 s_0_9 s_0_10 s_0_11 s_0_12 s_0_13 s_0_14 s_0_16 n_1 = some r) (w : World) (hV : Hp) (sV : Sub hV (hp w)) (h0 : slR (kInt .u8) hV v_s_0_5 s_0_5) (h1 : slR (kInt .u8) hV v_s_0_7 s_0_7) (h2 : slR k_api_Instr hV v_s_0_14 s_0_14) (h3 : slR k_types_Row hV v_s_0_16 s_0_16) (b1 : Nat) (hA : Hp) (sA : Sub hA (hp w)) (dA : Dj hV hA) (hI : (boxO b1 [.int .i64 s_0_2, .int .i64 s_0_3, .int .i64 s_0_4, v_s_0_5, v_s_0_7, .int .u8 s_0_9, .bool s_0_10, .int .i64 s_0_11, .int .i64 s_0_12, .int .i64 s_0_13, v_s_0_14, v_s_0_16] 140).p hV hA) :
    Trip Tryz.prog 90 [.pointer (some ⟨b1, 0, none⟩), .int .i64 n_1].toArray hA hV w (fun v => HO.pand (v = .tuple #[]) (HO.seps [boxO b1 [.int .i64 r.1, .int .i64 r.2.1, .int .i64 r.2.2.1, v_s_0_5, v_s_0_7, .int .u8 r.2.2.2.1, .bool r.2.2.2.2.1, .int .i64 r.2.2.2.2.2.1, .int .i64 r.2.2.2.2.2.2.1, .int .i64 r.2.2.2.2.2.2.2, v_s_0_14, v_s_0_16] 140])) := by
 have see : Sees w hA hV := ⟨sV, dA⟩
 refine Trip.of (P := Tryz.prog) (n := ⟨15, []⟩) Tryz.func90 rfl ⟨rfl, rfl⟩ rfl (St.beginA (os := [boxO b1 [.int .i64 s_0_2, .int .i64 s_0_3, .int .i64 s_0_4, v_s_0_5, v_s_0_7, .int .u8 s_0_9, .bool s_0_10, .int .i64 s_0_11, .int .i64 s_0_12, .int .i64 s_0_13, v_s_0_14, v_s_0_16] 140]) sA (aS h0 (aS h1 (aS h2 (aS h3 (All.nil _))))) ⟨hA, em, Dj.em_right _, Sub.refl _, Sub.em _, hI, trivial⟩) ?_
 have ho := H
 refine go ?_
 refine SP.val (Val.max2 rfl rfl) rfl rfl rfl (go ?_)
 refine SP.store (v := .int .i64 (if n_1 > s_0_3 then n_1 else s_0_3)) (vs := [.int .i64 (if n_1 > s_0_3 then n_1 else s_0_3)]) 0 (by rfl) sz3 (by rfl) (by rfl) (by rfl) (by rfl) (by rfl) (by rfl) (go ?_)
 obtain rfl := Option.some.inj ho
 exact QE.over (rs := []) (vs := []) Tryz.results90 rfl trivial (fun w2 h => St.done (fun a b p s => ⟨rfl, s⟩) (St.selO [0] rfl rfl h))
def cost_taker_call_s3.f (t_0_2 : Int) (t_0_3 : Int) (t_0_4 : Int) (t_0_5 : List Int) (t_0_7 : List Int) (t_0_9 : Int) (t_0_10 : Bool) (t_0_11 : Int) (t_0_12 : Int) (t_0_13 : Int) (t_0_14 : List api_Instr) (t_0_16 : List types_Row) (a1 : Int) (times_2 : Int) (other_3 : api_Method) (known_4 : api_Cert) : Option (Int × Int × Int × Int × Bool × Int × Int × Int) :=
  (cost_sum_often_s3.f t_0_2 t_0_3 t_0_4 t_0_5 t_0_7 t_0_9 t_0_10 t_0_11 t_0_12 t_0_13 t_0_14 t_0_16 times_2 known_4.Fuel known_4.Heap).bind fun t25 => (elt t_0_16 a1).bind fun x28 => if x28.Reached = true then ((cost_sum_high_s3.f t25.1 t25.2.1 t25.2.2.1 t_0_5 t_0_7 t25.2.2.2.1 t25.2.2.2.2.1 t25.2.2.2.2.2.1 t25.2.2.2.2.2.2.1 t25.2.2.2.2.2.2.2 t_0_14 t_0_16 (IntKind.i64.wrap ((IntKind.i64.wrap ((IntKind.i64.wrap ((IntKind.i64.wrap ((t_0_5.length : Int) + (t_0_7.length : Int))) + (x28.Kinds.length : Int))) - (other_3.Args.length : Int))) + known_4.Stack))).bind fun t33 => some (t33.1, t33.2.1, t33.2.2.1, t33.2.2.2.1, t33.2.2.2.2.1, t33.2.2.2.2.2.1, t33.2.2.2.2.2.2.1, t33.2.2.2.2.2.2.2)) else (some (t25.1, t25.2.1, t25.2.2.1, t25.2.2.2.1, t25.2.2.2.2.1, t25.2.2.2.2.2.1, t25.2.2.2.2.2.2.1, t25.2.2.2.2.2.2.2))
theorem cost_taker_call_s3.ok (t_0_2 t_0_3 t_0_4 : Int) (t_0_5 : List Int) (t_0_7 : List Int) (t_0_9 : Int) (t_0_10 : Bool) (t_0_11 t_0_12 t_0_13 : Int) (t_0_14 : List api_Instr) (t_0_16 : List types_Row) (a1 times_2 : Int) (other_3 : api_Method) (known_4 : api_Cert) (v_t_0_5 v_t_0_7 : Value) (v_t_0_14 v_t_0_16 : Value) (v_other_3_Args v_other_3_Locals v_other_3_Code : Value) (r : Int × Int × Int × Int × Bool × Int × Int × Int) (H : cost_taker_call_s3.f t_0_2 t_0_3 t_0_4 t_0_5 t_0_7 t_0_9 t_0_10 t_0_11 t_0_12 t_0_13 t_0_14 t_0_16 a1 times_2 other_3 known_4 = some r) (w : World) (hV : Hp) (sV : Sub hV (hp w)) (h0 : slR (kInt .u8) hV v_t_0_5 t_0_5) (h1 : slR (kInt .u8) hV v_t_0_7 t_0_7) (h2 : slR k_api_Instr hV v_t_0_14 t_0_14) (h3 : slR k_types_Row hV v_t_0_16 t_0_16) (h4 : slR (kInt .u8) hV v_other_3_Args other_3.Args) (h5 : slR (kInt .u8) hV v_other_3_Locals other_3.Locals) (h6 : slR k_api_Instr hV v_other_3_Code other_3.Code) (b1 : Nat) (hA : Hp) (sA : Sub hA (hp w)) (dA : Dj hV hA) (hI : (boxO b1 [.int .i64 t_0_2, .int .i64 t_0_3, .int .i64 t_0_4, v_t_0_5, v_t_0_7, .int .u8 t_0_9, .bool t_0_10, .int .i64 t_0_11, .int .i64 t_0_12, .int .i64 t_0_13, v_t_0_14, v_t_0_16] 140).p hV hA) :
    Trip Tryz.prog 93 [.pointer (some ⟨b1, 0, none⟩), .int .i64 a1, .int .i64 times_2, .agg #[v_other_3_Args, v_other_3_Locals, .int .u8 other_3.Result, .bool other_3.Reads, .int .i64 other_3.Fuel, .int .i64 other_3.Stack, .int .i64 other_3.Heap, v_other_3_Code], .agg #[.int .i64 known_4.Fuel, .int .i64 known_4.Stack, .int .i64 known_4.Heap]].toArray hA hV w (fun v => HO.pand (v = .tuple #[]) (HO.seps [boxO b1 [.int .i64 r.1, .int .i64 r.2.1, .int .i64 r.2.2.1, v_t_0_5, v_t_0_7, .int .u8 r.2.2.2.1, .bool r.2.2.2.2.1, .int .i64 r.2.2.2.2.2.1, .int .i64 r.2.2.2.2.2.2.1, .int .i64 r.2.2.2.2.2.2.2, v_t_0_14, v_t_0_16] 140])) := by
 have see : Sees w hA hV := ⟨sV, dA⟩
 refine Trip.of (P := Tryz.prog) (n := ⟨57, []⟩) Tryz.func93 rfl ⟨rfl, rfl⟩ rfl (St.beginA (os := [boxO b1 [.int .i64 t_0_2, .int .i64 t_0_3, .int .i64 t_0_4, v_t_0_5, v_t_0_7, .int .u8 t_0_9, .bool t_0_10, .int .i64 t_0_11, .int .i64 t_0_12, .int .i64 t_0_13, v_t_0_14, v_t_0_16] 140]) sA (aS h0 (aS h1 (aS h2 (aS h3 (aS h4 (aS h5 (aS h6 (All.nil _)))))))) ⟨hA, em, Dj.em_right _, Sub.refl _, Sub.em _, hI, trivial⟩) ?_
 have ho := H
 refine go ?_
 refine SP.box rfl rfl rfl rfl fun b21 => ?_
 refine SP.box rfl rfl rfl rfl fun b23 => go ?_
 refine CP.seq ?_
 refine CP.drawA (by kernel_rfl) (fun w2 k h => h.drawn k) ?_
 refine DA.ph 0 8 ?_
 refine DT.tk 0 ?_
 refine DT.tk 1 ?_
 refine DT.tk 2 ?_
 refine DT.tk 3 ?_
 refine DT.tk 4 ?_
 refine DT.tk 5 ?_
 refine DT.tk 6 ?_
 refine DT.tk 7 ?_
 refine DT.next (by kernel_rfl) ?_
 refine DA.one 8 rfl (by kernel_rfl) ?_
 refine SP.imp (fun w2 hw => St.selO [2, 0, 1] rfl rfl hw) ?_
 obtain ⟨t25, hc, ho⟩ := bind_some ho
 refine SP.callA see (caps := []) _ fn92 rfl rfl rfl rfl (fun w2 hP h1 sub s1 d1 ap hI => cost_sum_often_s3.ok _ _ _ _ _ _ _ _ _ _ _ _ _ _ _ _ _ _ _ _ hc w2 hP sub (ap.get 0 rfl) (ap.get 1 rfl) (ap.get 2 rfl) (ap.get 3 rfl) _ h1 s1 d1 hI) (SP.k0 ?_)
 clear hc
 refine go ?_
 refine QE.atA ?_
 refine DA.done (by kernel_rfl) (go ?_)
 obtain ⟨x28, hx, ho⟩ := elt_bind ho
 refine SP.indexP see 3 rfl Tryz.underlying67 sz119 hx.1 hx.2 rfl rfl rfl rfl (fun p26 => ?_)
 clear hx
 refine k_types_Row.load see 0 rfl Tryz.underlying119 rfl sz119 rfl rfl rfl (fun v29 => ?_)
 refine SP.alloc (cs := [.bool false, (.slice none 0 0)]) inf119 rfl rfl (fun b31 => ?_)
 refine SP.have (fun w2 hw => slR.shape (St.pers 0 rfl see.sub see.dj hw)) (fun hs_v29 => ?_)
 refine SP.store (v := .agg #[.bool x28.Reached, v29]) (vs := [.bool x28.Reached, v29]) 0 (by rfl) sz119 (by rfl) (by rfl) (by rfl) (by rfl) (one_cons rfl (one_cons hs_v29 (rfl))) (by rfl) (go ?_)
 refine CP.cb ho (fun ho => ?_) fun ho => ?_
 ·refine CP.drawA (by kernel_rfl) (fun w2 k h => h.drawn k) ?_
  refine DA.ph 0 27 ?_
  refine DT.tk 0 ?_
  refine DT.tk 1 ?_
  refine DT.tk 2 ?_
  refine DT.tk 3 ?_
  refine DT.tk 4 ?_
  refine DT.tk 5 ?_
  refine DT.tk 6 ?_
  refine DT.tk 7 ?_
  refine DT.tk 8 ?_
  refine DT.tk 9 ?_
  refine DT.tk 10 ?_
  refine DT.tk 11 ?_
  refine DT.tk 12 ?_
  refine DT.tk 13 ?_
  refine DT.tk 14 ?_
  refine DT.tk 15 ?_
  refine DT.tk 16 ?_
  refine DT.tk 17 ?_
  refine DT.tk 18 ?_
  refine DT.tk 19 ?_
  refine DT.tk 20 ?_
  refine DT.tk 21 ?_
  refine DT.tk 22 ?_
  refine DT.tk 23 ?_
  refine DT.tk 24 ?_
  refine DT.tk 25 ?_
  refine DT.tk 26 ?_
  refine DT.next (by kernel_rfl) ?_
  refine DA.one 27 rfl (by kernel_rfl) ?_
  refine SP.imp (fun w2 hw => St.selO [1, 0, 2, 3] rfl rfl hw) ?_
  obtain ⟨t33, hc, ho⟩ := bind_some ho
  refine SP.callA see (caps := []) _ fn90 rfl rfl rfl rfl (fun w2 hP h1 sub s1 d1 ap hI => cost_sum_high_s3.ok _ _ _ _ _ _ _ _ _ _ _ _ _ _ _ _ _ _ hc w2 hP sub (ap.get 2 rfl) (ap.get 3 rfl) (ap.get 4 rfl) (ap.get 5 rfl) _ h1 s1 d1 hI) (SP.k0 ?_)
  clear hc
  refine go ?_
  refine QE.atA ?_
  refine DA.done (by kernel_rfl) ?_
  obtain rfl := Option.some.inj ho
  exact QE.over (rs := []) (vs := []) Tryz.results93 rfl trivial (fun w2 h => St.done (fun a b p s => ⟨rfl, s⟩) (St.selO [0] rfl rfl h))
 refine go ?_
 obtain rfl := Option.some.inj ho
 exact QE.over (rs := []) (vs := []) Tryz.results93 rfl trivial (fun w2 h => St.done (fun a b p s => ⟨rfl, s⟩) (St.selO [1] rfl rfl h))
inductive cost_one.S where
  | start
  | l1 (x11 : api_Method) (t23 : (List Int) × Int) (x125 : Int) (x126 : Int) (x127 : Int) (x128 : Int) (x129 : Int) (b130 : Bool) (x131 : Int) (x132 : Int) (x133 : Int) (l135 : List types_Row)
def cost_one.j1 (m_0 : api_Module) (k_1 : Int) (known_2 : (List api_Cert)) (x11 : api_Method) (t23 : (List Int) × Int) (x125 : Int) (l135 : List types_Row) (x169 : Int) (x170 : Int) (x171 : Int) (x172 : Int) (b173 : Bool) (x174 : Int) (x175 : Int) (x176 : Int) : Option (cost_one.S ⊕ api_Cert) :=
  some (.inl (.l1 x11 t23 (IntKind.i64.wrap (x125 + 1)) x169 x170 x171 x172 b173 x174 x175 x176 l135))
def cost_one.j2 (m_0 : api_Module) (k_1 : Int) (known_2 : (List api_Cert)) (x11 : api_Method) (t23 : (List Int) × Int) (x125 : Int) (x126 : Int) (x127 : Int) (x128 : Int) (x129 : Int) (b130 : Bool) (x131 : Int) (x132 : Int) (x133 : Int) (l135 : List types_Row) (x140 : api_Instr) (x143 : Int) : Option (cost_one.S ⊕ api_Cert) :=
  (elt t23.1 x125).bind fun x147 => (cost_sum_often_s3.f x126 x127 x128 x11.Args x11.Locals x129 b130 x131 x132 x133 x11.Code l135 x147 1 x143).bind fun t149 => if x140.Op = 30 then ((elt t23.1 x125).bind fun x152 => (elt m_0.Methods x140.A).bind fun x156 => (elt known_2 x140.A).bind fun x166 => (cost_taker_call_s3.f t149.1 t149.2.1 t149.2.2.1 x11.Args x11.Locals t149.2.2.2.1 t149.2.2.2.2.1 t149.2.2.2.2.2.1 t149.2.2.2.2.2.2.1 t149.2.2.2.2.2.2.2 x11.Code l135 x125 x152 x156 x166).bind fun t168 => cost_one.j1 m_0 k_1 known_2 x11 t23 x125 l135 t168.1 t168.2.1 t168.2.2.1 t168.2.2.2.1 t168.2.2.2.2.1 t168.2.2.2.2.2.1 t168.2.2.2.2.2.2.1 t168.2.2.2.2.2.2.2) else (cost_one.j1 m_0 k_1 known_2 x11 t23 x125 l135 t149.1 t149.2.1 t149.2.2.1 t149.2.2.2.1 t149.2.2.2.2.1 t149.2.2.2.2.2.1 t149.2.2.2.2.2.2.1 t149.2.2.2.2.2.2.2)
def cost_one.F (m_0 : api_Module) (k_1 : Int) (known_2 : (List api_Cert)) : cost_one.S → Option (cost_one.S ⊕ api_Cert)
  | .start => (elt m_0.Methods k_1).bind fun x11 => (types_Rows.f m_0 k_1).bind fun t20 => (flow_Times.f x11.Code).bind fun t23 => (types_Height.f t20.1).bind fun t28 => (cost_sum_high_s2.f 0 0 0 x11.Args x11.Locals x11.Result x11.Reads x11.Fuel x11.Stack x11.Heap x11.Code t20.1 (IntKind.i64.wrap ((IntKind.i64.wrap ((x11.Args.length : Int) + (x11.Locals.length : Int))) + t28))).bind fun t30 => some (.inl (.l1 x11 t23 0 t30.1 t30.2.1 t30.2.2.1 t30.2.2.2.1 t30.2.2.2.2.1 t30.2.2.2.2.2.1 t30.2.2.2.2.2.2.1 t30.2.2.2.2.2.2.2.1 t30.2.2.2.2.2.2.2.2))
  | .l1 x11 t23 x125 x126 x127 x128 x129 b130 x131 x132 x133 l135 => if x125 < (x11.Code.length : Int) then ((elt x11.Code x125).bind fun x140 => if x140.Op = 22 then (cost_one.j2 m_0 k_1 known_2 x11 t23 x125 x126 x127 x128 x129 b130 x131 x132 x133 l135 x140 x140.A) else (cost_one.j2 m_0 k_1 known_2 x11 t23 x125 x126 x127 x128 x129 b130 x131 x132 x133 l135 x140 0)) else (some (.inr (⟨x126, x127, x128⟩ : api_Cert)))
def cost_one.f (m_0 : api_Module) (k_1 : Int) (known_2 : (List api_Cert)) : Option api_Cert := runF (cost_one.F m_0 k_1 known_2) .start
theorem cost_one.ok (m_0 : api_Module) (k_1 : Int) (known_2 : (List api_Cert)) (v_m_0_Globals v_m_0_Pool : Value) (v_m_0_Methods v_known_2 : Value)  (r : api_Cert) (H : cost_one.f m_0 k_1 known_2 = some r) (w : World) (hV : Hp) (sV : Sub hV (hp w)) (h0 : slR k_api_Value hV v_m_0_Globals m_0.Globals) (h1 : slR k_api_Value hV v_m_0_Pool m_0.Pool) (h2 : slR k_api_Method hV v_m_0_Methods m_0.Methods) (h3 : slR k_api_Cert hV v_known_2 known_2) (h4 : (arrP k_arr245 0 tab0).p hV) :
    Trip Tryz.prog 43 [.agg #[v_m_0_Globals, v_m_0_Pool, v_m_0_Methods, .int .i64 m_0.Migrate], .int .i64 k_1, v_known_2].toArray em hV w (fun v => HO.pure (v = .agg #[.int .i64 r.Fuel, .int .i64 r.Stack, .int .i64 r.Heap])) := by
 refine Trip.go 100 Tryz.func43 sV (aS h0 (aS h1 (aS h2 (aS h3 (All.cons (x := arrP k_arr245 0 tab0) h4 (All.nil _)))))) fun see => ?_
 obtain ⟨n0, hi⟩ := runF_iff.1 H
 obtain ⟨m0, o, hm0, ho, hr⟩ := iter_some hi
 clear hi
 refine go ?_
 refine SP.box rfl rfl rfl rfl fun b5 => ?_
 refine SP.alloc (cs := [.int .i64 0, .int .i64 0, .int .i64 0]) inf45 rfl rfl (fun b7 => go ?_)
 obtain ⟨x11, hx, ho⟩ := elt_bind ho
 refine SP.indexP see 2 rfl Tryz.underlying23 sz34 hx.1 hx.2 rfl rfl rfl rfl (fun p9 => ?_)
 clear hx
 refine k_api_Method.load see 0 rfl Tryz.underlying34 rfl sz34 rfl rfl rfl (fun v12 v14 v16 => ?_)
 refine SP.alloc (cs := [(.slice none 0 0), (.slice none 0 0), .int .u8 0, .bool false, .int .i64 0, .int .i64 0, .int .i64 0, (.slice none 0 0)]) inf34 rfl rfl (fun b18 => ?_)
 refine SP.have (fun w2 hw => slR.shape (St.pers 0 rfl see.sub see.dj hw)) (fun hs_v12 => ?_)
 refine SP.have (fun w2 hw => slR.shape (St.pers 1 rfl see.sub see.dj hw)) (fun hs_v14 => ?_)
 refine SP.have (fun w2 hw => slR.shape (St.pers 2 rfl see.sub see.dj hw)) (fun hs_v16 => ?_)
 refine SP.store (v := .agg #[v12, v14, .int .u8 x11.Result, .bool x11.Reads, .int .i64 x11.Fuel, .int .i64 x11.Stack, .int .i64 x11.Heap, v16]) (vs := [v12, v14, .int .u8 x11.Result, .bool x11.Reads, .int .i64 x11.Fuel, .int .i64 x11.Stack, .int .i64 x11.Heap, v16]) 0 (by rfl) sz34 (by rfl) (by rfl) (by rfl) (by rfl) (one_cons hs_v12 (one_cons hs_v14 (one_cons rfl (one_cons rfl (one_cons rfl (one_cons rfl (one_cons rfl (one_cons hs_v16 (rfl))))))))) (by rfl) (go ?_)
 refine SP.val (Val.loadA 2 rfl Tryz.underlying25 rfl sz25 rfl rfl rfl) rfl rfl rfl (go ?_)
 obtain ⟨t20, hc, ho⟩ := bind_some ho
 refine SP.callK see (caps := []) _ fn35 rfl rfl rfl rfl (fun w2 hP hs sub ap => types_Rows.ok _ _ _ _ _ _ hc w2 hP sub (ap.get 4 rfl) (ap.get 5 rfl) (ap.get 6 rfl) (ap.get 8 rfl)) (SP.k1 fun v21 => ?_)
 clear hc
 refine go ?_
 obtain ⟨t23, hc, ho⟩ := bind_some ho
 refine SP.callK see (caps := []) _ fn89 rfl rfl rfl rfl (fun w2 hP hs sub ap => flow_Times.ok _ _ _ hc w2 hP sub (ap.get 2 rfl) (ap.get 8 rfl)) (SP.k1 fun v24 => ?_)
 clear hc
 refine go ?_
 refine SP.val (Val.loadA 2 rfl Tryz.underlying34 rfl sz34 rfl rfl rfl) rfl rfl rfl (go ?_)
 refine SP.have (fun w2 hw => slO.shape (St.own 1 rfl see.sub see.dj hw)) (fun hs_v21 => ?_)
 refine SP.val (Val.buildC (us := [(1, .agg #[v12, v14, .int .u8 x11.Result, .bool x11.Reads, .int .i64 x11.Fuel, .int .i64 x11.Stack, .int .i64 x11.Heap, v16]), (2, v21)]) (ucs := [(1, [v12, v14, .int .u8 x11.Result, .bool x11.Reads, .int .i64 x11.Fuel, .int .i64 x11.Stack, .int .i64 x11.Heap, v16]), (2, [v21])]) (cs := [.int .i64 0, .int .i64 0, .int .i64 0, v12, v14, .int .u8 x11.Result, .bool x11.Reads, .int .i64 x11.Fuel, .int .i64 x11.Stack, .int .i64 x11.Heap, v16, v21]) bt140 rfl rfl ⟨rfl, rfl, ⟨rfl, one_cells hs_v21, trivial⟩⟩ (by rfl)) rfl rfl rfl ?_
 refine SP.box rfl rfl rfl rfl fun b26 => go ?_
 refine CP.seq ?_
 refine CP.drawA (by kernel_rfl) (fun w2 k h => h.drawn k) ?_
 obtain ⟨t28, hc29, ho⟩ := bind_some ho
 refine DA.ph 0 13 ?_
 refine DT.tk 0 ?_
 refine DT.tk 1 ?_
 refine DT.tk 2 ?_
 refine DT.tk 3 ?_
 refine DT.tk 4 ?_
 refine DT.tk 5 ?_
 refine DT.tk 6 ?_
 refine DT.tk 7 ?_
 refine DT.tk 8 ?_
 refine DT.tk 9 ?_
 refine DT.tk 10 ?_
 refine DT.one 11 rfl (by kernel_rfl) rfl ?_
 refine SP.callVO see (caps := []) (.int .i64 t28) fn91 rfl rfl rfl rfl (fun w2 hs => types_Height.ok t20.1 _ _ hc29 w2 (hp w2) (Sub.refl _) (slO.read (St.own 2 rfl see.sub see.dj hs) (Sub.refl _) (Sub.refl _))) (go ?_)
 refine QE.atT (fun w2 hw => hw) ?_
 refine DT.tk 12 ?_
 refine DT.next (by kernel_rfl) ?_
 refine DA.one 13 rfl (by kernel_rfl) ?_
 refine SP.imp (fun w2 hw => St.selO [0, 2, 1, 3, 4, 5] rfl rfl hw) ?_
 refine SP.imp (fun w2 hw => St.group [boxO b26 [.int .i64 0, .int .i64 0, .int .i64 0, v12, v14, .int .u8 x11.Result, .bool x11.Reads, .int .i64 x11.Fuel, .int .i64 x11.Stack, .int .i64 x11.Heap, v16, v21] 140, slO k_types_Row 119 v21 t20.1] hw) ?_
 obtain ⟨t30, hc, ho⟩ := bind_some ho
 refine SP.callA see (caps := []) _ fn90 rfl rfl rfl rfl (fun w2 hP h1 sub s1 d1 ap hI => cost_sum_high_s2.ok _ _ _ _ _ _ _ _ _ _ _ _ _ _ _ _ v21 _ hc w2 hP sub (ap.get 0 rfl) (ap.get 1 rfl) (ap.get 2 rfl) trivial _ h1 s1 d1 hI) (SP.k0 ?_)
 refine SP.ex (fun w2 h => St.open h) (fun v32 => ?_)
 refine SP.imp (fun w2 h => St.seps h) ?_
 clear hc
 refine go ?_
 refine QE.atA ?_
 refine DA.done (by kernel_rfl) (go ?_)
 refine CP.seq (go ?_)
 refine CP.freezeS see 2 rfl ?_
 obtain rfl := Option.some.inj ho
 refine CP.loop (fun cl1 a w2 => ∃ x125 : Int, ∃ x126 : Int, ∃ x127 : Int, ∃ x128 : Int, ∃ x129 : Int, ∃ b130 : Bool, ∃ x131 : Int, ∃ x132 : Int, ∃ x133 : Int, ∃ l135 : List types_Row, ∃ v136 : Value, cl1 ≤ m0 ∧ iter (cost_one.F m_0 k_1 known_2) cl1 (.l1 x11 t23 x125 x126 x127 x128 x129 b130 x131 x132 x133 l135) = some r ∧ Env ⟨100, []⟩ [(2, v_known_2), (3, .pointer (some ⟨b5, 0, none⟩)), (6, .pointer (some ⟨b7, 0, none⟩)), (10, v24), (12, .pointer (some ⟨b26, 0, none⟩)), (52, v16), (53, .int .i64 (x11.Code.length : Int)), (54, .int .i64 x125)] a ∧ St w em hV [slP k_types_Row v136 l135, slP (kInt .i64) v24 t23.1, slP (kInt .u8) v12 x11.Args, slP (kInt .u8) v14 x11.Locals, slP k_api_Instr v16 x11.Code, slP k_api_Value v_m_0_Globals m_0.Globals, slP k_api_Value v_m_0_Pool m_0.Pool, slP k_api_Method v_m_0_Methods m_0.Methods, slP k_api_Cert v_known_2 known_2, arrP k_arr245 0 tab0] [boxO b26 [.int .i64 x126, .int .i64 x127, .int .i64 x128, v12, v14, .int .u8 x129, .bool b130, .int .i64 x131, .int .i64 x132, .int .i64 x133, v16, v136] 140, boxO b7 [.int .i64 0, .int .i64 0, .int .i64 0] 45, boxO b5 [v_m_0_Globals, v_m_0_Pool, v_m_0_Methods, .int .i64 m_0.Migrate] 25] w2) m0 (fun a w2 ha hw => ⟨0, t30.1, t30.2.1, t30.2.2.1, t30.2.2.2.1, t30.2.2.2.2.1, t30.2.2.2.2.2.1, t30.2.2.2.2.2.2.1, t30.2.2.2.2.2.2.2.1, t30.2.2.2.2.2.2.2.2, v32, Nat.le_refl _, hr, ha.sub sb, (St.selP [0, 1, 2, 3, 4, 6, 7, 8, 9, 10] rfl (St.selO [0, 2, 3] rfl rfl (St.freezeS hw 1 rfl see)))⟩) ?_
 clear hr
 rintro cl1 a w2 ⟨x125, x126, x127, x128, x129, b130, x131, x132, x133, l135, v136, hc_l1, hi, ha, hw⟩
 obtain ⟨m137, o, hm_m137, ho, hr⟩ := iter_some hi
 refine CP.app ha hw ?_
 clear ha hw a w2 hi
 refine go ?_
 refine CP.seq ?_
 refine CP.ci ho (fun ho => ?_) fun ho => ?_
 ·refine go ?_
  refine CP.join (fun a w2 => ∃ x169 : Int, ∃ x170 : Int, ∃ x171 : Int, ∃ x172 : Int, ∃ b173 : Bool, ∃ x174 : Int, ∃ x175 : Int, ∃ x176 : Int, ∃ (m177 : Nat) (o : (cost_one.S ⊕ api_Cert)), m177 ≤ m137 ∧ cost_one.j1 m_0 k_1 known_2 x11 t23 x125 l135 x169 x170 x171 x172 b173 x174 x175 x176 = some o ∧ next (cost_one.F m_0 k_1 known_2) m177 o = some r ∧ Env ⟨100, []⟩ [(2, v_known_2), (3, .pointer (some ⟨b5, 0, none⟩)), (6, .pointer (some ⟨b7, 0, none⟩)), (10, v24), (12, .pointer (some ⟨b26, 0, none⟩)), (52, v16), (53, .int .i64 (x11.Code.length : Int)), (54, .int .i64 x125)] a ∧ St w em hV [slP k_types_Row v136 l135, slP (kInt .i64) v24 t23.1, slP (kInt .u8) v12 x11.Args, slP (kInt .u8) v14 x11.Locals, slP k_api_Instr v16 x11.Code, slP k_api_Value v_m_0_Globals m_0.Globals, slP k_api_Value v_m_0_Pool m_0.Pool, slP k_api_Method v_m_0_Methods m_0.Methods, slP k_api_Cert v_known_2 known_2, arrP k_arr245 0 tab0] [boxO b26 [.int .i64 x169, .int .i64 x170, .int .i64 x171, v12, v14, .int .u8 x172, .bool b173, .int .i64 x174, .int .i64 x175, .int .i64 x176, v16, v136] 140, boxO b7 [.int .i64 0, .int .i64 0, .int .i64 0] 45, boxO b5 [v_m_0_Globals, v_m_0_Pool, v_m_0_Methods, .int .i64 m_0.Migrate] 25] w2) ?_ ?_
  ·rintro a w2 ⟨x169, x170, x171, x172, b173, x174, x175, x176, m177, o, hm_m177, ho, hr, ha, hw⟩
   refine CP.app ha hw ?_
   clear ha hw a w2
   refine go ?_
   obtain rfl := Option.some.inj ho
   exact QE.lower m177 (by omega) fun a w2 ha hw => ⟨(IntKind.i64.wrap (x125 + 1)), x169, x170, x171, x172, b173, x174, x175, x176, l135, v136, (by omega), hr, ha.sub sb, hw⟩
  refine go ?_
  obtain ⟨x140, hx, ho⟩ := elt_bind ho
  refine SP.indexP see 4 rfl Tryz.underlying32 sz43 hx.1 hx.2 rfl rfl rfl rfl (fun p138 => ?_)
  clear hx
  refine k_api_Instr.load see 0 rfl Tryz.underlying43 rfl sz43 rfl rfl rfl ?_
  refine SP.alloc (cs := [.int .u8 0, .int .i64 0, .int .i64 0]) inf43 rfl rfl (fun b141 => go ?_)
  refine SP.store (v := .agg #[.int .u8 x140.Op, .int .i64 x140.A, .int .i64 x140.B]) (vs := [.int .u8 x140.Op, .int .i64 x140.A, .int .i64 x140.B]) 0 (by rfl) sz43 (by rfl) (by rfl) (by rfl) (by rfl) (by rfl) (by rfl) (go ?_)
  refine CP.join (fun a w2 => ∃ x143 : Int, ∃ (m144 : Nat) (o : (cost_one.S ⊕ api_Cert)), m144 ≤ m137 ∧ cost_one.j2 m_0 k_1 known_2 x11 t23 x125 x126 x127 x128 x129 b130 x131 x132 x133 l135 x140 x143 = some o ∧ next (cost_one.F m_0 k_1 known_2) m144 o = some r ∧ Env ⟨100, []⟩ [(2, v_known_2), (3, .pointer (some ⟨b5, 0, none⟩)), (6, .pointer (some ⟨b7, 0, none⟩)), (10, v24), (12, .pointer (some ⟨b26, 0, none⟩)), (13, .int .i64 x125), (14, .pointer (some ⟨b141, 0, none⟩)), (15, .int .i64 x143), (52, v16), (53, .int .i64 (x11.Code.length : Int)), (54, .int .i64 x125)] a ∧ St w em hV [slP k_types_Row v136 l135, slP (kInt .i64) v24 t23.1, slP (kInt .u8) v12 x11.Args, slP (kInt .u8) v14 x11.Locals, slP k_api_Instr v16 x11.Code, slP k_api_Value v_m_0_Globals m_0.Globals, slP k_api_Value v_m_0_Pool m_0.Pool, slP k_api_Method v_m_0_Methods m_0.Methods, slP k_api_Cert v_known_2 known_2, arrP k_arr245 0 tab0] [boxO b141 [.int .u8 x140.Op, .int .i64 x140.A, .int .i64 x140.B] 43, boxO b26 [.int .i64 x126, .int .i64 x127, .int .i64 x128, v12, v14, .int .u8 x129, .bool b130, .int .i64 x131, .int .i64 x132, .int .i64 x133, v16, v136] 140, boxO b7 [.int .i64 0, .int .i64 0, .int .i64 0] 45, boxO b5 [v_m_0_Globals, v_m_0_Pool, v_m_0_Methods, .int .i64 m_0.Migrate] 25] w2) ?_ ?_
  ·rintro a w2 ⟨x143, m144, o, hm_m144, ho, hr, ha, hw⟩
   refine CP.app ha hw ?_
   clear ha hw a w2
   refine CP.seq ?_
   refine CP.drawA (by kernel_rfl) (fun w2 k h => h.drawn k) ?_
   obtain ⟨x147, hx, ho⟩ := elt_bind ho
   refine DA.ghost (fun w2 h => h.elem see 1 rfl hx.1 hx.2) (fun p145 h_p145 => ?_)
   clear hx
   refine DA.ghost (fun w2 h => h.openE see 0 rfl (fun _ : Unit => [.int .i64 x147]) (fun _ => []) (fun h cs e => ⟨(), e, All.nil _⟩)) (fun _ _ => ?_)
   refine DA.ph 0 8 ?_
   refine DT.tk 0 ?_
   refine DT.tk 1 ?_
   refine DT.tk 2 ?_
   refine DT.tk 3 ?_
   refine DT.tk 4 ?_
   refine DT.tv 5 rfl (Val.indexE h_p145 Tryz.underlying48 sz3 rfl rfl) ?_
   refine DT.tv 6 rfl (Val.loadAt1 see 0 rfl Tryz.underlying3 rfl rfl) ?_
   refine DT.tk 7 ?_
   refine DT.next (by kernel_rfl) ?_
   refine DA.one 8 rfl (by kernel_rfl) ?_
   refine SP.imp (fun w2 hw => St.selO [1, 0, 2, 3] rfl rfl hw) ?_
   obtain ⟨t149, hc, ho⟩ := bind_some ho
   refine SP.callA see (caps := []) _ fn92 rfl rfl rfl rfl (fun w2 hP h1 sub s1 d1 ap hI => cost_sum_often_s3.ok _ _ _ _ _ _ _ _ _ _ _ _ _ _ _ _ _ _ _ _ hc w2 hP sub (ap.get 4 rfl) (ap.get 5 rfl) (ap.get 6 rfl) (ap.get 2 rfl) _ h1 s1 d1 hI) (SP.k0 ?_)
   clear hc
   refine go ?_
   refine QE.atA ?_
   refine DA.done (by kernel_rfl) (go ?_)
   refine CP.ci ho (fun ho => ?_) fun ho => ?_
   ·refine CP.drawA (by kernel_rfl) (fun w2 k h => h.drawn k) ?_
    obtain ⟨x152, hx, ho⟩ := elt_bind ho
    refine DA.ghost (fun w2 h => h.elem see 3 rfl hx.1 hx.2) (fun p150 h_p150 => ?_)
    clear hx
    refine DA.ghost (fun w2 h => h.openE see 0 rfl (fun _ : Unit => [.int .i64 x152]) (fun _ => []) (fun h cs e => ⟨(), e, All.nil _⟩)) (fun _ _ => ?_)
    obtain ⟨x156, hx, ho⟩ := elt_bind ho
    refine DA.ghost (fun w2 h => h.elem see 11 rfl hx.1 hx.2) (fun p154 h_p154 => ?_)
    clear hx
    refine DA.ghost (fun w2 h => h.openE see 0 rfl (fun ((v157, v159, v161) : Value × Value × Value) => [v157, v159, .int .u8 x156.Result, .bool x156.Reads, .int .i64 x156.Fuel, .int .i64 x156.Stack, .int .i64 x156.Heap, v161]) (fun ((v157, v159, v161) : Value × Value × Value) => [slP (kInt .u8) v157 x156.Args, slP (kInt .u8) v159 x156.Locals, slP k_api_Instr v161 x156.Code]) (fun h cs ⟨v157, v159, v161, e, p0, p1, p2⟩ => ⟨(v157, v159, v161), e, All.cons p0 (All.cons p1 (All.cons p2 (All.nil _)))⟩)) (fun z_ _ => ?_)
    obtain ⟨v157, v159, v161⟩ := z_
    obtain ⟨x166, hx, ho⟩ := elt_bind ho
    refine DA.ghost (fun w2 h => h.elem see 17 rfl hx.1 hx.2) (fun p164 h_p164 => ?_)
    clear hx
    refine DA.ghost (fun w2 h => h.openE see 0 rfl (fun _ : Unit => [.int .i64 x166.Fuel, .int .i64 x166.Stack, .int .i64 x166.Heap]) (fun _ => []) (fun h cs e => ⟨(), e, All.nil _⟩)) (fun _ _ => ?_)
    refine DA.ph 0 17 ?_
    refine DT.tk 0 ?_
    refine DT.tk 1 ?_
    refine DT.tk 2 ?_
    refine DT.tk 3 ?_
    refine DT.tv 4 rfl (Val.indexE h_p150 Tryz.underlying48 sz3 rfl rfl) ?_
    refine DT.tv 5 rfl (Val.loadAt1 see 7 rfl Tryz.underlying3 rfl rfl) ?_
    refine DT.tk 6 ?_
    refine DT.tk 7 ?_
    refine DT.tk 8 ?_
    refine DT.tk 9 ?_
    refine DT.tv 10 rfl (Val.indexE h_p154 Tryz.underlying23 sz34 rfl rfl) ?_
    refine DT.tv 11 rfl (Val.loadAtA see 2 rfl Tryz.underlying34 rfl sz34 rfl) ?_
    refine DT.tk 12 ?_
    refine DT.tk 13 ?_
    refine DT.tk 14 ?_
    refine DT.tv 15 rfl (Val.indexE h_p164 Tryz.underlying37 sz45 rfl rfl) ?_
    refine DT.tv 16 rfl (Val.loadAtA see 0 rfl Tryz.underlying45 rfl sz45 rfl) ?_
    refine DT.next (by kernel_rfl) ?_
    refine DA.one 17 rfl (by kernel_rfl) ?_
    obtain ⟨t168, hc, ho⟩ := bind_some ho
    refine SP.callA see (caps := []) _ fn93 rfl rfl rfl rfl (fun w2 hP h1 sub s1 d1 ap hI => cost_taker_call_s3.ok _ _ _ _ _ _ _ _ _ _ _ _ _ _ _ _ _ _ _ _ _ _ _ _ hc w2 hP sub (ap.get 13 rfl) (ap.get 14 rfl) (ap.get 15 rfl) (ap.get 11 rfl) (ap.get 3 rfl) (ap.get 4 rfl) (ap.get 5 rfl) _ h1 s1 d1 hI) (SP.k0 ?_)
    clear hc
    refine go ?_
    refine QE.atA ?_
    refine DA.done (by kernel_rfl) (go ?_)
    exact QE.meet fun a w2 ha hw => ⟨t168.1, t168.2.1, t168.2.2.1, t168.2.2.2.1, t168.2.2.2.2.1, t168.2.2.2.2.2.1, t168.2.2.2.2.2.2.1, t168.2.2.2.2.2.2.2, m144, _, (by omega), ho, hr, ha.sub sb, (St.selP [11, 12, 13, 14, 15, 16, 17, 18, 19, 20] rfl (St.selO [0, 2, 3] rfl rfl hw))⟩
   refine go ?_
   exact QE.meet fun a w2 ha hw => ⟨t149.1, t149.2.1, t149.2.2.1, t149.2.2.2.1, t149.2.2.2.2.1, t149.2.2.2.2.2.1, t149.2.2.2.2.2.2.1, t149.2.2.2.2.2.2.2, m144, _, (by omega), ho, hr, ha.sub sb, (St.selP [2, 3, 4, 5, 6, 7, 8, 9, 10, 11] rfl (St.selO [0, 2, 3] rfl rfl hw))⟩
  refine go ?_
  refine CP.ci ho (fun ho => ?_) fun ho => ?_
  ·refine go ?_
   exact QE.meet fun a w2 ha hw => ⟨x140.A, m137, _, (by omega), ho, hr, ha.sub sb, (St.selP [1, 2, 3, 4, 5, 6, 7, 8, 9, 10] rfl hw)⟩
  refine go ?_
  exact QE.meet fun a w2 ha hw => ⟨0, m137, _, (by omega), ho, hr, ha.sub sb, (St.selP [1, 2, 3, 4, 5, 6, 7, 8, 9, 10] rfl hw)⟩
 refine go ?_
 refine SP.val (Val.loadA 0 rfl Tryz.underlying45 rfl sz45 rfl rfl rfl) rfl rfl rfl ?_
 refine SP.store (v := .agg #[.int .i64 x126, .int .i64 x127, .int .i64 x128]) (vs := [.int .i64 x126, .int .i64 x127, .int .i64 x128]) 1 (by rfl) sz45 (by rfl) (by rfl) (by rfl) (by rfl) (by rfl) (by rfl) (go ?_)
 obtain rfl := fin ho hr
 exact QE.rt (fun _ h => h) (rs := [.cell 6 45]) (vs := [.agg #[.int .i64 x126, .int .i64 x127, .int .i64 x128]]) (hv := ⟨RVs.cellA 1 rfl rfl Tryz.underlying45 rfl sz45, trivial⟩)
def cost_within.f (n_0 : Int) (declared_1 : Int) (most_2 : Int) : Option Bool :=
  some (((decide (n_0 ≥ 0)) && (decide (n_0 ≤ declared_1))) && (decide (n_0 ≤ most_2)))
theorem cost_within.ok (n_0 declared_1 most_2 : Int)  (r : Bool) (H : cost_within.f n_0 declared_1 most_2 = some r) (w : World) (hV : Hp) (sV : Sub hV (hp w))  :
    Trip Tryz.prog 94 [.int .i64 n_0, .int .i64 declared_1, .int .i64 most_2].toArray em hV w (fun v => HO.pure (v = .bool r)) := by
 refine Trip.go 19 Tryz.func94 sV (All.nil _) fun see => ?_
 have ho := H
 refine go ?_
 refine SP.jn 4 [0, 2] 13 (.bool ((decide (n_0 ≥ 0)) && (decide (n_0 ≤ declared_1)))) ?_ ?_
 ·refine go ?_
  refine SP.jn 4 [] 18 (.bool (((decide (n_0 ≥ 0)) && (decide (n_0 ≤ declared_1))) && (decide (n_0 ≤ most_2)))) ?_ ?_
  ·refine go ?_
   obtain rfl := Option.some.inj ho
   exact QE.rt (fun _ h => h)
  refine SP.bb 14 (fun hq4 => ?_) fun hq4 => ?_
  ·refine go ?_
   exact QE.jb (and_t hq4 rfl) fun w2 hw => hw
  refine go ?_
  exact QE.jb (and_f hq4) fun w2 hw => hw
 refine SP.bb 9 (fun hq2 => ?_) fun hq2 => ?_
 ·refine go ?_
  exact QE.jb (and_t hq2 rfl) fun w2 hw => hw
 refine go ?_
 exact QE.jb (and_f hq2) fun w2 hw => hw
def cost_Fits.f (c_0 : api_Cert) (x_1 : api_Method) : Option Bool :=
  (cost_within.f c_0.Fuel x_1.Fuel 1048576).bind fun t8 => (if t8 = true then ((cost_within.f c_0.Stack x_1.Stack 256).bind fun t11 => some t11) else (some false)).bind fun t12 => (if t12 = true then ((cost_within.f c_0.Heap x_1.Heap 1024).bind fun t15 => some t15) else (some false)).bind fun t16 => some t16
theorem cost_Fits.ok (c_0 : api_Cert) (x_1 : api_Method) (v_x_1_Args v_x_1_Locals v_x_1_Code : Value) (r : Bool) (H : cost_Fits.f c_0 x_1 = some r) (w : World) (hV : Hp) (sV : Sub hV (hp w)) (h0 : slR (kInt .u8) hV v_x_1_Args x_1.Args) (h1 : slR (kInt .u8) hV v_x_1_Locals x_1.Locals) (h2 : slR k_api_Instr hV v_x_1_Code x_1.Code) :
    Trip Tryz.prog 44 [.agg #[.int .i64 c_0.Fuel, .int .i64 c_0.Stack, .int .i64 c_0.Heap], .agg #[v_x_1_Args, v_x_1_Locals, .int .u8 x_1.Result, .bool x_1.Reads, .int .i64 x_1.Fuel, .int .i64 x_1.Stack, .int .i64 x_1.Heap, v_x_1_Code]].toArray em hV w (fun v => HO.pure (v = .bool r)) := by
 refine Trip.go 24 Tryz.func44 sV (aS h0 (aS h1 (aS h2 (All.nil _)))) fun see => ?_
 have ho := H
 refine go ?_
 refine SP.box rfl rfl rfl rfl fun b4 => ?_
 refine SP.box rfl rfl rfl rfl fun b6 => go ?_
 obtain ⟨t8, hc, ho⟩ := bind_some ho
 refine SP.callV see (caps := []) (.bool t8) fn94 rfl rfl rfl rfl (fun w2 hP hs sub ap => cost_within.ok _ _ _  _ hc w2 hP sub ) ?_
 clear hc
 refine go ?_
 obtain ⟨t12, hg_t12, ho⟩ := bind_some ho
 refine SP.jn 6 [2, 3] 16 (.bool t12) ?_ ?_
 ·clear hg_t12
  refine go ?_
  obtain ⟨t16, hg_t16, ho⟩ := bind_some ho
  refine SP.jn 6 [] 23 (.bool t16) ?_ ?_
  ·clear hg_t16
   refine go ?_
   obtain rfl := Option.some.inj ho
   exact QE.rt (fun _ h => h)
  refine SP.cb 17 hg_t16 (fun hq14 ho => ?_) fun hq14 ho => ?_
  ·refine go ?_
   obtain ⟨t15, hc, ho⟩ := bind_some ho
   refine SP.callV see (caps := []) (.bool t15) fn94 rfl rfl rfl rfl (fun w2 hP hs sub ap => cost_within.ok _ _ _  _ hc w2 hP sub ) ?_
   clear hc
   refine go ?_
   obtain rfl := Option.some.inj ho
   exact QE.jn fun w2 hw => hw
  refine go ?_
  obtain rfl := Option.some.inj ho
  exact QE.jn fun w2 hw => hw
 refine SP.cb 10 hg_t12 (fun hq10 ho => ?_) fun hq10 ho => ?_
 ·refine go ?_
  obtain ⟨t11, hc, ho⟩ := bind_some ho
  refine SP.callV see (caps := []) (.bool t11) fn94 rfl rfl rfl rfl (fun w2 hP hs sub ap => cost_within.ok _ _ _  _ hc w2 hP sub ) ?_
  clear hc
  refine go ?_
  obtain rfl := Option.some.inj ho
  exact QE.jn fun w2 hw => hw
 refine go ?_
 obtain rfl := Option.some.inj ho
 exact QE.jn fun w2 hw => hw
inductive cost_Costs.S where
  | start
  | l1 (t6 : (List Int) × Int) (x61 : Int)
  | l2 (t6 : (List Int) × Int) (l87 : List api_Cert) (x89 : Int)
def cost_Costs.F (m_0 : api_Module) : cost_Costs.S → Option (cost_Costs.S ⊕ ((List api_Cert) × Int))
  | .start => (calls_Order.f m_0).bind fun t6 => if t6.2 ≠ 0 then (some (.inr ([], t6.2))) else (some (.inl (.l1 t6 0)))
  | .l1 t6 x61 => if x61 < (m_0.Methods.length : Int) then ((types_Check.f m_0 x61).bind fun t63 => if t63 ≠ 0 then (some (.inr ([], t63))) else (some (.inl (.l1 t6 (IntKind.i64.wrap (x61 + 1)))))) else (if (0 : Int) ≤ (t6.1.length : Int) ∧ (24 : Int) * (t6.1.length : Int) ≤ 281474976710656 ∧ ((t6.1.length : Int) : Int) ≤ 9223372036854775807 then (some (.inl (.l2 t6 (List.replicate ((t6.1.length : Int) : Int).toNat api_Cert.zero : List api_Cert) 0))) else none)
  | .l2 t6 l87 x89 => if x89 < (t6.1.length : Int) then ((elt t6.1 x89).bind fun x92 => (cost_one.f m_0 x92 l87).bind fun t93 => (elt l87 x92).bind fun x95 => (elt (l87.set x92.toNat t93) x92).bind fun x97 => (elt m_0.Methods x92).bind fun x100 => (cost_Fits.f x97 x100).bind fun t108 => if (!t108) = true then (some (.inr ([], 120))) else (some (.inl (.l2 t6 (l87.set x92.toNat t93) (IntKind.i64.wrap (x89 + 1)))))) else (some (.inr (l87, 0)))
def cost_Costs.f (m_0 : api_Module) : Option ((List api_Cert) × Int) := runF (cost_Costs.F m_0) .start
theorem cost_Costs.ok (m_0 : api_Module) (v_m_0_Globals v_m_0_Pool v_m_0_Methods : Value)  (r : (List api_Cert) × Int) (H : cost_Costs.f m_0 = some r) (w : World) (hV : Hp) (sV : Sub hV (hp w)) (h0 : slR k_api_Value hV v_m_0_Globals m_0.Globals) (h1 : slR k_api_Value hV v_m_0_Pool m_0.Pool) (h2 : slR k_api_Method hV v_m_0_Methods m_0.Methods) (h3 : (arrP k_arr245 0 tab0).p hV) :
    Trip Tryz.prog 20 [.agg #[v_m_0_Globals, v_m_0_Pool, v_m_0_Methods, .int .i64 m_0.Migrate]].toArray em hV w (fun v => HO.ex fun u0 : Value => HO.pand (v = .tuple #[u0, .int .i64 r.2]) (HO.seps [slO k_api_Cert 45 u0 r.1])) := by
 refine Trip.go 61 Tryz.func20 sV (aS h0 (aS h1 (aS h2 (All.cons (x := arrP k_arr245 0 tab0) h3 (All.nil _))))) fun see => ?_
 obtain ⟨n0, hi⟩ := runF_iff.1 H
 obtain ⟨m0, o, hm0, ho, hr⟩ := iter_some hi
 clear hi
 refine go ?_
 refine SP.box rfl rfl rfl rfl fun b4 => go ?_
 refine SP.val (Val.loadA 0 rfl Tryz.underlying25 rfl sz25 rfl rfl rfl) rfl rfl rfl ?_
 obtain ⟨t6, hc, ho⟩ := bind_some ho
 refine SP.callK see (caps := []) _ fn36 rfl rfl rfl rfl (fun w2 hP hs sub ap => calls_Order.ok _ _ _ _ _ hc w2 hP sub (ap.get 0 rfl) (ap.get 1 rfl) (ap.get 2 rfl)) (SP.k1 fun v7 => ?_)
 clear hc
 refine go ?_
 refine CP.seq (go ?_)
 refine CP.ci ho (fun ho => ?_) fun ho => ?_
 ·refine go ?_
  obtain rfl := fin ho hr
  exact QE.rt (fun _ h => St.selO [0] rfl rfl (St.addO (slO.nil k_api_Cert 45) h))
 refine go ?_
 refine CP.seq (go ?_)
 obtain rfl := Option.some.inj ho
 refine CP.loop (fun cl1 a w2 => ∃ x61 : Int, cl1 ≤ m0 ∧ iter (cost_Costs.F m_0) cl1 (.l1 t6 x61) = some r ∧ Env ⟨61, []⟩ [(1, .pointer (some ⟨b4, 0, none⟩)), (4, v7), (21, .int .i64 (m_0.Methods.length : Int)), (22, .int .i64 x61)] a ∧ St w em hV [slP k_api_Value v_m_0_Globals m_0.Globals, slP k_api_Value v_m_0_Pool m_0.Pool, slP k_api_Method v_m_0_Methods m_0.Methods, arrP k_arr245 0 tab0] [slO (kInt .i64) 3 v7 t6.1, boxO b4 [v_m_0_Globals, v_m_0_Pool, v_m_0_Methods, .int .i64 m_0.Migrate] 25] w2) m0 (fun a w2 ha hw => ⟨0, Nat.le_refl _, hr, ha.sub sb, hw⟩) ?_
 clear hr
 rintro cl1 a w2 ⟨x61, hc_l1, hi, ha, hw⟩
 obtain ⟨m62, o, hm_m62, ho, hr⟩ := iter_some hi
 refine CP.app ha hw ?_
 clear ha hw a w2 hi
 refine go ?_
 refine CP.seq ?_
 refine CP.ci ho (fun ho => ?_) fun ho => ?_
 ·refine go ?_
  refine CP.seq (go ?_)
  refine SP.val (Val.loadA 1 rfl Tryz.underlying25 rfl sz25 rfl rfl rfl) rfl rfl rfl (go ?_)
  obtain ⟨t63, hc, ho⟩ := bind_some ho
  refine SP.callV see (caps := []) (.int .i64 t63) fn13 rfl rfl rfl rfl (fun w2 hP hs sub ap => types_Check.ok _ _ _ _ _ _ hc w2 hP sub (ap.get 0 rfl) (ap.get 1 rfl) (ap.get 2 rfl) (ap.get 3 rfl)) ?_
  clear hc
  refine go ?_
  refine CP.ci ho (fun ho => ?_) fun ho => ?_
  ·refine go ?_
   obtain rfl := fin ho hr
   exact QE.rt (fun _ h => St.selO [0] rfl rfl (St.addO (slO.nil k_api_Cert 45) h))
  refine go ?_
  obtain rfl := Option.some.inj ho
  exact QE.lower m62 (by omega) fun a w2 ha hw => ⟨(IntKind.i64.wrap (x61 + 1)), (by omega), hr, ha.sub sb, hw⟩
 refine go ?_
 refine SP.val (Val.lenW (fun w2 hw => slO.whole (St.own 0 rfl see.sub see.dj hw)) Tryz.underlying48 rfl) rfl rfl rfl ?_
 obtain ⟨hb, ho⟩ := must_some ho
 refine SP.makeS (k := k_api_Cert) (z := api_Cert.zero) Tryz.underlying37 inf45 rfl rfl (fun _ => rfl) rfl rfl rfl rfl hb (fun v65 => ?_)
 clear hb
 refine go ?_
 refine CP.seq (go ?_)
 refine SP.val (Val.lenW (fun w2 hw => slO.whole (St.own 1 rfl see.sub see.dj hw)) Tryz.underlying48 rfl) rfl rfl rfl (go ?_)
 obtain rfl := Option.some.inj ho
 refine CP.loop (fun cl2 a w2 => ∃ l87 : List api_Cert, ∃ x89 : Int, ∃ v88 : Value, cl2 ≤ m62 ∧ iter (cost_Costs.F m_0) cl2 (.l2 t6 l87 x89) = some r ∧ Env ⟨61, []⟩ [(1, .pointer (some ⟨b4, 0, none⟩)), (8, v88), (35, v7), (36, .int .i64 (t6.1.length : Int)), (37, .int .i64 x89)] a ∧ St w em hV [slP k_api_Value v_m_0_Globals m_0.Globals, slP k_api_Value v_m_0_Pool m_0.Pool, slP k_api_Method v_m_0_Methods m_0.Methods, arrP k_arr245 0 tab0] [slO k_api_Cert 45 v88 l87, slO (kInt .i64) 3 v7 t6.1, boxO b4 [v_m_0_Globals, v_m_0_Pool, v_m_0_Methods, .int .i64 m_0.Migrate] 25] w2) m62 (fun a w2 ha hw => ⟨(List.replicate ((t6.1.length : Int) : Int).toNat api_Cert.zero : List api_Cert), 0, v65, Nat.le_refl _, hr, ha.sub sb, hw⟩) ?_
 clear hr
 rintro cl2 a w2 ⟨l87, x89, v88, hc_l2, hi, ha, hw⟩
 obtain ⟨m90, o, hm_m90, ho, hr⟩ := iter_some hi
 refine CP.app ha hw ?_
 clear ha hw a w2 hi
 refine go ?_
 refine CP.seq ?_
 refine CP.ci ho (fun ho => ?_) fun ho => ?_
 ·refine go ?_
  refine CP.seq (go ?_)
  obtain ⟨x92, hx_x92, ho⟩ := elt_bind ho
  refine SP.indexW (fun w2 hw => slO.whole (St.own 1 rfl see.sub see.dj hw)) Tryz.underlying48 sz3 hx_x92.1 hx_x92.2 rfl rfl rfl rfl (fun p91 h_p91 => ?_)
  refine SP.val (Val.loadW1 (off := 0) (k := (kInt .i64)) (fun w2 hw => slO.whole (St.own 1 rfl see.sub see.dj hw)) hx_x92.2 h_p91 (fun _ _ e => by subst e; rfl) Tryz.underlying3 rfl rfl) rfl rfl rfl (go ?_)
  refine SP.val (Val.loadA 2 rfl Tryz.underlying25 rfl sz25 rfl rfl rfl) rfl rfl rfl (go ?_)
  obtain ⟨t93, hc, ho⟩ := bind_some ho
  refine SP.callVO see (caps := []) (.agg #[.int .i64 t93.Fuel, .int .i64 t93.Stack, .int .i64 t93.Heap]) fn43 rfl rfl rfl rfl (fun w2 hs => cost_one.ok _ _ _ _ _ _ _ _ hc w2 (hp w2) (Sub.refl _) ((St.pers 0 rfl see.sub see.dj hs)) ((St.pers 1 rfl see.sub see.dj hs)) ((St.pers 2 rfl see.sub see.dj hs)) (slO.read (St.own 0 rfl see.sub see.dj hs) (Sub.refl _) (Sub.refl _)) ((St.pers 3 rfl see.sub see.dj hs))) ?_
  clear hc
  obtain ⟨x95, hx_x95, ho⟩ := elt_bind ho
  refine SP.indexW (fun w2 hw => slO.whole (St.own 0 rfl see.sub see.dj hw)) Tryz.underlying37 sz45 hx_x95.1 hx_x95.2 rfl rfl rfl rfl (fun p94 h_p94 => ?_)
  refine SP.storeO (z0 := t93) (off := 0) (vs := [.int .i64 t93.Fuel, .int .i64 t93.Stack, .int .i64 t93.Heap]) see 0 rfl hx_x95.2 h_p94 rfl rfl sz45 rfl (fun a cs _ e => by subst e; rfl) rfl rfl rfl (go ?_)
  refine CP.seq ?_
  refine CP.drawA (by kernel_rfl) (fun w2 k h => h.drawn k) ?_
  obtain ⟨x97, hx_x97, ho⟩ := elt_bind ho
  refine DA.ghost (fun w2 hw => let ⟨z, hz⟩ := ixC ((fun w2 hw => slO.whole (St.own 0 rfl see.sub see.dj hw)) w2 hw) hx_x97.1 hx_x97.2; ⟨z, hz, hw⟩) (fun p96 i_p96 => ?_)
  have h_p96 := i_p96.1
  obtain ⟨x100, hx, ho⟩ := elt_bind ho
  refine DA.ghost (fun w2 h => h.elem see 2 rfl hx.1 hx.2) (fun p98 h_p98 => ?_)
  clear hx
  refine DA.ghost (fun w2 h => h.openE see 0 rfl (fun ((v101, v103, v105) : Value × Value × Value) => [v101, v103, .int .u8 x100.Result, .bool x100.Reads, .int .i64 x100.Fuel, .int .i64 x100.Stack, .int .i64 x100.Heap, v105]) (fun ((v101, v103, v105) : Value × Value × Value) => [slP (kInt .u8) v101 x100.Args, slP (kInt .u8) v103 x100.Locals, slP k_api_Instr v105 x100.Code]) (fun h cs ⟨v101, v103, v105, e, p0, p1, p2⟩ => ⟨(v101, v103, v105), e, All.cons p0 (All.cons p1 (All.cons p2 (All.nil _)))⟩)) (fun z_ _ => ?_)
  obtain ⟨v101, v103, v105⟩ := z_
  refine DA.ph 0 9 ?_
  refine DT.tk 0 ?_
  refine DT.tk 1 ?_
  refine DT.tv 2 rfl (Val.indexC' i_p96 Tryz.underlying37 sz45 rfl rfl) ?_
  refine DT.tv 3 rfl (Val.loadOA see 0 rfl hx_x97.2 h_p96 (fun _ _ e => e) Tryz.underlying45 rfl sz45 rfl) ?_
  refine DT.tk 4 ?_
  refine DT.tk 5 ?_
  refine DT.tk 6 ?_
  refine DT.tv 7 rfl (Val.indexE h_p98 Tryz.underlying23 sz34 rfl rfl) ?_
  refine DT.tv 8 rfl (Val.loadAtA see 0 rfl Tryz.underlying34 rfl sz34 rfl) ?_
  refine DT.next (by kernel_rfl) ?_
  refine DA.one 9 rfl (by kernel_rfl) ?_
  obtain ⟨t108, hc, ho⟩ := bind_some ho
  refine SP.callV see (caps := []) (.bool t108) fn44 rfl rfl rfl rfl (fun w2 hP hs sub ap => cost_Fits.ok _ _ _ _ _ _ hc w2 hP sub (ap.get 1 rfl) (ap.get 2 rfl) (ap.get 3 rfl)) ?_
  clear hc
  refine go ?_
  refine QE.atA ?_
  refine DA.one 10 rfl (by kernel_rfl) (go ?_)
  refine QE.atA ?_
  refine DA.done (by kernel_rfl) (go ?_)
  refine CP.cb ho (fun ho => ?_) fun ho => ?_
  ·refine go ?_
   obtain rfl := fin ho hr
   exact QE.rt (fun _ h => St.selO [0] rfl rfl (St.addO (slO.nil k_api_Cert 45) h))
  refine go ?_
  obtain rfl := Option.some.inj ho
  exact QE.lower m90 (by omega) fun a w2 ha hw => ⟨(l87.set x92.toNat t93), (IntKind.i64.wrap (x89 + 1)), v88, (by omega), hr, ha.sub sb, (St.selP [5, 6, 7, 8] rfl hw)⟩
 refine go ?_
 obtain rfl := fin ho hr
 exact QE.rt (fun _ h => St.selO [0] rfl rfl h)
def cost_Check.f (m_0 : api_Module) : Option Int :=
  (cost_Costs.f m_0).bind fun t6 => some t6.2
theorem cost_Check.ok (m_0 : api_Module) (v_m_0_Globals v_m_0_Pool v_m_0_Methods : Value)  (r : Int) (H : cost_Check.f m_0 = some r) (w : World) (hV : Hp) (sV : Sub hV (hp w)) (h0 : slR k_api_Value hV v_m_0_Globals m_0.Globals) (h1 : slR k_api_Value hV v_m_0_Pool m_0.Pool) (h2 : slR k_api_Method hV v_m_0_Methods m_0.Methods) (h3 : (arrP k_arr245 0 tab0).p hV) :
    Trip Tryz.prog 15 [.agg #[v_m_0_Globals, v_m_0_Pool, v_m_0_Methods, .int .i64 m_0.Migrate]].toArray em hV w (fun v => HO.pure (v = .int .i64 r)) := by
 refine Trip.go 11 Tryz.func15 sV (aS h0 (aS h1 (aS h2 (All.cons (x := arrP k_arr245 0 tab0) h3 (All.nil _))))) fun see => ?_
 have ho := H
 refine go ?_
 refine SP.box rfl rfl rfl rfl fun b4 => go ?_
 refine SP.val (Val.loadA 0 rfl Tryz.underlying25 rfl sz25 rfl rfl rfl) rfl rfl rfl ?_
 obtain ⟨t6, hc, ho⟩ := bind_some ho
 refine SP.callK see (caps := []) _ fn20 rfl rfl rfl rfl (fun w2 hP hs sub ap => cost_Costs.ok _ _ _ _ _ hc w2 hP sub (ap.get 0 rfl) (ap.get 1 rfl) (ap.get 2 rfl) (ap.get 3 rfl)) (SP.k1 fun v7 => ?_)
 clear hc
 refine go ?_
 obtain rfl := Option.some.inj ho
 exact QE.rt (fun _ h => h)
inductive pure_whom.S where
  | start
  | l1 (l18 : List (List Int)) (x20 : Int)
def pure_whom.F (m_0 : api_Module) : pure_whom.S → Option (pure_whom.S ⊕ ((List (List Int)) × Int))
  | .start => some (.inl (.l1 [] 0))
  | .l1 l18 x20 => if x20 < (m_0.Methods.length : Int) then ((calls_Whom.f m_0 x20).bind fun t22 => if t22.2 ≠ 0 then (some (.inr ([], t22.2))) else (if (l18.length + [t22.1].length) * 24 ≤ 140737488355328 then (some (.inl (.l1 (l18 ++ [t22.1]) (IntKind.i64.wrap (x20 + 1))))) else none)) else (some (.inr (l18, 0)))
def pure_whom.f (m_0 : api_Module) : Option ((List (List Int)) × Int) := runF (pure_whom.F m_0) .start
theorem pure_whom.ok (m_0 : api_Module) (v_m_0_Globals v_m_0_Pool v_m_0_Methods : Value) (r : (List (List Int)) × Int) (H : pure_whom.f m_0 = some r) (w : World) (hV : Hp) (sV : Sub hV (hp w)) (h0 : slR k_api_Value hV v_m_0_Globals m_0.Globals) (h1 : slR k_api_Value hV v_m_0_Pool m_0.Pool) (h2 : slR k_api_Method hV v_m_0_Methods m_0.Methods) :
    Trip Tryz.prog 37 [.agg #[v_m_0_Globals, v_m_0_Pool, v_m_0_Methods, .int .i64 m_0.Migrate]].toArray em hV w (fun v => HO.ex fun u0 : Value => HO.pand (v = .tuple #[u0, .int .i64 r.2]) (HO.seps [slO (kSl (kInt .i64)) 48 u0 r.1])) := by
 refine Trip.go 29 Tryz.func37 sV (aS h0 (aS h1 (aS h2 (All.nil _)))) fun see => ?_
 obtain ⟨n0, hi⟩ := runF_iff.1 H
 obtain ⟨m0, o, hm0, ho, hr⟩ := iter_some hi
 clear hi
 refine go ?_
 refine SP.box rfl rfl rfl rfl fun b4 => go ?_
 refine CP.seq (go ?_)
 obtain rfl := Option.some.inj ho
 refine CP.loop (fun cl1 a w2 => ∃ l18 : List (List Int), ∃ x20 : Int, ∃ v19 : Value, cl1 ≤ m0 ∧ iter (pure_whom.F m_0) cl1 (.l1 l18 x20) = some r ∧ Env ⟨29, []⟩ [(1, .pointer (some ⟨b4, 0, none⟩)), (4, v19), (10, .int .i64 (m_0.Methods.length : Int)), (11, .int .i64 x20)] a ∧ St w em hV [slP k_api_Value v_m_0_Globals m_0.Globals, slP k_api_Value v_m_0_Pool m_0.Pool, slP k_api_Method v_m_0_Methods m_0.Methods] [slO (kSl (kInt .i64)) 48 v19 l18, boxO b4 [v_m_0_Globals, v_m_0_Pool, v_m_0_Methods, .int .i64 m_0.Migrate] 25] w2) m0 (fun a w2 ha hw => ⟨[], 0, (.slice none 0 0), Nat.le_refl _, hr, ha.sub sb, (St.addO (slO.nil (kSl (kInt .i64)) 48) hw)⟩) ?_
 clear hr
 rintro cl1 a w2 ⟨l18, x20, v19, hc_l1, hi, ha, hw⟩
 obtain ⟨m21, o, hm_m21, ho, hr⟩ := iter_some hi
 refine CP.app ha hw ?_
 clear ha hw a w2 hi
 refine go ?_
 refine CP.seq ?_
 refine CP.ci ho (fun ho => ?_) fun ho => ?_
 ·refine go ?_
  refine CP.seq (go ?_)
  refine SP.val (Val.loadA 1 rfl Tryz.underlying25 rfl sz25 rfl rfl rfl) rfl rfl rfl (go ?_)
  obtain ⟨t22, hc, ho⟩ := bind_some ho
  refine SP.callK see (caps := []) _ fn23 rfl rfl rfl rfl (fun w2 hP hs sub ap => calls_Whom.ok _ _ _ _ _ _ hc w2 hP sub (ap.get 0 rfl) (ap.get 1 rfl) (ap.get 2 rfl)) (SP.k1 fun v23 => ?_)
  clear hc
  refine go ?_
  refine CP.seq (go ?_)
  refine CP.ci ho (fun ho => ?_) fun ho => ?_
  ·refine go ?_
   obtain rfl := fin ho hr
   exact QE.rt (fun _ h => St.selO [0] rfl rfl (St.addO (slO.nil (kSl (kInt .i64)) 48) h))
  refine go ?_
  refine SP.freezeS see 0 rfl ?_
  refine SP.litS (k := (kSl (kInt .i64))) (xs := [t22.1]) (vs := [v23]) Tryz.underlying71 inf48 rfl rfl rfl rfl rfl rfl (fun _ ap => ⟨slR.cells1 (ap.get 0 rfl), trivial⟩) (fun _ ap => ⟨[v23], _, rfl, ⟨_, rfl, ap.get 0 rfl⟩, rfl⟩) rfl rfl rfl (fun v26 => ?_)
  refine SP.freezeS see 0 rfl ?_
  obtain ⟨hb, ho⟩ := must_some ho
  refine SP.append see 0 rfl 0 rfl Tryz.underlying71 inf48 rfl rfl hb rfl rfl rfl rfl rfl (fun v28 => ?_)
  clear hb
  refine go ?_
  obtain rfl := Option.some.inj ho
  exact QE.lower m21 (by omega) fun a w2 ha hw => ⟨(l18 ++ [t22.1]), (IntKind.i64.wrap (x20 + 1)), v28, (by omega), hr, ha.sub sb, (St.selP [2, 3, 4] rfl hw)⟩
 refine go ?_
 obtain rfl := fin ho hr
 exact QE.rt (fun _ h => St.selO [0] rfl rfl h)
def pure_stores_1.f (i_0 : api_Instr) : Option Bool :=
  some (decide (i_0.Op = 5))
theorem pure_stores_1.ok (i_0 : api_Instr)  (r : Bool) (H : pure_stores_1.f i_0 = some r) (w : World) (hV : Hp) (sV : Sub hV (hp w))  :
    Trip Tryz.prog 86 [.agg #[.int .u8 i_0.Op, .int .i64 i_0.A, .int .i64 i_0.B]].toArray em hV w (fun v => HO.pure (v = .bool r)) := by
 refine Trip.go 6 Tryz.func86 sV (All.nil _) fun see => ?_
 have ho := H
 refine go ?_
 refine SP.box rfl rfl rfl rfl fun b1 => go ?_
 obtain rfl := Option.some.inj ho
 exact QE.rt (fun _ h => h)
inductive slices_IndexFunc_api_Instr_api_Instr_s4.S where
  | start
  | l1 (x7 : Int)
def slices_IndexFunc_api_Instr_api_Instr_s4.F (s_0 : (List api_Instr)) : slices_IndexFunc_api_Instr_api_Instr_s4.S → Option (slices_IndexFunc_api_Instr_api_Instr_s4.S ⊕ Int)
  | .start => some (.inl (.l1 0))
  | .l1 x7 => if x7 < (s_0.length : Int) then ((elt s_0 x7).bind fun x11 => (pure_stores_1.f x11).bind fun t12 => if t12 = true then (some (.inr x7)) else (some (.inl (.l1 (IntKind.i64.wrap (x7 + 1)))))) else (some (.inr (-1)))
def slices_IndexFunc_api_Instr_api_Instr_s4.f (s_0 : (List api_Instr)) : Option Int := runF (slices_IndexFunc_api_Instr_api_Instr_s4.F s_0) .start
theorem slices_IndexFunc_api_Instr_api_Instr_s4.ok (s_0 : (List api_Instr)) (v_s_0 : Value) (r : Int) (H : slices_IndexFunc_api_Instr_api_Instr_s4.f s_0 = some r) (w : World) (hV : Hp) (sV : Sub hV (hp w)) (h0 : slR k_api_Instr hV v_s_0 s_0) :
    Trip Tryz.prog 128 [v_s_0, .func (.func 86) #[] #[]].toArray em hV w (fun v => HO.pure (v = .int .i64 r)) := by
 refine Trip.go 19 Tryz.func128 sV (aS h0 (All.nil _)) fun see => ?_
 obtain ⟨n0, hi⟩ := runF_iff.1 H
 obtain ⟨m0, o, hm0, ho, hr⟩ := iter_some hi
 clear hi
 refine go ?_
 refine CP.seq (go ?_)
 obtain rfl := Option.some.inj ho
 refine CP.loop (fun cl1 a w2 => ∃ x7 : Int, cl1 ≤ m0 ∧ iter (slices_IndexFunc_api_Instr_api_Instr_s4.F s_0) cl1 (.l1 x7) = some r ∧ Env ⟨19, []⟩ [(0, v_s_0), (1, .func (.func 86) #[] #[]), (7, .int .i64 (s_0.length : Int)), (8, .int .i64 x7)] a ∧ St w em hV [slP k_api_Instr v_s_0 s_0] [] w2) m0 (fun a w2 ha hw => ⟨0, Nat.le_refl _, hr, ha.sub sb, hw⟩) ?_
 clear hr
 rintro cl1 a w2 ⟨x7, hc_l1, hi, ha, hw⟩
 obtain ⟨m8, o, hm_m8, ho, hr⟩ := iter_some hi
 refine CP.app ha hw ?_
 clear ha hw a w2 hi
 refine go ?_
 refine CP.seq ?_
 refine CP.ci ho (fun ho => ?_) fun ho => ?_
 ·refine go ?_
  refine CP.seq (go ?_)
  obtain ⟨x11, hx, ho⟩ := elt_bind ho
  refine SP.indexP see 0 rfl Tryz.underlying32 sz43 hx.1 hx.2 rfl rfl rfl rfl (fun p9 => ?_)
  clear hx
  refine k_api_Instr.load see 0 rfl Tryz.underlying43 rfl sz43 rfl rfl rfl ?_
  obtain ⟨t12, hc, ho⟩ := bind_some ho
  refine SP.callV see (caps := []) (.bool t12) fn86 rfl rfl rfl rfl (fun w2 hP hs sub ap => pure_stores_1.ok _  _ hc w2 hP sub ) ?_
  clear hc
  refine go ?_
  refine CP.cb ho (fun ho => ?_) fun ho => ?_
  ·refine go ?_
   obtain rfl := fin ho hr
   exact QE.rt (fun _ h => h)
  refine go ?_
  obtain rfl := Option.some.inj ho
  exact QE.lower m8 (by omega) fun a w2 ha hw => ⟨(IntKind.i64.wrap (x7 + 1)), (by omega), hr, ha.sub sb, (St.selP [1] rfl hw)⟩
 refine go ?_
 obtain rfl := fin ho hr
 exact QE.rt (fun _ h => h)
def slices_ContainsFunc_api_Instr_api_Instr_s4.f (s_0 : (List api_Instr)) : Option Bool :=
  (slices_IndexFunc_api_Instr_api_Instr_s4.f s_0).bind fun t2 => some (decide (t2 ≥ 0))
theorem slices_ContainsFunc_api_Instr_api_Instr_s4.ok (s_0 : (List api_Instr)) (v_s_0 : Value) (r : Bool) (H : slices_ContainsFunc_api_Instr_api_Instr_s4.f s_0 = some r) (w : World) (hV : Hp) (sV : Sub hV (hp w)) (h0 : slR k_api_Instr hV v_s_0 s_0) :
    Trip Tryz.prog 66 [v_s_0, .func (.func 86) #[] #[]].toArray em hV w (fun v => HO.pure (v = .bool r)) := by
 refine Trip.go 9 Tryz.func66 sV (aS h0 (All.nil _)) fun see => ?_
 have ho := H
 refine go ?_
 obtain ⟨t2, hc, ho⟩ := bind_some ho
 refine SP.callV see (caps := []) (.int .i64 t2) fn128 rfl rfl rfl rfl (fun w2 hP hs sub ap => slices_IndexFunc_api_Instr_api_Instr_s4.ok _ _ _ hc w2 hP sub (ap.get 0 rfl)) ?_
 clear hc
 refine go ?_
 obtain rfl := Option.some.inj ho
 exact QE.rt (fun _ h => h)
def pure_stores.f (x_0 : api_Method) : Option Bool :=
  (slices_ContainsFunc_api_Instr_api_Instr_s4.f x_0.Code).bind fun t6 => some t6
theorem pure_stores.ok (x_0 : api_Method) (v_x_0_Args v_x_0_Locals v_x_0_Code : Value) (r : Bool) (H : pure_stores.f x_0 = some r) (w : World) (hV : Hp) (sV : Sub hV (hp w)) (h0 : slR (kInt .u8) hV v_x_0_Args x_0.Args) (h1 : slR (kInt .u8) hV v_x_0_Locals x_0.Locals) (h2 : slR k_api_Instr hV v_x_0_Code x_0.Code) :
    Trip Tryz.prog 39 [.agg #[v_x_0_Args, v_x_0_Locals, .int .u8 x_0.Result, .bool x_0.Reads, .int .i64 x_0.Fuel, .int .i64 x_0.Stack, .int .i64 x_0.Heap, v_x_0_Code]].toArray em hV w (fun v => HO.pure (v = .bool r)) := by
 refine Trip.go 6 Tryz.func39 sV (aS h0 (aS h1 (aS h2 (All.nil _)))) fun see => ?_
 have ho := H
 refine go ?_
 refine SP.box rfl rfl rfl rfl fun b4 => go ?_
 obtain ⟨t6, hc, ho⟩ := bind_some ho
 refine SP.callV see (caps := []) (.bool t6) fn66 rfl rfl rfl rfl (fun w2 hP hs sub ap => slices_ContainsFunc_api_Instr_api_Instr_s4.ok _ _ _ hc w2 hP sub (ap.get 2 rfl)) ?_
 clear hc
 refine go ?_
 obtain rfl := Option.some.inj ho
 exact QE.rt (fun _ h => h)
def pure_Check_1_s1.f (n_0 : Int) (c0_1 : List api_Value) (c0_3 : List api_Value) (c0_5 : List api_Method) (c0_7 : Int) : Option Bool :=
  (elt c0_5 n_0).bind fun x12 => some (!x12.Reads)
theorem pure_Check_1_s1.ok (n_0 : Int) (c0_1 : List api_Value) (c0_3 : List api_Value) (c0_5 : List api_Method) (c0_7 : Int) (v_c0_1 v_c0_3 v_c0_5 : Value) (b8 : Nat) (r : Bool) (H : pure_Check_1_s1.f n_0 c0_1 c0_3 c0_5 c0_7 = some r) (w : World) (hV : Hp) (sV : Sub hV (hp w)) (h0 : slR k_api_Value hV v_c0_1 c0_1) (h1 : slR k_api_Value hV v_c0_3 c0_3) (h2 : slR k_api_Method hV v_c0_5 c0_5) (h3 : (boxP b8 [v_c0_1, v_c0_3, v_c0_5, .int .i64 c0_7] 25).p hV) :
    Trip Tryz.prog 38 [.int .i64 n_0, .pointer (some ⟨b8, 0, none⟩)].toArray em hV w (fun v => HO.pure (v = .bool r)) := by
 refine Trip.go 11 Tryz.func38 sV (aS h0 (aS h1 (aS h2 (All.cons (x := boxP b8 [v_c0_1, v_c0_3, v_c0_5, .int .i64 c0_7] 25) h3 (All.nil _))))) fun see => ?_
 have ho := H
 refine CP.seq ?_
 refine CP.region ?_
 refine SP.val (Val.assign rfl) rfl rfl rfl ?_
 refine SP.nil ?_
 refine QE.then ?_
 refine CP.seq ?_
 refine CP.region ?_
 refine SP.val (Val.fieldAddr Tryz.underlying25 rfl sz23 rfl) rfl rfl rfl ?_
 refine SP.val (Val.loadB1 see 3 rfl Tryz.underlying23 rfl rfl rfl) rfl rfl rfl (go ?_)
 obtain ⟨x12, hx, ho⟩ := elt_bind ho
 refine SP.indexP see 2 rfl Tryz.underlying23 sz34 hx.1 hx.2 rfl rfl rfl rfl (fun p10 => ?_)
 clear hx
 refine SP.fieldP see 0 rfl Tryz.underlying34 rfl sz4 k_api_Method.part_Reads rfl rfl rfl (fun p13 => ?_)
 refine SP.val (Val.loadP1 see 0 rfl (fun _ _ e => e) Tryz.underlying4 rfl rfl) rfl rfl rfl (go ?_)
 obtain rfl := Option.some.inj ho
 exact QE.rt (fun _ h => h)
inductive slices_IndexFunc_int_int_s1.S where
  | start
  | l1 (x16 : Int)
def slices_IndexFunc_int_int_s1.F (s_0 : (List Int)) (f_1_2 : List api_Value) (f_1_4 : List api_Value) (f_1_6 : List api_Method) (f_1_8 : Int) : slices_IndexFunc_int_int_s1.S → Option (slices_IndexFunc_int_int_s1.S ⊕ Int)
  | .start => some (.inl (.l1 0))
  | .l1 x16 => if x16 < (s_0.length : Int) then ((elt s_0 x16).bind fun x20 => (pure_Check_1_s1.f x20 f_1_2 f_1_4 f_1_6 f_1_8).bind fun t21 => if t21 = true then (some (.inr x16)) else (some (.inl (.l1 (IntKind.i64.wrap (x16 + 1)))))) else (some (.inr (-1)))
def slices_IndexFunc_int_int_s1.f (s_0 : (List Int)) (f_1_2 : List api_Value) (f_1_4 : List api_Value) (f_1_6 : List api_Method) (f_1_8 : Int) : Option Int := runF (slices_IndexFunc_int_int_s1.F s_0 f_1_2 f_1_4 f_1_6 f_1_8) .start
theorem slices_IndexFunc_int_int_s1.ok (s_0 : (List Int)) (f_1_2 : List api_Value) (f_1_4 : List api_Value) (f_1_6 : List api_Method) (f_1_8 : Int) (v_s_0 v_f_1_2 : Value) (v_f_1_4 v_f_1_6 : Value) (b9 : Nat) (r : Int) (H : slices_IndexFunc_int_int_s1.f s_0 f_1_2 f_1_4 f_1_6 f_1_8 = some r) (w : World) (hV : Hp) (sV : Sub hV (hp w)) (h0 : slR (kInt .i64) hV v_s_0 s_0) (h1 : slR k_api_Value hV v_f_1_2 f_1_2) (h2 : slR k_api_Value hV v_f_1_4 f_1_4) (h3 : slR k_api_Method hV v_f_1_6 f_1_6) (h4 : (boxP b9 [v_f_1_2, v_f_1_4, v_f_1_6, .int .i64 f_1_8] 25).p hV) :
    Trip Tryz.prog 87 [v_s_0, .func (.func 38) #[] #[.pointer (some ⟨b9, 0, none⟩)]].toArray em hV w (fun v => HO.pure (v = .int .i64 r)) := by
 refine Trip.go 19 Tryz.func87 sV (aS h0 (aS h1 (aS h2 (aS h3 (All.cons (x := boxP b9 [v_f_1_2, v_f_1_4, v_f_1_6, .int .i64 f_1_8] 25) h4 (All.nil _)))))) fun see => ?_
 obtain ⟨n0, hi⟩ := runF_iff.1 H
 obtain ⟨m0, o, hm0, ho, hr⟩ := iter_some hi
 clear hi
 refine go ?_
 refine CP.seq (go ?_)
 obtain rfl := Option.some.inj ho
 refine CP.loop (fun cl1 a w2 => ∃ x16 : Int, cl1 ≤ m0 ∧ iter (slices_IndexFunc_int_int_s1.F s_0 f_1_2 f_1_4 f_1_6 f_1_8) cl1 (.l1 x16) = some r ∧ Env ⟨19, []⟩ [(0, v_s_0), (1, .func (.func 38) #[] #[.pointer (some ⟨b9, 0, none⟩)]), (7, .int .i64 (s_0.length : Int)), (8, .int .i64 x16)] a ∧ St w em hV [slP (kInt .i64) v_s_0 s_0, slP k_api_Value v_f_1_2 f_1_2, slP k_api_Value v_f_1_4 f_1_4, slP k_api_Method v_f_1_6 f_1_6, boxP b9 [v_f_1_2, v_f_1_4, v_f_1_6, .int .i64 f_1_8] 25] [] w2) m0 (fun a w2 ha hw => ⟨0, Nat.le_refl _, hr, ha.sub sb, hw⟩) ?_
 clear hr
 rintro cl1 a w2 ⟨x16, hc_l1, hi, ha, hw⟩
 obtain ⟨m17, o, hm_m17, ho, hr⟩ := iter_some hi
 refine CP.app ha hw ?_
 clear ha hw a w2 hi
 refine go ?_
 refine CP.seq ?_
 refine CP.ci ho (fun ho => ?_) fun ho => ?_
 ·refine go ?_
  refine CP.seq (go ?_)
  obtain ⟨x20, hx, ho⟩ := elt_bind ho
  refine SP.indexP see 0 rfl Tryz.underlying48 sz3 hx.1 hx.2 rfl rfl rfl rfl (fun p18 => ?_)
  clear hx
  refine SP.val (Val.loadP1 see 0 rfl (fun _ _ e => e) Tryz.underlying3 rfl rfl) rfl rfl rfl ?_
  obtain ⟨t21, hc, ho⟩ := bind_some ho
  refine SP.callV see (caps := [.pointer (some ⟨b9, 0, none⟩)]) (.bool t21) fn38 rfl rfl rfl rfl (fun w2 hP hs sub ap => pure_Check_1_s1.ok _ _ _ _ _ _ _ _ _ _ hc w2 hP sub (ap.get 2 rfl) (ap.get 3 rfl) (ap.get 4 rfl) (ap.get 5 rfl)) ?_
  clear hc
  refine go ?_
  refine CP.cb ho (fun ho => ?_) fun ho => ?_
  ·refine go ?_
   obtain rfl := fin ho hr
   exact QE.rt (fun _ h => h)
  refine go ?_
  obtain rfl := Option.some.inj ho
  exact QE.lower m17 (by omega) fun a w2 ha hw => ⟨(IntKind.i64.wrap (x16 + 1)), (by omega), hr, ha.sub sb, (St.selP [1, 2, 3, 4, 5] rfl hw)⟩
 refine go ?_
 obtain rfl := fin ho hr
 exact QE.rt (fun _ h => h)
def slices_ContainsFunc_int_int_s1.f (s_0 : (List Int)) (f_1_2 : List api_Value) (f_1_4 : List api_Value) (f_1_6 : List api_Method) (f_1_8 : Int) : Option Bool :=
  (slices_IndexFunc_int_int_s1.f s_0 f_1_2 f_1_4 f_1_6 f_1_8).bind fun t11 => some (decide (t11 ≥ 0))
theorem slices_ContainsFunc_int_int_s1.ok (s_0 : (List Int)) (f_1_2 : List api_Value) (f_1_4 : List api_Value) (f_1_6 : List api_Method) (f_1_8 : Int) (v_s_0 v_f_1_2 : Value) (v_f_1_4 v_f_1_6 : Value) (b9 : Nat) (r : Bool) (H : slices_ContainsFunc_int_int_s1.f s_0 f_1_2 f_1_4 f_1_6 f_1_8 = some r) (w : World) (hV : Hp) (sV : Sub hV (hp w)) (h0 : slR (kInt .i64) hV v_s_0 s_0) (h1 : slR k_api_Value hV v_f_1_2 f_1_2) (h2 : slR k_api_Value hV v_f_1_4 f_1_4) (h3 : slR k_api_Method hV v_f_1_6 f_1_6) (h4 : (boxP b9 [v_f_1_2, v_f_1_4, v_f_1_6, .int .i64 f_1_8] 25).p hV) :
    Trip Tryz.prog 40 [v_s_0, .func (.func 38) #[] #[.pointer (some ⟨b9, 0, none⟩)]].toArray em hV w (fun v => HO.pure (v = .bool r)) := by
 refine Trip.go 9 Tryz.func40 sV (aS h0 (aS h1 (aS h2 (aS h3 (All.cons (x := boxP b9 [v_f_1_2, v_f_1_4, v_f_1_6, .int .i64 f_1_8] 25) h4 (All.nil _)))))) fun see => ?_
 have ho := H
 refine go ?_
 obtain ⟨t11, hc, ho⟩ := bind_some ho
 refine SP.callV see (caps := []) (.int .i64 t11) fn87 rfl rfl rfl rfl (fun w2 hP hs sub ap => slices_IndexFunc_int_int_s1.ok _ _ _ _ _ _ _ _ _ _ _ hc w2 hP sub (ap.get 0 rfl) (ap.get 1 rfl) (ap.get 2 rfl) (ap.get 3 rfl) (ap.get 4 rfl)) ?_
 clear hc
 refine go ?_
 obtain rfl := Option.some.inj ho
 exact QE.rt (fun _ h => h)
inductive pure_Check.S where
  | start
  | l1 (t6 : (List (List Int)) × Int) (x79 : Int)
def pure_Check.F (m_0 : api_Module) : pure_Check.S → Option (pure_Check.S ⊕ Int)
  | .start => (pure_whom.f m_0).bind fun t6 => if t6.2 ≠ 0 then (some (.inr t6.2)) else (some (.inl (.l1 t6 0)))
  | .l1 t6 x79 => if x79 < (m_0.Methods.length : Int) then ((elt m_0.Methods x79).bind fun x83 => (if x83.Reads = true then ((pure_stores.f x83).bind fun t94 => (if t94 = true then (some true) else ((elt t6.1 x79).bind fun x98 => (slices_ContainsFunc_int_int_s1.f x98 m_0.Globals m_0.Pool m_0.Methods m_0.Migrate).bind fun t101 => some t101)).bind fun t102 => some t102) else (some false)).bind fun t103 => if t103 = true then (some (.inr 130)) else (some (.inl (.l1 t6 (IntKind.i64.wrap (x79 + 1)))))) else (some (.inr 0))
def pure_Check.f (m_0 : api_Module) : Option Int := runF (pure_Check.F m_0) .start
theorem pure_Check.ok (m_0 : api_Module) (v_m_0_Globals v_m_0_Pool v_m_0_Methods : Value) (r : Int) (H : pure_Check.f m_0 = some r) (w : World) (hV : Hp) (sV : Sub hV (hp w)) (h0 : slR k_api_Value hV v_m_0_Globals m_0.Globals) (h1 : slR k_api_Value hV v_m_0_Pool m_0.Pool) (h2 : slR k_api_Method hV v_m_0_Methods m_0.Methods) :
    Trip Tryz.prog 16 [.agg #[v_m_0_Globals, v_m_0_Pool, v_m_0_Methods, .int .i64 m_0.Migrate]].toArray em hV w (fun v => HO.pure (v = .int .i64 r)) := by
 refine Trip.go 40 Tryz.func16 sV (aS h0 (aS h1 (aS h2 (All.nil _)))) fun see => ?_
 obtain ⟨n0, hi⟩ := runF_iff.1 H
 obtain ⟨m0, o, hm0, ho, hr⟩ := iter_some hi
 clear hi
 refine go ?_
 refine SP.box rfl rfl rfl rfl fun b4 => go ?_
 refine SP.val (Val.loadA 0 rfl Tryz.underlying25 rfl sz25 rfl rfl rfl) rfl rfl rfl ?_
 obtain ⟨t6, hc, ho⟩ := bind_some ho
 refine SP.callK see (caps := []) _ fn37 rfl rfl rfl rfl (fun w2 hP hs sub ap => pure_whom.ok _ _ _ _ _ hc w2 hP sub (ap.get 0 rfl) (ap.get 1 rfl) (ap.get 2 rfl)) (SP.k1 fun v7 => ?_)
 clear hc
 refine go ?_
 refine CP.seq (go ?_)
 refine CP.ci ho (fun ho => ?_) fun ho => ?_
 ·refine go ?_
  obtain rfl := fin ho hr
  exact QE.rt (fun _ h => h)
 refine go ?_
 refine CP.seq (go ?_)
 refine CP.freezeB see 1 rfl ?_
 obtain rfl := Option.some.inj ho
 refine CP.loop (fun cl1 a w2 => ∃ x79 : Int, cl1 ≤ m0 ∧ iter (pure_Check.F m_0) cl1 (.l1 t6 x79) = some r ∧ Env ⟨40, []⟩ [(1, .pointer (some ⟨b4, 0, none⟩)), (3, v7), (17, v_m_0_Methods), (18, .int .i64 (m_0.Methods.length : Int)), (19, .int .i64 x79)] a ∧ St w em hV [boxP b4 [v_m_0_Globals, v_m_0_Pool, v_m_0_Methods, .int .i64 m_0.Migrate] 25, slP k_api_Value v_m_0_Globals m_0.Globals, slP k_api_Value v_m_0_Pool m_0.Pool, slP k_api_Method v_m_0_Methods m_0.Methods] [slO (kSl (kInt .i64)) 48 v7 t6.1] w2) m0 (fun a w2 ha hw => ⟨0, Nat.le_refl _, hr, ha.sub sb, hw⟩) ?_
 clear hr
 rintro cl1 a w2 ⟨x79, hc_l1, hi, ha, hw⟩
 obtain ⟨m80, o, hm_m80, ho, hr⟩ := iter_some hi
 refine CP.app ha hw ?_
 clear ha hw a w2 hi
 refine go ?_
 refine CP.seq ?_
 refine CP.ci ho (fun ho => ?_) fun ho => ?_
 ·refine go ?_
  refine CP.seq (go ?_)
  obtain ⟨x83, hx, ho⟩ := elt_bind ho
  refine SP.indexP see 3 rfl Tryz.underlying23 sz34 hx.1 hx.2 rfl rfl rfl rfl (fun p81 => ?_)
  clear hx
  refine k_api_Method.load see 0 rfl Tryz.underlying34 rfl sz34 rfl rfl rfl (fun v84 v86 v88 => ?_)
  refine SP.alloc (cs := [(.slice none 0 0), (.slice none 0 0), .int .u8 0, .bool false, .int .i64 0, .int .i64 0, .int .i64 0, (.slice none 0 0)]) inf34 rfl rfl (fun b90 => go ?_)
  refine SP.have (fun w2 hw => slR.shape (St.pers 0 rfl see.sub see.dj hw)) (fun hs_v84 => ?_)
  refine SP.have (fun w2 hw => slR.shape (St.pers 1 rfl see.sub see.dj hw)) (fun hs_v86 => ?_)
  refine SP.have (fun w2 hw => slR.shape (St.pers 2 rfl see.sub see.dj hw)) (fun hs_v88 => ?_)
  refine SP.store (v := .agg #[v84, v86, .int .u8 x83.Result, .bool x83.Reads, .int .i64 x83.Fuel, .int .i64 x83.Stack, .int .i64 x83.Heap, v88]) (vs := [v84, v86, .int .u8 x83.Result, .bool x83.Reads, .int .i64 x83.Fuel, .int .i64 x83.Stack, .int .i64 x83.Heap, v88]) 0 (by rfl) sz34 (by rfl) (by rfl) (by rfl) (by rfl) (one_cons hs_v84 (one_cons hs_v86 (one_cons rfl (one_cons rfl (one_cons rfl (one_cons rfl (one_cons rfl (one_cons hs_v88 (rfl))))))))) (by rfl) (go ?_)
  refine SP.val (Val.makeFunc (us := []) (vs := [.pointer (some ⟨b4, 0, none⟩)]) rfl rfl) rfl rfl rfl (go ?_)
  obtain ⟨t103, hg_t103, ho⟩ := bind_some ho
  refine SP.jn 11 [1, 3, 17, 18, 19] 38 (.bool t103) ?_ ?_
  ·clear hg_t103
   refine go ?_
   refine CP.cb ho (fun ho => ?_) fun ho => ?_
   ·refine go ?_
    obtain rfl := fin ho hr
    exact QE.rt (fun _ h => h)
   refine go ?_
   obtain rfl := Option.some.inj ho
   exact QE.lower m80 (by omega) fun a w2 ha hw => ⟨(IntKind.i64.wrap (x79 + 1)), (by omega), hr, ha.sub sb, (St.selP [4, 5, 6, 7] rfl (St.selO [1] rfl rfl hw))⟩
  refine SP.cb 27 hg_t103 (fun hq93 ho => ?_) fun hq93 ho => ?_
  ·refine SP.val (Val.loadA 0 rfl Tryz.underlying34 rfl sz34 rfl rfl rfl) rfl rfl rfl ?_
   obtain ⟨t94, hc, ho⟩ := bind_some ho
   refine SP.callV see (caps := []) (.bool t94) fn39 rfl rfl rfl rfl (fun w2 hP hs sub ap => pure_stores.ok _ _ _ _ _ hc w2 hP sub (ap.get 0 rfl) (ap.get 1 rfl) (ap.get 2 rfl)) ?_
   clear hc
   refine go ?_
   obtain ⟨t102, hg_t102, ho⟩ := bind_some ho
   refine SP.jn 7 [1, 3, 17, 18, 19, 27, 28, 29, 30] 37 (.bool t102) ?_ ?_
   ·clear hg_t102
    refine go ?_
    obtain rfl := Option.some.inj ho
    exact QE.jn fun w2 hw => hw
   refine SP.cb 30 hg_t102 (fun hq96 ho => ?_) fun hq96 ho => ?_
   ·refine go ?_
    obtain rfl := Option.some.inj ho
    exact QE.jn (s := ⟨rfl, rfl, rfl, rfl, rfl, rfl, rfl, rfl, rfl, congrArg (fun z => some (Value.bool z)) hq96.symm, trivial⟩) fun w2 hw => hw
   refine go ?_
   obtain ⟨x98, hx_x98, ho⟩ := elt_bind ho
   refine SP.indexW (fun w2 hw => slO.whole (St.own 1 rfl see.sub see.dj hw)) Tryz.underlying71 sz48 hx_x98.1 hx_x98.2 rfl rfl rfl rfl (fun p97 h_p97 => ?_)
   refine SP.loadOS (j := x79) see 1 0 rfl hx_x98.2 h_p97 (fun _ _ ⟨v0_, e, p0_⟩ => ⟨v0_, by subst e; rfl, p0_⟩) Tryz.underlying48 rfl rfl rfl (fun v99 => go ?_)
   obtain ⟨t101, hc, ho⟩ := bind_some ho
   refine SP.callV see (caps := []) (.bool t101) fn40 rfl rfl rfl rfl (fun w2 hP hs sub ap => slices_ContainsFunc_int_int_s1.ok _ _ _ _ _ _ _ _ _ _ _ hc w2 hP sub (ap.get 0 rfl) (ap.get 6 rfl) (ap.get 7 rfl) (ap.get 8 rfl) (ap.get 5 rfl)) ?_
   clear hc
   refine go ?_
   obtain rfl := Option.some.inj ho
   exact QE.jn (s := ⟨rfl, rfl, rfl, rfl, rfl, rfl, rfl, rfl, rfl, congrArg (fun z => some (Value.bool z)) hq96.symm, trivial⟩) fun w2 hw => (St.selP [1, 2, 3, 4, 5, 6, 7, 8] rfl hw)
  refine go ?_
  obtain rfl := Option.some.inj ho
  exact QE.jn fun w2 hw => hw
 refine go ?_
 obtain rfl := fin ho hr
 exact QE.rt (fun _ h => h)
def verify_stands.j2 (m_0 : api_Module) (x25 : Int) (x26 : Int) : Option (Int × Int) :=
  some (x25, x26)
def verify_stands.f (m_0 : api_Module) : Option (Int × Int) :=
  (verify_checks.f ).bind fun t6 => (module_May.f m_0).bind fun t9 => if t9 ≠ 0 then (verify_stands.j2 m_0 0 t9) else ((verify_moves.f m_0).bind fun t12 => if t12 ≠ 0 then (verify_stands.j2 m_0 1 t12) else ((verify_kinds.f m_0).bind fun t15 => if t15 ≠ 0 then (verify_stands.j2 m_0 2 t15) else ((calls_Check.f m_0).bind fun t18 => if t18 ≠ 0 then (verify_stands.j2 m_0 3 t18) else ((cost_Check.f m_0).bind fun t21 => if t21 ≠ 0 then (verify_stands.j2 m_0 4 t21) else ((pure_Check.f m_0).bind fun t24 => if t24 ≠ 0 then (verify_stands.j2 m_0 5 t24) else (verify_stands.j2 m_0 (-1) t24))))))
theorem verify_stands.ok (m_0 : api_Module) (v_m_0_Globals v_m_0_Pool v_m_0_Methods : Value)  (r : Int × Int) (H : verify_stands.f m_0 = some r) (w : World) (hV : Hp) (sV : Sub hV (hp w)) (h0 : slR k_api_Value hV v_m_0_Globals m_0.Globals) (h1 : slR k_api_Value hV v_m_0_Pool m_0.Pool) (h2 : slR k_api_Method hV v_m_0_Methods m_0.Methods) (h3 : (arrP k_arr245 0 tab0).p hV) :
    Trip Tryz.prog 41 [.agg #[v_m_0_Globals, v_m_0_Pool, v_m_0_Methods, .int .i64 m_0.Migrate]].toArray em hV w (fun v => HO.pure (v = .tuple #[.int .i64 r.1, .int .i64 r.2])) := by
 refine Trip.go 23 Tryz.func41 sV (aS h0 (aS h1 (aS h2 (All.cons (x := arrP k_arr245 0 tab0) h3 (All.nil _))))) fun see => ?_
 have ho := H
 refine go ?_
 refine SP.box rfl rfl rfl rfl fun b4 => go ?_
 refine CP.scope 0 (fun _ _ => False) rfl (fun _ _ _ h => h) (fun _ _ h => h.elim) (go ?_)
 refine CP.seq ?_
 refine CP.label (go ?_)
 refine CP.join (fun a w2 => ∃ x25 : Int, ∃ x26 : Int, verify_stands.j2 m_0 x25 x26 = some r ∧ Env ⟨23, []⟩ [(4, .int .i64 x25), (5, .int .i64 x26)] a ∧ St w em hV [arrP k_arr245 0 tab0] [] w2) ?_ ?_
 ·rintro a w2 ⟨x25, x26, ho, ha, hw⟩
  refine CP.app ha hw ?_
  clear ha hw a w2
  refine go ?_
  refine QE.scopeX rfl ?_
  obtain rfl := Option.some.inj ho
  exact QE.rt (fun _ h => h)
 refine go ?_
 obtain ⟨t6, hc, ho⟩ := bind_some (x := verify_checks.f ) ho
 refine SP.callV see (caps := []) (.agg #[.func (.func 10) #[] #[], .func (.func 142) #[] #[], .func (.func 143) #[] #[], .func (.func 14) #[] #[], .func (.func 15) #[] #[], .func (.func 16) #[] #[]]) fn88 rfl rfl rfl rfl (fun w2 hP hs sub ap => verify_checks.ok   _ hc w2 hP sub ) ?_
 clear hc
 refine go ?_
 refine CP.rounds 8 ?_
 refine LP.step ?_
 refine CP.seq ?_
 refine CP.region ?_
 refine SP.val (Val.cast (v := .bool true) (Val.lss rfl rfl) rfl) rfl rfl rfl (go ?_)
 refine CP.seq ?_
 refine CP.condT rfl rfl (go ?_)
 refine CP.seq (go ?_)
 refine SP.val (Val.indexCA (c := [.func (.func 10) #[] #[]]) 0 Tryz.underlying133 Tryz.underlying132 rfl sz132 rfl rfl rfl rfl) rfl rfl rfl ?_
 refine SP.alloc (cs := [.nilFunc]) inf132 rfl rfl (fun b7 => go ?_)
 refine SP.store (v := .agg #[.func (.func 10) #[] #[]]) (vs := [.func (.func 10) #[] #[]]) 0 (by rfl) sz132 (by rfl) (by rfl) (by rfl) (by rfl) (by rfl) (by rfl) (go ?_)
 refine SP.val (Val.loadA 1 rfl Tryz.underlying25 rfl sz25 rfl rfl rfl) rfl rfl rfl ?_
 obtain ⟨t9, hc, ho⟩ := bind_some ho
 refine SP.callV see (caps := []) (.int .i64 t9) fn10 rfl rfl rfl rfl (fun w2 hP hs sub ap => module_May.ok _ _ _ _ _ hc w2 hP sub (ap.get 0 rfl) (ap.get 1 rfl) (ap.get 2 rfl) (ap.get 3 rfl)) ?_
 clear hc
 refine go ?_
 refine CP.ci ho (fun ho => ?_) fun ho => ?_
 ·refine go ?_
  exact QE.meet fun a w2 ha hw => ⟨0, t9, ho, ha.sub sb, (St.selP [3] rfl (St.selO [] rfl rfl hw))⟩
 refine CP.skip ?_
 refine QE.blockN ?_
 refine QE.then ?_
 refine CP.region ?_
 refine SP.val (Val.cast (v := .int .i64 1) (Val.add rfl rfl) rfl) rfl rfl rfl (go ?_)
 refine QE.round ?_
 refine LP.step ?_
 refine CP.seq ?_
 refine CP.region ?_
 refine SP.val (Val.cast (v := .bool true) (Val.lss rfl rfl) rfl) rfl rfl rfl (go ?_)
 refine CP.seq ?_
 refine CP.condT rfl rfl (go ?_)
 refine CP.seq (go ?_)
 refine SP.val (Val.indexCA (c := [.func (.func 142) #[] #[]]) 1 Tryz.underlying133 Tryz.underlying132 rfl sz132 rfl rfl rfl rfl) rfl rfl rfl ?_
 refine SP.alloc (cs := [.nilFunc]) inf132 rfl rfl (fun b10 => go ?_)
 refine SP.store (v := .agg #[.func (.func 142) #[] #[]]) (vs := [.func (.func 142) #[] #[]]) 0 (by rfl) sz132 (by rfl) (by rfl) (by rfl) (by rfl) (by rfl) (by rfl) (go ?_)
 refine SP.val (Val.loadA 2 rfl Tryz.underlying25 rfl sz25 rfl rfl rfl) rfl rfl rfl ?_
 obtain ⟨t12, hc, ho⟩ := bind_some ho
 refine SP.callV see (caps := []) (.int .i64 t12) fn142 rfl rfl rfl rfl (fun w2 hP hs sub ap => verify_moves.ok _ _ _ _ _ hc w2 hP sub (ap.get 0 rfl) (ap.get 1 rfl) (ap.get 2 rfl)) ?_
 clear hc
 refine go ?_
 refine CP.ci ho (fun ho => ?_) fun ho => ?_
 ·refine go ?_
  exact QE.meet fun a w2 ha hw => ⟨1, t12, ho, ha.sub sb, (St.selP [3] rfl (St.selO [] rfl rfl hw))⟩
 refine CP.skip ?_
 refine QE.blockN ?_
 refine QE.then ?_
 refine CP.region ?_
 refine SP.val (Val.cast (v := .int .i64 2) (Val.add rfl rfl) rfl) rfl rfl rfl (go ?_)
 refine QE.round ?_
 refine LP.step ?_
 refine CP.seq ?_
 refine CP.region ?_
 refine SP.val (Val.cast (v := .bool true) (Val.lss rfl rfl) rfl) rfl rfl rfl (go ?_)
 refine CP.seq ?_
 refine CP.condT rfl rfl (go ?_)
 refine CP.seq (go ?_)
 refine SP.val (Val.indexCA (c := [.func (.func 143) #[] #[]]) 2 Tryz.underlying133 Tryz.underlying132 rfl sz132 rfl rfl rfl rfl) rfl rfl rfl ?_
 refine SP.alloc (cs := [.nilFunc]) inf132 rfl rfl (fun b13 => go ?_)
 refine SP.store (v := .agg #[.func (.func 143) #[] #[]]) (vs := [.func (.func 143) #[] #[]]) 0 (by rfl) sz132 (by rfl) (by rfl) (by rfl) (by rfl) (by rfl) (by rfl) (go ?_)
 refine SP.val (Val.loadA 3 rfl Tryz.underlying25 rfl sz25 rfl rfl rfl) rfl rfl rfl ?_
 obtain ⟨t15, hc, ho⟩ := bind_some ho
 refine SP.callV see (caps := []) (.int .i64 t15) fn143 rfl rfl rfl rfl (fun w2 hP hs sub ap => verify_kinds.ok _ _ _ _ _ hc w2 hP sub (ap.get 0 rfl) (ap.get 1 rfl) (ap.get 2 rfl) (ap.get 3 rfl)) ?_
 clear hc
 refine go ?_
 refine CP.ci ho (fun ho => ?_) fun ho => ?_
 ·refine go ?_
  exact QE.meet fun a w2 ha hw => ⟨2, t15, ho, ha.sub sb, (St.selP [3] rfl (St.selO [] rfl rfl hw))⟩
 refine CP.skip ?_
 refine QE.blockN ?_
 refine QE.then ?_
 refine CP.region ?_
 refine SP.val (Val.cast (v := .int .i64 3) (Val.add rfl rfl) rfl) rfl rfl rfl (go ?_)
 refine QE.round ?_
 refine LP.step ?_
 refine CP.seq ?_
 refine CP.region ?_
 refine SP.val (Val.cast (v := .bool true) (Val.lss rfl rfl) rfl) rfl rfl rfl (go ?_)
 refine CP.seq ?_
 refine CP.condT rfl rfl (go ?_)
 refine CP.seq (go ?_)
 refine SP.val (Val.indexCA (c := [.func (.func 14) #[] #[]]) 3 Tryz.underlying133 Tryz.underlying132 rfl sz132 rfl rfl rfl rfl) rfl rfl rfl ?_
 refine SP.alloc (cs := [.nilFunc]) inf132 rfl rfl (fun b16 => go ?_)
 refine SP.store (v := .agg #[.func (.func 14) #[] #[]]) (vs := [.func (.func 14) #[] #[]]) 0 (by rfl) sz132 (by rfl) (by rfl) (by rfl) (by rfl) (by rfl) (by rfl) (go ?_)
 refine SP.val (Val.loadA 4 rfl Tryz.underlying25 rfl sz25 rfl rfl rfl) rfl rfl rfl ?_
 obtain ⟨t18, hc, ho⟩ := bind_some ho
 refine SP.callV see (caps := []) (.int .i64 t18) fn14 rfl rfl rfl rfl (fun w2 hP hs sub ap => calls_Check.ok _ _ _ _ _ hc w2 hP sub (ap.get 0 rfl) (ap.get 1 rfl) (ap.get 2 rfl)) ?_
 clear hc
 refine go ?_
 refine CP.ci ho (fun ho => ?_) fun ho => ?_
 ·refine go ?_
  exact QE.meet fun a w2 ha hw => ⟨3, t18, ho, ha.sub sb, (St.selP [3] rfl (St.selO [] rfl rfl hw))⟩
 refine CP.skip ?_
 refine QE.blockN ?_
 refine QE.then ?_
 refine CP.region ?_
 refine SP.val (Val.cast (v := .int .i64 4) (Val.add rfl rfl) rfl) rfl rfl rfl (go ?_)
 refine QE.round ?_
 refine LP.step ?_
 refine CP.seq ?_
 refine CP.region ?_
 refine SP.val (Val.cast (v := .bool true) (Val.lss rfl rfl) rfl) rfl rfl rfl (go ?_)
 refine CP.seq ?_
 refine CP.condT rfl rfl (go ?_)
 refine CP.seq (go ?_)
 refine SP.val (Val.indexCA (c := [.func (.func 15) #[] #[]]) 4 Tryz.underlying133 Tryz.underlying132 rfl sz132 rfl rfl rfl rfl) rfl rfl rfl ?_
 refine SP.alloc (cs := [.nilFunc]) inf132 rfl rfl (fun b19 => go ?_)
 refine SP.store (v := .agg #[.func (.func 15) #[] #[]]) (vs := [.func (.func 15) #[] #[]]) 0 (by rfl) sz132 (by rfl) (by rfl) (by rfl) (by rfl) (by rfl) (by rfl) (go ?_)
 refine SP.val (Val.loadA 5 rfl Tryz.underlying25 rfl sz25 rfl rfl rfl) rfl rfl rfl ?_
 obtain ⟨t21, hc, ho⟩ := bind_some ho
 refine SP.callV see (caps := []) (.int .i64 t21) fn15 rfl rfl rfl rfl (fun w2 hP hs sub ap => cost_Check.ok _ _ _ _ _ hc w2 hP sub (ap.get 0 rfl) (ap.get 1 rfl) (ap.get 2 rfl) (ap.get 3 rfl)) ?_
 clear hc
 refine go ?_
 refine CP.ci ho (fun ho => ?_) fun ho => ?_
 ·refine go ?_
  exact QE.meet fun a w2 ha hw => ⟨4, t21, ho, ha.sub sb, (St.selP [3] rfl (St.selO [] rfl rfl hw))⟩
 refine CP.skip ?_
 refine QE.blockN ?_
 refine QE.then ?_
 refine CP.region ?_
 refine SP.val (Val.cast (v := .int .i64 5) (Val.add rfl rfl) rfl) rfl rfl rfl (go ?_)
 refine QE.round ?_
 refine LP.step ?_
 refine CP.seq ?_
 refine CP.region ?_
 refine SP.val (Val.cast (v := .bool true) (Val.lss rfl rfl) rfl) rfl rfl rfl (go ?_)
 refine CP.seq ?_
 refine CP.condT rfl rfl (go ?_)
 refine CP.seq (go ?_)
 refine SP.val (Val.indexCA (c := [.func (.func 16) #[] #[]]) 5 Tryz.underlying133 Tryz.underlying132 rfl sz132 rfl rfl rfl rfl) rfl rfl rfl ?_
 refine SP.alloc (cs := [.nilFunc]) inf132 rfl rfl (fun b22 => go ?_)
 refine SP.store (v := .agg #[.func (.func 16) #[] #[]]) (vs := [.func (.func 16) #[] #[]]) 0 (by rfl) sz132 (by rfl) (by rfl) (by rfl) (by rfl) (by rfl) (by rfl) (go ?_)
 refine SP.val (Val.loadA 6 rfl Tryz.underlying25 rfl sz25 rfl rfl rfl) rfl rfl rfl ?_
 obtain ⟨t24, hc, ho⟩ := bind_some ho
 refine SP.callV see (caps := []) (.int .i64 t24) fn16 rfl rfl rfl rfl (fun w2 hP hs sub ap => pure_Check.ok _ _ _ _ _ hc w2 hP sub (ap.get 0 rfl) (ap.get 1 rfl) (ap.get 2 rfl)) ?_
 clear hc
 refine go ?_
 refine CP.ci ho (fun ho => ?_) fun ho => ?_
 ·refine go ?_
  exact QE.meet fun a w2 ha hw => ⟨5, t24, ho, ha.sub sb, (St.selP [3] rfl (St.selO [] rfl rfl hw))⟩
 refine CP.skip ?_
 refine QE.blockN ?_
 refine QE.then ?_
 refine CP.region ?_
 refine SP.val (Val.cast (v := .int .i64 6) (Val.add rfl rfl) rfl) rfl rfl rfl (go ?_)
 refine QE.round ?_
 refine LP.step ?_
 refine CP.seq ?_
 refine CP.region ?_
 refine SP.val (Val.cast (v := .bool false) (Val.lss rfl rfl) rfl) rfl rfl rfl (go ?_)
 refine CP.seq ?_
 refine CP.condF rfl rfl (go ?_)
 exact QE.meet fun a w2 ha hw => ⟨(-1), t24, ho, ha.sub sb, (St.selP [3] rfl (St.selO [] rfl rfl hw))⟩
def verify_May.f (m_0 : api_Module) : Option Int :=
  (verify_stands.f m_0).bind fun t6 => some t6.2
theorem verify_May.ok (m_0 : api_Module) (v_m_0_Globals v_m_0_Pool v_m_0_Methods : Value)  (r : Int) (H : verify_May.f m_0 = some r) (w : World) (hV : Hp) (sV : Sub hV (hp w)) (h0 : slR k_api_Value hV v_m_0_Globals m_0.Globals) (h1 : slR k_api_Value hV v_m_0_Pool m_0.Pool) (h2 : slR k_api_Method hV v_m_0_Methods m_0.Methods) (h3 : (arrP k_arr245 0 tab0).p hV) :
    Trip Tryz.prog 19 [.agg #[v_m_0_Globals, v_m_0_Pool, v_m_0_Methods, .int .i64 m_0.Migrate]].toArray em hV w (fun v => HO.pure (v = .int .i64 r)) := by
 refine Trip.go 11 Tryz.func19 sV (aS h0 (aS h1 (aS h2 (All.cons (x := arrP k_arr245 0 tab0) h3 (All.nil _))))) fun see => ?_
 have ho := H
 refine go ?_
 refine SP.box rfl rfl rfl rfl fun b4 => go ?_
 refine SP.val (Val.loadA 0 rfl Tryz.underlying25 rfl sz25 rfl rfl rfl) rfl rfl rfl ?_
 obtain ⟨t6, hc, ho⟩ := bind_some ho
 refine SP.callV see (caps := []) (.tuple #[.int .i64 t6.1, .int .i64 t6.2]) fn41 rfl rfl rfl rfl (fun w2 hP hs sub ap => verify_stands.ok _ _ _ _ _ hc w2 hP sub (ap.get 0 rfl) (ap.get 1 rfl) (ap.get 2 rfl) (ap.get 3 rfl)) ?_
 clear hc
 refine go ?_
 obtain rfl := Option.some.inj ho
 exact QE.rt (fun _ h => h)
def verify_Accept.f (m_0 : api_Module) : Option ((List api_Cert) × Int) :=
  (verify_May.f m_0).bind fun t6 => if t6 ≠ 0 then (some ([], t6)) else ((cost_Costs.f m_0).bind fun t8 => some (t8.1, t8.2))
theorem verify_Accept.ok (m_0 : api_Module) (v_m_0_Globals v_m_0_Pool v_m_0_Methods : Value)  (r : (List api_Cert) × Int) (H : verify_Accept.f m_0 = some r) (w : World) (hV : Hp) (sV : Sub hV (hp w)) (h0 : slR k_api_Value hV v_m_0_Globals m_0.Globals) (h1 : slR k_api_Value hV v_m_0_Pool m_0.Pool) (h2 : slR k_api_Method hV v_m_0_Methods m_0.Methods) (h3 : (arrP k_arr245 0 tab0).p hV) :
    Trip Tryz.prog 17 [.agg #[v_m_0_Globals, v_m_0_Pool, v_m_0_Methods, .int .i64 m_0.Migrate]].toArray em hV w (fun v => HO.ex fun u0 : Value => HO.pand (v = .tuple #[u0, .int .i64 r.2]) (HO.seps [slO k_api_Cert 45 u0 r.1])) := by
 refine Trip.go 14 Tryz.func17 sV (aS h0 (aS h1 (aS h2 (All.cons (x := arrP k_arr245 0 tab0) h3 (All.nil _))))) fun see => ?_
 have ho := H
 refine go ?_
 refine SP.box rfl rfl rfl rfl fun b4 => go ?_
 refine CP.seq (go ?_)
 refine SP.val (Val.loadA 0 rfl Tryz.underlying25 rfl sz25 rfl rfl rfl) rfl rfl rfl ?_
 obtain ⟨t6, hc, ho⟩ := bind_some ho
 refine SP.callV see (caps := []) (.int .i64 t6) fn19 rfl rfl rfl rfl (fun w2 hP hs sub ap => verify_May.ok _ _ _ _ _ hc w2 hP sub (ap.get 0 rfl) (ap.get 1 rfl) (ap.get 2 rfl) (ap.get 3 rfl)) ?_
 clear hc
 refine go ?_
 refine CP.ci ho (fun ho => ?_) fun ho => ?_
 ·refine go ?_
  obtain rfl := Option.some.inj ho
  exact QE.rt (fun _ h => St.selO [0] rfl rfl (St.addO (slO.nil k_api_Cert 45) h))
 refine go ?_
 refine SP.val (Val.loadA 0 rfl Tryz.underlying25 rfl sz25 rfl rfl rfl) rfl rfl rfl ?_
 obtain ⟨t8, hc, ho⟩ := bind_some ho
 refine SP.callK see (caps := []) _ fn20 rfl rfl rfl rfl (fun w2 hP hs sub ap => cost_Costs.ok _ _ _ _ _ hc w2 hP sub (ap.get 0 rfl) (ap.get 1 rfl) (ap.get 2 rfl) (ap.get 3 rfl)) (SP.k1 fun v9 => ?_)
 clear hc
 refine go ?_
 obtain rfl := Option.some.inj ho
 exact QE.rt (fun _ h => St.selO [0] rfl rfl h)
def octet_cut.f (b_0 : (List Int)) (a1 : Int) (many_2 : Int) : Option ((List Int) × Int) :=
  if ((decide (a1 < 0)) || (decide (a1 > (b_0.length : Int)))) = true then (some ([], 2)) else (if (IntKind.i64.wrap ((b_0.length : Int) - a1)) < many_2 then (some ([], 10)) else (if ((0 : Int) ≤ a1 ∧ a1 ≤ (IntKind.i64.wrap (a1 + many_2))) ∧ (IntKind.i64.wrap (a1 + many_2)) ≤ (b_0.length : Int) then (some (((b_0.take (IntKind.i64.wrap (a1 + many_2) : Int).toNat).drop (a1 : Int).toNat), 0)) else none))
theorem octet_cut.ok (b_0 : (List Int)) (a1 many_2 : Int) (v_b_0 : Value) (r : (List Int) × Int) (H : octet_cut.f b_0 a1 many_2 = some r) (w : World) (hV : Hp) (sV : Sub hV (hp w)) (h0 : slR (kInt .u8) hV v_b_0 b_0) :
    Trip Tryz.prog 173 [v_b_0, .int .i64 a1, .int .i64 many_2].toArray em hV w (fun v => HO.ex fun u0 : Value => HO.pand (v = .tuple #[u0, .int .i64 r.2]) (HO.seps [HO.ofP (slP (kInt .u8) u0 r.1)])) := by
 refine Trip.go 30 Tryz.func173 sV (aS h0 (All.nil _)) fun see => ?_
 have ho := H
 refine go ?_
 refine CP.seq (go ?_)
 refine SP.jn 5 [0, 1, 2] 16 (.bool ((decide (a1 < 0)) || (decide (a1 > (b_0.length : Int))))) ?_ ?_
 ·refine go ?_
  refine CP.cb ho (fun ho => ?_) fun ho => ?_
  ·refine go ?_
   obtain rfl := Option.some.inj ho
   exact QE.rt (fun _ h => St.selO [] rfl rfl (St.know (fun h _ => slP.nil (kInt .u8) h) h)) (hk := fun a b p s => ⟨_, rfl, ⟨em, em, Dj.em_left _, Sub.em _, Sub.em _, p.get 0 rfl, trivial⟩⟩)
  refine go ?_
  refine CP.ci ho (fun ho => ?_) fun ho => ?_
  ·refine go ?_
   obtain rfl := Option.some.inj ho
   exact QE.rt (fun _ h => St.selO [] rfl rfl (St.know (fun h _ => slP.nil (kInt .u8) h) h)) (hk := fun a b p s => ⟨_, rfl, ⟨em, em, Dj.em_left _, Sub.em _, Sub.em _, p.get 0 rfl, trivial⟩⟩)
  refine go ?_
  obtain ⟨hz, ho⟩ := must_some ho
  refine SP.slice2P see 0 rfl Tryz.underlying31 sz5 rfl rfl rfl hz rfl rfl (fun v6 => ?_)
  clear hz
  refine go ?_
  obtain rfl := Option.some.inj ho
  exact QE.rt (fun _ h => St.selO [] rfl rfl h) (hk := fun a b p s => ⟨_, rfl, ⟨em, em, Dj.em_left _, Sub.em _, Sub.em _, p.get 0 rfl, trivial⟩⟩)
 refine SP.bb 11 (fun hq3 => ?_) fun hq3 => ?_
 ·refine go ?_
  exact QE.jb (or_t hq3) fun w2 hw => hw
 refine go ?_
 exact QE.jb (or_f hq3 rfl) fun w2 hw => hw
inductive octet_gather_uint64.S where
  | start
  | l1 (x6 : Int) (x7 : Int)
def octet_gather_uint64.F (b_0 : (List Int)) : octet_gather_uint64.S → Option (octet_gather_uint64.S ⊕ Int)
  | .start => some (.inl (.l1 0 0))
  | .l1 x6 x7 => if x7 < (b_0.length : Int) then ((elt b_0 x7).bind fun x11 => if 0 ≤ (IntKind.i64.wrap (8 * x7)) then (some (.inl (.l1 (orI .u64 x6 (shlI .u64 (IntKind.u64.wrap x11) (IntKind.i64.wrap (8 * x7)))) (IntKind.i64.wrap (x7 + 1))))) else none) else (some (.inr x6))
def octet_gather_uint64.f (b_0 : (List Int)) : Option Int := runF (octet_gather_uint64.F b_0) .start
theorem octet_gather_uint64.ok (b_0 : (List Int)) (v_b_0 : Value) (r : Int) (H : octet_gather_uint64.f b_0 = some r) (w : World) (hV : Hp) (sV : Sub hV (hp w)) (h0 : slR (kInt .u8) hV v_b_0 b_0) :
    Trip Tryz.prog 174 [v_b_0].toArray em hV w (fun v => HO.pure (v = .int .u64 r)) := by
 refine Trip.go 22 Tryz.func174 sV (aS h0 (All.nil _)) fun see => ?_
 obtain ⟨n0, hi⟩ := runF_iff.1 H
 obtain ⟨m0, o, hm0, ho, hr⟩ := iter_some hi
 clear hi
 refine go ?_
 refine CP.seq (go ?_)
 obtain rfl := Option.some.inj ho
 refine CP.loop (fun cl1 a w2 => ∃ x6 : Int, ∃ x7 : Int, cl1 ≤ m0 ∧ iter (octet_gather_uint64.F b_0) cl1 (.l1 x6 x7) = some r ∧ Env ⟨22, []⟩ [(3, .int .u64 x6), (6, v_b_0), (7, .int .i64 (b_0.length : Int)), (8, .int .i64 x7)] a ∧ St w em hV [slP (kInt .u8) v_b_0 b_0] [] w2) m0 (fun a w2 ha hw => ⟨0, 0, Nat.le_refl _, hr, ha.sub sb, hw⟩) ?_
 clear hr
 rintro cl1 a w2 ⟨x6, x7, hc_l1, hi, ha, hw⟩
 obtain ⟨m8, o, hm_m8, ho, hr⟩ := iter_some hi
 refine CP.app ha hw ?_
 clear ha hw a w2 hi
 refine go ?_
 refine CP.seq ?_
 refine CP.ci ho (fun ho => ?_) fun ho => ?_
 ·refine go ?_
  refine CP.seq (go ?_)
  obtain ⟨x11, hx, ho⟩ := elt_bind ho
  refine SP.indexP see 0 rfl Tryz.underlying31 sz5 hx.1 hx.2 rfl rfl rfl rfl (fun p9 => ?_)
  clear hx
  refine SP.val (Val.loadP1 see 0 rfl (fun _ _ e => e) Tryz.underlying5 rfl rfl) rfl rfl rfl (go ?_)
  refine SP.val (Val.conv (by rw [Tryz.underlying5]; rfl) Tryz.underlying210 rfl) rfl rfl rfl (go ?_)
  obtain ⟨hz, ho⟩ := must_some ho
  refine SP.val (Val.shl hz rfl rfl) rfl rfl rfl ?_
  clear hz
  refine SP.val (Val.or rfl rfl) rfl rfl rfl (go ?_)
  obtain rfl := Option.some.inj ho
  exact QE.lower m8 (by omega) fun a w2 ha hw => ⟨(orI .u64 x6 (shlI .u64 (IntKind.u64.wrap x11) (IntKind.i64.wrap (8 * x7)))), (IntKind.i64.wrap (x7 + 1)), (by omega), hr, ha.sub sb, (St.selP [1] rfl hw)⟩
 refine go ?_
 obtain rfl := fin ho hr
 exact QE.rt (fun _ h => h)
def octet_Get.j1 (b_0 : (List Int)) (a1 : Int) (width_2 : Int) (t13 : Int) (x14 : Int) : Option (Int × Int × Int) :=
  if x14 ≠ 0 then (some (0, 0, x14)) else (some (IntKind.i64.wrap t13, IntKind.i64.wrap (a1 + width_2), x14))
def octet_Get.f (b_0 : (List Int)) (a1 : Int) (width_2 : Int) : Option (Int × Int × Int) :=
  if ((decide (width_2 < 1)) || (decide (width_2 > 8))) = true then (some (0, 0, 2)) else ((octet_cut.f b_0 a1 width_2).bind fun t10 => (octet_gather_uint64.f t10.1).bind fun t13 => if t13 > 9223372036854775807 then (octet_Get.j1 b_0 a1 width_2 t13 11) else (octet_Get.j1 b_0 a1 width_2 t13 t10.2))
theorem octet_Get.ok (b_0 : (List Int)) (a1 width_2 : Int) (v_b_0 : Value) (r : Int × Int × Int) (H : octet_Get.f b_0 a1 width_2 = some r) (w : World) (hV : Hp) (sV : Sub hV (hp w)) (h0 : slR (kInt .u8) hV v_b_0 b_0) :
    Trip Tryz.prog 111 [v_b_0, .int .i64 a1, .int .i64 width_2].toArray em hV w (fun v => HO.pure (v = .tuple #[.int .i64 r.1, .int .i64 r.2.1, .int .i64 r.2.2])) := by
 have see : Sees w em hV := ⟨sV, Dj.em_right _⟩
 refine Trip.ofD (P := Tryz.prog) (n := ⟨37, []⟩) Tryz.func111 rfl ⟨rfl, rfl⟩ rfl (St.begin (aS h0 (All.nil _))) ?_
 have ho := H
 refine go ?_
 refine SP.alloc (cs := [.int .i64 0]) inf3 rfl rfl (fun b2 => ?_)
 refine SP.alloc (cs := [.int .i64 0]) inf3 rfl rfl (fun b4 => ?_)
 refine SP.alloc (cs := [.int .i64 0]) inf28 rfl rfl (fun b6 => go ?_)
 refine CP.seq (go ?_)
 refine SP.jn 3 [0, 1, 2, 6, 7, 8] 16 (.bool ((decide (width_2 < 1)) || (decide (width_2 > 8)))) ?_ ?_
 ·refine go ?_
  refine CP.cb ho (fun ho => ?_) fun ho => ?_
  ·refine go ?_
   refine SP.store (v := .int .i64 0) (vs := [.int .i64 0]) 2 (by rfl) sz3 (by rfl) (by rfl) (by rfl) (by rfl) (by rfl) (by rfl) ?_
   refine SP.store (v := .int .i64 0) (vs := [.int .i64 0]) 1 (by rfl) sz3 (by rfl) (by rfl) (by rfl) (by rfl) (by rfl) (by rfl) ?_
   refine SP.store (v := .int .i64 2) (vs := [.int .i64 2]) 0 (by rfl) sz28 (by rfl) (by rfl) (by rfl) (by rfl) (by rfl) (by rfl) (go ?_)
   obtain rfl := Option.some.inj ho
   exact QE.noDoor (rs := [.cell 6 3, .cell 7 3, .cell 8 28]) (vs := [.int .i64 0, .int .i64 0, .int .i64 2]) Tryz.results111 rfl ⟨RVs.cell1 2 rfl rfl Tryz.underlying3 rfl, RVs.cell1 1 rfl rfl Tryz.underlying3 rfl, RVs.cell1 0 rfl rfl Tryz.underlying28 rfl, trivial⟩ (fun w2 h => St.done (fun a b p s => rfl) h)
  refine go ?_
  refine SP.val (Val.makeFunc (us := []) (vs := [.pointer (some ⟨b6, 0, none⟩), .pointer (some ⟨b2, 0, none⟩), .pointer (some ⟨b4, 0, none⟩)]) rfl rfl) rfl rfl rfl ?_
  refine SP.defer rfl rfl rfl rfl (go ?_)
  obtain ⟨t10, hc, ho⟩ := bind_some ho
  refine SP.callK see (caps := []) _ fn173 rfl rfl rfl rfl (fun w2 hP hs sub ap => octet_cut.ok _ _ _ _ _ hc w2 hP sub (ap.get 0 rfl)) (SP.k1 fun v11 => ?_)
  refine SP.imp (fun w2 h => St.toP 0 rfl h) ?_
  clear hc
  refine go ?_
  refine SP.store (v := .int .i64 t10.2) (vs := [.int .i64 t10.2]) 0 (by rfl) sz28 (by rfl) (by rfl) (by rfl) (by rfl) (by rfl) (by rfl) (go ?_)
  obtain ⟨t13, hc, ho⟩ := bind_some ho
  refine SP.callV see (caps := []) (.int .u64 t13) fn174 rfl rfl rfl rfl (fun w2 hP hs sub ap => octet_gather_uint64.ok _ _ _ hc w2 hP sub (ap.get 0 rfl)) ?_
  clear hc
  refine go ?_
  refine CP.join (fun a w2 => ∃ x14 : Int, octet_Get.j1 b_0 a1 width_2 t13 x14 = some r ∧ Env ⟨37, [dfr 172 [.pointer (some ⟨b6, 0, none⟩), .pointer (some ⟨b2, 0, none⟩), .pointer (some ⟨b4, 0, none⟩)] []]⟩ [(6, .pointer (some ⟨b2, 0, none⟩)), (7, .pointer (some ⟨b4, 0, none⟩)), (8, .pointer (some ⟨b6, 0, none⟩))] a ∧ St w em hV [] [boxO b6 [.int .i64 x14] 28, boxO b4 [.int .i64 (IntKind.i64.wrap (a1 + width_2))] 3, boxO b2 [.int .i64 (IntKind.i64.wrap t13)] 3] w2) ?_ ?_
  ·rintro a w2 ⟨x14, ho, ha, hw⟩
   refine CP.app ha hw ?_
   clear ha hw a w2
   refine CP.seq ?_
   refine CP.drawA (by kernel_rfl) (fun w2 k h => h.drawn k) ?_
   refine DA.ph 0 5 ?_
   refine DT.tk 0 ?_
   refine DT.tk 1 ?_
   refine DT.tk 2 ?_
   refine DT.one 3 rfl (by kernel_rfl) rfl ?_
   refine SP.store (v := .int .i64 (IntKind.i64.wrap t13)) (vs := [.int .i64 (IntKind.i64.wrap t13)]) 2 (by rfl) sz3 (by rfl) (by rfl) (by rfl) (by rfl) (by rfl) (by rfl) (go ?_)
   refine QE.atT (fun w2 hw => hw) ?_
   refine DT.one 4 rfl (by kernel_rfl) rfl ?_
   refine SP.store (v := .int .i64 (IntKind.i64.wrap (a1 + width_2))) (vs := [.int .i64 (IntKind.i64.wrap (a1 + width_2))]) 1 (by rfl) sz3 (by rfl) (by rfl) (by rfl) (by rfl) (by rfl) (by rfl) (go ?_)
   refine QE.atT (fun w2 hw => hw) ?_
   refine DT.next (by kernel_rfl) ?_
   refine DA.one 5 rfl (by kernel_rfl) ?_
   refine SP.store (v := .int .i64 x14) (vs := [.int .i64 x14]) 0 (by rfl) sz28 (by rfl) (by rfl) (by rfl) (by rfl) (by rfl) (by rfl) (go ?_)
   refine QE.atA ?_
   refine DA.done (by kernel_rfl) (go ?_)
   refine QE.door (vals := []) (caps := [.pointer (some ⟨b6, 0, none⟩), .pointer (some ⟨b2, 0, none⟩), .pointer (some ⟨b4, 0, none⟩)]) 5 Tryz.func172 fn172 rfl rfl rfl fun a15 ha_a15 => go ?_
   refine CP.ci ho (fun ho => ?_) fun ho => ?_
   ·refine go ?_
    refine SP.store (v := .int .i64 0) (vs := [.int .i64 0]) 2 (by rfl) sz3 (by rfl) (by rfl) (by rfl) (by rfl) (by rfl) (by rfl) ?_
    refine SP.store (v := .int .i64 0) (vs := [.int .i64 0]) 1 (by rfl) sz3 (by rfl) (by rfl) (by rfl) (by rfl) (by rfl) (by rfl) (go ?_)
    obtain rfl := Option.some.inj ho
    exact QE.doorEnd (.inr rfl) ha_a15 Tryz.results172 (rs := [.cell 6 3, .cell 7 3, .cell 8 28]) (vs := [.int .i64 0, .int .i64 0, .int .i64 x14]) Tryz.results111 ⟨RVs.cell1 2 rfl rfl Tryz.underlying3 rfl, RVs.cell1 1 rfl rfl Tryz.underlying3 rfl, RVs.cell1 0 rfl rfl Tryz.underlying28 rfl, trivial⟩ (fun w2 h => St.done (fun a b p s => rfl) h)
   refine go ?_
   obtain rfl := Option.some.inj ho
   exact QE.doorEnd (.inr rfl) ha_a15 Tryz.results172 (rs := [.cell 6 3, .cell 7 3, .cell 8 28]) (vs := [.int .i64 (IntKind.i64.wrap t13), .int .i64 (IntKind.i64.wrap (a1 + width_2)), .int .i64 x14]) Tryz.results111 ⟨RVs.cell1 2 rfl rfl Tryz.underlying3 rfl, RVs.cell1 1 rfl rfl Tryz.underlying3 rfl, RVs.cell1 0 rfl rfl Tryz.underlying28 rfl, trivial⟩ (fun w2 h => St.done (fun a b p s => rfl) h)
  refine go ?_
  refine SP.val (Val.conv (by rw [Tryz.underlying210]; rfl) Tryz.underlying3 rfl) rfl rfl rfl (go ?_)
  refine SP.store (v := .int .i64 (IntKind.i64.wrap t13)) (vs := [.int .i64 (IntKind.i64.wrap t13)]) 2 (by rfl) sz3 (by rfl) (by rfl) (by rfl) (by rfl) (by rfl) (by rfl) ?_
  refine SP.store (v := .int .i64 (IntKind.i64.wrap (a1 + width_2))) (vs := [.int .i64 (IntKind.i64.wrap (a1 + width_2))]) 1 (by rfl) sz3 (by rfl) (by rfl) (by rfl) (by rfl) (by rfl) (by rfl) (go ?_)
  refine CP.ci ho (fun ho => ?_) fun ho => ?_
  ·refine go ?_
   refine SP.store (v := .int .i64 11) (vs := [.int .i64 11]) 0 (by rfl) sz28 (by rfl) (by rfl) (by rfl) (by rfl) (by rfl) (by rfl) (go ?_)
   exact QE.meet fun a w2 ha hw => ⟨11, ho, ha.sub sb, (St.selP [] rfl hw)⟩
  refine go ?_
  exact QE.meet fun a w2 ha hw => ⟨t10.2, ho, ha.sub sb, (St.selP [] rfl hw)⟩
 refine SP.bb 13 (fun hq9 => ?_) fun hq9 => ?_
 ·refine go ?_
  exact QE.jb (or_t hq9) fun w2 hw => hw
 refine go ?_
 exact QE.jb (or_f hq9 rfl) fun w2 hw => hw
def value_Read.f (b_0 : (List Int)) (a1 : Int) : Option (api_Value × Int × Int) :=
  none
theorem value_Read.ok (b_0 : (List Int)) (a1 : Int) (v_b_0 : Value) (r : api_Value × Int × Int) (H : value_Read.f b_0 a1 = some r) (w : World) (hV : Hp) (sV : Sub hV (hp w)) (h0 : slR (kInt .u8) hV v_b_0 b_0) :
    Trip Tryz.prog 175 [v_b_0, .int .i64 a1].toArray em hV w (fun v => HO.pure (v = .tuple #[.agg #[.int .u8 r.1.Kind, .int .i64 r.1.A, .int .i64 r.1.B], .int .i64 r.2.1, .int .i64 r.2.2])) := by
 exact absurd H (by simp [value_Read.f])
inductive pool_Read.S where
  | start
  | l1 (t2 : Int × Int × Int) (x16 : Int) (l18 : List api_Value) (x20 : Int)
def pool_Read.F (b_0 : (List Int)) (a1 : Int) : pool_Read.S → Option (pool_Read.S ⊕ ((List api_Value) × Int × Int))
  | .start => (octet_Get.f b_0 a1 1).bind fun t2 => if t2.2.2 ≠ 0 then (some (.inr ([], 0, t2.2.2))) else (if t2.1 > 32 then (some (.inr ([], 0, 60))) else (some (.inl (.l1 t2 t2.2.1 [] 0))))
  | .l1 t2 x16 l18 x20 => if x20 < t2.1 then ((value_Read.f b_0 x16).bind fun t22 => if t22.2.2 ≠ 0 then (some (.inr ([], 0, t22.2.2))) else (if (l18.length + [t22.1].length) * 24 ≤ 140737488355328 then (some (.inl (.l1 t2 t22.2.1 (l18 ++ [t22.1]) (IntKind.i64.wrap (x20 + 1))))) else none)) else (some (.inr (l18, x16, 0)))
def pool_Read.f (b_0 : (List Int)) (a1 : Int) : Option ((List api_Value) × Int × Int) := runF (pool_Read.F b_0 a1) .start
theorem pool_Read.ok (b_0 : (List Int)) (a1 : Int) (v_b_0 : Value) (r : (List api_Value) × Int × Int) (H : pool_Read.f b_0 a1 = some r) (w : World) (hV : Hp) (sV : Sub hV (hp w)) (h0 : slR (kInt .u8) hV v_b_0 b_0) :
    Trip Tryz.prog 114 [v_b_0, .int .i64 a1].toArray em hV w (fun v => HO.ex fun u0 : Value => HO.pand (v = .tuple #[u0, .int .i64 r.2.1, .int .i64 r.2.2]) (HO.seps [slO k_api_Value 100 u0 r.1])) := by
 refine Trip.go 46 Tryz.func114 sV (aS h0 (All.nil _)) fun see => ?_
 obtain ⟨n0, hi⟩ := runF_iff.1 H
 obtain ⟨m0, o, hm0, ho, hr⟩ := iter_some hi
 clear hi
 refine go ?_
 obtain ⟨t2, hc, ho⟩ := bind_some ho
 refine SP.callV see (caps := []) (.tuple #[.int .i64 t2.1, .int .i64 t2.2.1, .int .i64 t2.2.2]) fn111 rfl rfl rfl rfl (fun w2 hP hs sub ap => octet_Get.ok _ _ _ _ _ hc w2 hP sub (ap.get 0 rfl)) ?_
 clear hc
 refine go ?_
 refine CP.seq (go ?_)
 refine CP.ci ho (fun ho => ?_) fun ho => ?_
 ·refine go ?_
  obtain rfl := fin ho hr
  exact QE.rt (fun _ h => St.selO [0] rfl rfl (St.addO (slO.nil k_api_Value 100) h))
 refine go ?_
 refine CP.seq (go ?_)
 refine CP.ci ho (fun ho => ?_) fun ho => ?_
 ·refine go ?_
  obtain rfl := fin ho hr
  exact QE.rt (fun _ h => St.selO [0] rfl rfl (St.addO (slO.nil k_api_Value 100) h))
 refine go ?_
 refine CP.seq (go ?_)
 obtain rfl := Option.some.inj ho
 refine CP.loop (fun cl1 a w2 => ∃ x16 : Int, ∃ l18 : List api_Value, ∃ x20 : Int, ∃ v19 : Value, cl1 ≤ m0 ∧ iter (pool_Read.F b_0 a1) cl1 (.l1 t2 x16 l18 x20) = some r ∧ Env ⟨46, []⟩ [(0, v_b_0), (1, .int .i64 x16), (9, v19), (25, .int .i64 t2.1), (26, .int .i64 x20)] a ∧ St w em hV [slP (kInt .u8) v_b_0 b_0] [slO k_api_Value 100 v19 l18] w2) m0 (fun a w2 ha hw => ⟨t2.2.1, [], 0, (.slice none 0 0), Nat.le_refl _, hr, ha.sub sb, (St.addO (slO.nil k_api_Value 100) hw)⟩) ?_
 clear hr
 rintro cl1 a w2 ⟨x16, l18, x20, v19, hc_l1, hi, ha, hw⟩
 obtain ⟨m21, o, hm_m21, ho, hr⟩ := iter_some hi
 refine CP.app ha hw ?_
 clear ha hw a w2 hi
 refine go ?_
 refine CP.seq ?_
 refine CP.ci ho (fun ho => ?_) fun ho => ?_
 ·refine go ?_
  refine CP.seq (go ?_)
  obtain ⟨t22, hc, ho⟩ := bind_some ho
  refine SP.callV see (caps := []) (.tuple #[.agg #[.int .u8 t22.1.Kind, .int .i64 t22.1.A, .int .i64 t22.1.B], .int .i64 t22.2.1, .int .i64 t22.2.2]) fn175 rfl rfl rfl rfl (fun w2 hP hs sub ap => value_Read.ok _ _ _ _ hc w2 hP sub (ap.get 0 rfl)) ?_
  clear hc
  refine go ?_
  refine SP.alloc (cs := [.int .u8 0, .int .i64 0, .int .i64 0]) inf100 rfl rfl (fun b23 => ?_)
  refine SP.store (v := .agg #[.int .u8 t22.1.Kind, .int .i64 t22.1.A, .int .i64 t22.1.B]) (vs := [.int .u8 t22.1.Kind, .int .i64 t22.1.A, .int .i64 t22.1.B]) 0 (by rfl) sz100 (by rfl) (by rfl) (by rfl) (by rfl) (by rfl) (by rfl) (go ?_)
  refine CP.seq (go ?_)
  refine CP.ci ho (fun ho => ?_) fun ho => ?_
  ·refine go ?_
   obtain rfl := fin ho hr
   exact QE.rt (fun _ h => St.selO [0] rfl rfl (St.addO (slO.nil k_api_Value 100) h))
  refine go ?_
  refine SP.val (Val.loadA 0 rfl Tryz.underlying100 rfl sz100 rfl rfl rfl) rfl rfl rfl ?_
  refine SP.lit (k := k_api_Value) (xs := [t22.1]) (vs := [.agg #[.int .u8 t22.1.Kind, .int .i64 t22.1.A, .int .i64 t22.1.B]]) (cells := [.int .u8 t22.1.Kind, .int .i64 t22.1.A, .int .i64 t22.1.B]) Tryz.underlying22 inf100 rfl rfl rfl rfl rfl rfl rfl rfl (fun _ ap => ⟨[.int .u8 t22.1.Kind, .int .i64 t22.1.A, .int .i64 t22.1.B], _, rfl, rfl, rfl⟩) rfl rfl rfl (fun v26 => ?_)
  refine SP.freezeS see 0 rfl ?_
  obtain ⟨hb, ho⟩ := must_some ho
  refine SP.append see 1 rfl 0 rfl Tryz.underlying22 inf100 rfl rfl hb rfl rfl rfl rfl rfl (fun v28 => ?_)
  clear hb
  refine go ?_
  obtain rfl := Option.some.inj ho
  exact QE.lower m21 (by omega) fun a w2 ha hw => ⟨t22.2.1, (l18 ++ [t22.1]), (IntKind.i64.wrap (x20 + 1)), v28, (by omega), hr, ha.sub sb, (St.selP [1] rfl (St.selO [1] rfl rfl hw))⟩
 refine go ?_
 obtain rfl := fin ho hr
 exact QE.rt (fun _ h => St.selO [0] rfl rfl h)
def module_one.f (b_0 : (List Int)) (a1 : Int) : Option (api_Method × Int × Int) :=
  none
theorem module_one.ok (b_0 : (List Int)) (a1 : Int) (v_b_0 : Value) (r : api_Method × Int × Int) (H : module_one.f b_0 a1 = some r) (w : World) (hV : Hp) (sV : Sub hV (hp w)) (h0 : slR (kInt .u8) hV v_b_0 b_0) :
    Trip Tryz.prog 118 [v_b_0, .int .i64 a1].toArray em hV w (fun v => HO.ex fun u0 : Value => HO.ex fun u1 : Value => HO.ex fun u2 : Value => HO.pand (v = .tuple #[.agg #[u0, u1, .int .u8 r.1.Result, .bool r.1.Reads, .int .i64 r.1.Fuel, .int .i64 r.1.Stack, .int .i64 r.1.Heap, u2], .int .i64 r.2.1, .int .i64 r.2.2]) (HO.seps [HO.ofP (slP (kInt .u8) u0 r.1.Args), HO.ofP (slP (kInt .u8) u1 r.1.Locals), HO.ofP (slP k_api_Instr u2 r.1.Code)])) := by
 exact absurd H (by simp [module_one.f])
inductive module_Parse.S where
  | start
  | l1 (t22 : (List api_Value) × Int × Int) (t29 : (List api_Value) × Int × Int) (t34 : Int × Int × Int) (x68 : Int) (x69 : Int) (x70 : Int) (l72 : List api_Method)
def module_Parse.j3 (b_0 : (List Int)) (t22 : (List api_Value) × Int × Int) (l113 : List api_Value) (l116 : List api_Method) (x123 : Int) : Option (module_Parse.S ⊕ (api_Module × Int)) :=
  some (.inr ((⟨t22.1, l113, l116, x123⟩ : api_Module), 0))
def module_Parse.j2 (b_0 : (List Int)) (t22 : (List api_Value) × Int × Int) (x109 : Int) (l113 : List api_Value) (l116 : List api_Method) (x118 : Int) : Option (module_Parse.S ⊕ (api_Module × Int)) :=
  if x109 ≠ 0 then (some (.inr ((⟨[], [], [], 0⟩ : api_Module), x109))) else (if x118 = 255 then (module_Parse.j3 b_0 t22 l113 l116 (-1)) else (module_Parse.j3 b_0 t22 l113 l116 x118))
def module_Parse.F (b_0 : (List Int)) : module_Parse.S → Option (module_Parse.S ⊕ (api_Module × Int))
  | .start => if (b_0.length : Int) > 2000 then (some (.inr ((⟨[], [], [], 0⟩ : api_Module), 3))) else ((pool_Read.f b_0 0).bind fun t22 => if ((decide (t22.2.2 = 0)) && (!(decide ((t22.1.length : Int) ≤ 4)))) = true then (module_Parse.j2 b_0 t22 80 [] [] 0) else (if t22.2.2 ≠ 0 then (module_Parse.j2 b_0 t22 t22.2.2 [] [] 0) else ((pool_Read.f b_0 t22.2.1).bind fun t29 => if t29.2.2 ≠ 0 then (module_Parse.j2 b_0 t22 t29.2.2 t29.1 [] 0) else ((octet_Get.f b_0 t29.2.1 1).bind fun t34 => if ((decide (t34.2.2 = 0)) && (!(decide (t34.1 ≤ 16)))) = true then (module_Parse.j2 b_0 t22 80 t29.1 [] 0) else (if t34.2.2 ≠ 0 then (module_Parse.j2 b_0 t22 t34.2.2 t29.1 [] 0) else (some (.inl (.l1 t22 t29 t34 0 t34.2.2 t34.2.1 []))))))))
  | .l1 t22 t29 t34 x68 x69 x70 l72 => if ((decide (x68 < t34.1)) && (decide (x69 = 0))) = true then ((module_one.f b_0 x70).bind fun t79 => if (l72.length + [t79.1].length) * 104 ≤ 140737488355328 then (some (.inl (.l1 t22 t29 t34 (IntKind.i64.wrap (x68 + 1)) t79.2.2 t79.2.1 (l72 ++ [t79.1])))) else none) else (if x69 ≠ 0 then (module_Parse.j2 b_0 t22 x69 t29.1 l72 0) else ((octet_Get.f b_0 x70 1).bind fun t92 => if ((decide (t92.2.2 = 0)) && (!((decide (t92.1 < t34.1)) || (decide (t92.1 = 255))))) = true then (module_Parse.j2 b_0 t22 80 t29.1 l72 t92.1) else (if ((decide (t92.2.2 = 0)) && (!(decide (t92.2.1 = (b_0.length : Int))))) = true then (module_Parse.j2 b_0 t22 80 t29.1 l72 t92.1) else (if t92.2.2 ≠ 0 then (module_Parse.j2 b_0 t22 t92.2.2 t29.1 l72 t92.1) else (module_Parse.j2 b_0 t22 t92.2.2 t29.1 l72 t92.1)))))
def module_Parse.f (b_0 : (List Int)) : Option (api_Module × Int) := runF (module_Parse.F b_0) .start
theorem module_Parse.ok (b_0 : (List Int)) (v_b_0 : Value) (r : api_Module × Int) (H : module_Parse.f b_0 = some r) (w : World) (hV : Hp) (sV : Sub hV (hp w)) (h0 : slR (kInt .u8) hV v_b_0 b_0) :
    Trip Tryz.prog 59 [v_b_0].toArray em hV w (fun v => HO.ex fun u0 : Value => HO.ex fun u1 : Value => HO.ex fun u2 : Value => HO.pand (v = .tuple #[.agg #[u0, u1, u2, .int .i64 r.1.Migrate], .int .i64 r.2]) (HO.seps [slO k_api_Value 100 u0 r.1.Globals, slO k_api_Value 100 u1 r.1.Pool, slO k_api_Method 34 u2 r.1.Methods])) := by
 refine Trip.go 41 Tryz.func59 sV (aS h0 (All.nil _)) fun see => ?_
 obtain ⟨n0, hi⟩ := runF_iff.1 H
 obtain ⟨m0, o, hm0, ho, hr⟩ := iter_some hi
 clear hi
 refine go ?_
 refine SP.have (fun w2 hw => slR.shape (St.pers 0 rfl see.sub see.dj hw)) (fun hs_v_b_0 => ?_)
 refine SP.box (cs := [v_b_0]) rfl rfl rfl (one_cells hs_v_b_0) (fun b2 => ?_)
 refine SP.alloc (cs := [(.slice none 0 0), (.slice none 0 0), (.slice none 0 0), .int .i64 0]) inf25 rfl rfl (fun b4 => go ?_)
 refine CP.scope 0 (fun _ _ => False) rfl (fun _ _ _ h => h) (fun _ _ h => h.elim) ?_
 refine CP.seq (go ?_)
 refine CP.ci ho (fun ho => ?_) fun ho => ?_
 ·refine go ?_
  refine SP.val (Val.buildC (us := []) (ucs := []) (cs := [(.slice none 0 0), (.slice none 0 0), (.slice none 0 0), .int .i64 0]) bt25 rfl rfl trivial (by rfl)) rfl rfl rfl ?_
  refine SP.store (v := .agg #[(.slice none 0 0), (.slice none 0 0), (.slice none 0 0), .int .i64 0]) (vs := [(.slice none 0 0), (.slice none 0 0), (.slice none 0 0), .int .i64 0]) 0 (by rfl) sz25 (by rfl) (by rfl) (by rfl) (by rfl) (by rfl) (by rfl) (go ?_)
  refine QE.scopeX rfl ?_
  obtain rfl := fin ho hr
  exact QE.rt (fun _ h => St.selO [2, 1, 0] rfl rfl (St.addO (slO.nil k_api_Method 34) (St.addO (slO.nil k_api_Value 100) (St.addO (slO.nil k_api_Value 100) h)))) (rs := [.cell 2 25, .tmp 3]) (vs := [.agg #[(.slice none 0 0), (.slice none 0 0), (.slice none 0 0), .int .i64 0], .int .i64 3]) (hv := ⟨RVs.cellA 0 rfl rfl Tryz.underlying25 rfl sz25, RVs.tmp rfl, trivial⟩)
 refine go ?_
 refine SP.alloc (cs := [(.slice none 0 0), (.slice none 0 0), (.slice none 0 0), .int .i64 0]) inf25 rfl rfl (fun b9 => go ?_)
 refine SP.alloc (cs := [.int .i64 0]) inf3 rfl rfl (fun b11 => ?_)
 refine SP.alloc (cs := [.int .i64 0]) inf3 rfl rfl (fun b13 => ?_)
 refine SP.store (v := .int .i64 0) (vs := [.int .i64 0]) 1 (by rfl) sz3 (by rfl) (by rfl) (by rfl) (by rfl) (by rfl) (by rfl) ?_
 refine SP.store (v := .int .i64 0) (vs := [.int .i64 0]) 0 (by rfl) sz3 (by rfl) (by rfl) (by rfl) (by rfl) (by rfl) (by rfl) (go ?_)
 refine SP.alloc (cs := [.int .i64 0]) inf28 rfl rfl (fun b15 => go ?_)
 refine SP.val (Val.makeFunc (us := []) (vs := [.pointer (some ⟨b2, 0, none⟩), .pointer (some ⟨b11, 0, none⟩), .pointer (some ⟨b15, 0, none⟩)]) rfl rfl) rfl rfl rfl ?_
 refine SP.alloc (cs := [.nilFunc]) inf164 rfl rfl (fun b17 => ?_)
 refine SP.store (v := .func (.func 110) #[] #[.pointer (some ⟨b2, 0, none⟩), .pointer (some ⟨b11, 0, none⟩), .pointer (some ⟨b15, 0, none⟩)]) (vs := [.func (.func 110) #[] #[.pointer (some ⟨b2, 0, none⟩), .pointer (some ⟨b11, 0, none⟩), .pointer (some ⟨b15, 0, none⟩)]]) 0 (by rfl) sz164 (by rfl) (by rfl) (by rfl) (by rfl) (by rfl) (by rfl) (go ?_)
 refine SP.val (Val.makeFunc (us := []) (vs := [.pointer (some ⟨b15, 0, none⟩)]) rfl rfl) rfl rfl rfl ?_
 refine SP.alloc (cs := [.nilFunc]) inf165 rfl rfl (fun b19 => ?_)
 refine SP.store (v := .func (.func 112) #[] #[.pointer (some ⟨b15, 0, none⟩)]) (vs := [.func (.func 112) #[] #[.pointer (some ⟨b15, 0, none⟩)]]) 0 (by rfl) sz165 (by rfl) (by rfl) (by rfl) (by rfl) (by rfl) (by rfl) (go ?_)
 refine CP.seq ?_
 refine CP.label (go ?_)
 refine CP.join (fun a w2 => ∃ t22 : (List api_Value) × Int × Int, ∃ x109 : Int, ∃ l113 : List api_Value, ∃ l116 : List api_Method, ∃ x118 : Int, ∃ v23 : Value, ∃ v114 : Value, ∃ v117 : Value, ∃ (m119 : Nat) (o : (module_Parse.S ⊕ (api_Module × Int))), m119 ≤ m0 ∧ module_Parse.j2 b_0 t22 x109 l113 l116 x118 = some o ∧ next (module_Parse.F b_0) m119 o = some r ∧ Env ⟨41, []⟩ [(2, .pointer (some ⟨b4, 0, none⟩)), (4, .pointer (some ⟨b9, 0, none⟩)), (7, .pointer (some ⟨b15, 0, none⟩))] a ∧ St w em hV [] [slO k_api_Method 34 v117 l116, slO k_api_Value 100 v114 l113, slO k_api_Value 100 v23 t22.1, boxO b15 [.int .i64 x109] 28, boxO b9 [v23, v114, v117, .int .i64 x118] 25, boxO b4 [(.slice none 0 0), (.slice none 0 0), (.slice none 0 0), .int .i64 0] 25] w2) ?_ ?_
 ·rintro a w2 ⟨t22, x109, l113, l116, x118, v23, v114, v117, m119, o, hm_m119, ho, hr, ha, hw⟩
  refine CP.app ha hw ?_
  clear ha hw a w2
  refine CP.seq (go ?_)
  refine CP.ci ho (fun ho => ?_) fun ho => ?_
  ·refine CP.seq ?_
   refine CP.drawA (by kernel_rfl) (fun w2 k h => h.drawn k) ?_
   refine DA.ph 0 3 ?_
   refine DT.tv 0 rfl (Val.buildC (us := []) (ucs := []) (cs := [(.slice none 0 0), (.slice none 0 0), (.slice none 0 0), .int .i64 0]) bt25 rfl rfl trivial (by rfl)) ?_
   refine DT.tk 1 ?_
   refine DT.one 2 rfl (by kernel_rfl) rfl ?_
   refine SP.store (v := .agg #[(.slice none 0 0), (.slice none 0 0), (.slice none 0 0), .int .i64 0]) (vs := [(.slice none 0 0), (.slice none 0 0), (.slice none 0 0), .int .i64 0]) 5 (by rfl) sz25 (by rfl) (by rfl) (by rfl) (by rfl) (by rfl) (by rfl) (go ?_)
   refine QE.atT (fun w2 hw => hw) ?_
   refine DT.next (by kernel_rfl) ?_
   refine DA.one 3 rfl (by kernel_rfl) (go ?_)
   refine QE.atA ?_
   refine DA.done (by kernel_rfl) (go ?_)
   refine QE.scopeX rfl ?_
   obtain rfl := fin ho hr
   exact QE.rt (fun _ h => St.selO [2, 1, 0] rfl rfl (St.addO (slO.nil k_api_Method 34) (St.addO (slO.nil k_api_Value 100) (St.addO (slO.nil k_api_Value 100) h)))) (rs := [.cell 2 25, .tmp 3]) (vs := [.agg #[(.slice none 0 0), (.slice none 0 0), (.slice none 0 0), .int .i64 0], .int .i64 x109]) (hv := ⟨RVs.cellA 5 rfl rfl Tryz.underlying25 rfl sz25, RVs.tmp rfl, trivial⟩)
  refine go ?_
  refine CP.join (fun a w2 => ∃ x123 : Int, ∃ (m124 : Nat) (o : (module_Parse.S ⊕ (api_Module × Int))), m124 ≤ m119 ∧ module_Parse.j3 b_0 t22 l113 l116 x123 = some o ∧ next (module_Parse.F b_0) m124 o = some r ∧ Env ⟨41, []⟩ [(2, .pointer (some ⟨b4, 0, none⟩)), (4, .pointer (some ⟨b9, 0, none⟩))] a ∧ St w em hV [] [slO k_api_Method 34 v117 l116, slO k_api_Value 100 v114 l113, slO k_api_Value 100 v23 t22.1, boxO b9 [v23, v114, v117, .int .i64 x123] 25, boxO b4 [(.slice none 0 0), (.slice none 0 0), (.slice none 0 0), .int .i64 0] 25] w2) ?_ ?_
  ·rintro a w2 ⟨x123, m124, o, hm_m124, ho, hr, ha, hw⟩
   refine CP.app ha hw ?_
   clear ha hw a w2
   refine go ?_
   refine SP.val (Val.loadA 3 rfl Tryz.underlying25 rfl sz25 rfl rfl rfl) rfl rfl rfl ?_
   refine SP.have (fun w2 hw => slO.shape (St.own 2 rfl see.sub see.dj hw)) (fun hs_v23 => ?_)
   refine SP.have (fun w2 hw => slO.shape (St.own 1 rfl see.sub see.dj hw)) (fun hs_v114 => ?_)
   refine SP.have (fun w2 hw => slO.shape (St.own 0 rfl see.sub see.dj hw)) (fun hs_v117 => ?_)
   refine SP.store (v := .agg #[v23, v114, v117, .int .i64 x123]) (vs := [v23, v114, v117, .int .i64 x123]) 4 (by rfl) sz25 (by rfl) (by rfl) (by rfl) (by rfl) (one_cons hs_v23 (one_cons hs_v114 (one_cons hs_v117 (one_cons rfl (rfl))))) (by rfl) (go ?_)
   refine QE.scopeX rfl ?_
   obtain rfl := fin ho hr
   exact QE.rt (fun _ h => St.selO [2, 1, 0] rfl rfl h) (rs := [.cell 2 25, .tmp 3]) (vs := [.agg #[v23, v114, v117, .int .i64 x123], .int .i64 0]) (hv := ⟨RVs.cellA 4 rfl rfl Tryz.underlying25 rfl sz25, RVs.tmp rfl, trivial⟩)
  refine go ?_
  refine CP.ci ho (fun ho => ?_) fun ho => ?_
  ·refine go ?_
   refine SP.store (v := .int .i64 (-1)) (vs := [.int .i64 (-1)]) 4 (by rfl) sz3 (by rfl) (by rfl) (by rfl) (by rfl) (by rfl) (by rfl) (go ?_)
   exact QE.meet fun a w2 ha hw => ⟨(-1), m119, _, (by omega), ho, hr, ha.sub sb, (St.selO [0, 1, 2, 4, 5] rfl rfl hw)⟩
  refine go ?_
  exact QE.meet fun a w2 ha hw => ⟨x118, m119, _, (by omega), ho, hr, ha.sub sb, (St.selO [0, 1, 2, 4, 5] rfl rfl hw)⟩
 refine go ?_
 refine SP.val (Val.makeFunc (us := []) (vs := [.pointer (some ⟨b2, 0, none⟩), .pointer (some ⟨b11, 0, none⟩), .pointer (some ⟨b9, 0, none⟩), .pointer (some ⟨b15, 0, none⟩), .pointer (some ⟨b19, 0, none⟩)]) rfl rfl) rfl rfl rfl ?_
 refine SP.val (Val.makeFunc (us := []) (vs := [.pointer (some ⟨b2, 0, none⟩), .pointer (some ⟨b11, 0, none⟩), .pointer (some ⟨b9, 0, none⟩), .pointer (some ⟨b15, 0, none⟩)]) rfl rfl) rfl rfl rfl ?_
 refine SP.val (Val.makeFunc (us := []) (vs := [.pointer (some ⟨b17, 0, none⟩), .pointer (some ⟨b13, 0, none⟩), .pointer (some ⟨b19, 0, none⟩)]) rfl rfl) rfl rfl rfl ?_
 refine SP.val (Val.makeFunc (us := []) (vs := [.pointer (some ⟨b13, 0, none⟩), .pointer (some ⟨b15, 0, none⟩), .pointer (some ⟨b2, 0, none⟩), .pointer (some ⟨b11, 0, none⟩), .pointer (some ⟨b9, 0, none⟩)]) rfl rfl) rfl rfl rfl ?_
 refine SP.val (Val.makeFunc (us := []) (vs := [.pointer (some ⟨b17, 0, none⟩), .pointer (some ⟨b9, 0, none⟩), .pointer (some ⟨b19, 0, none⟩), .pointer (some ⟨b13, 0, none⟩), .pointer (some ⟨b11, 0, none⟩), .pointer (some ⟨b2, 0, none⟩)]) rfl rfl) rfl rfl rfl ?_
 refine SP.val (Val.buildC (us := [(0, .func (.func 113) #[] #[.pointer (some ⟨b2, 0, none⟩), .pointer (some ⟨b11, 0, none⟩), .pointer (some ⟨b9, 0, none⟩), .pointer (some ⟨b15, 0, none⟩), .pointer (some ⟨b19, 0, none⟩)]), (1, .func (.func 115) #[] #[.pointer (some ⟨b2, 0, none⟩), .pointer (some ⟨b11, 0, none⟩), .pointer (some ⟨b9, 0, none⟩), .pointer (some ⟨b15, 0, none⟩)]), (2, .func (.func 116) #[] #[.pointer (some ⟨b17, 0, none⟩), .pointer (some ⟨b13, 0, none⟩), .pointer (some ⟨b19, 0, none⟩)]), (3, .func (.func 117) #[] #[.pointer (some ⟨b13, 0, none⟩), .pointer (some ⟨b15, 0, none⟩), .pointer (some ⟨b2, 0, none⟩), .pointer (some ⟨b11, 0, none⟩), .pointer (some ⟨b9, 0, none⟩)]), (4, .func (.func 119) #[] #[.pointer (some ⟨b17, 0, none⟩), .pointer (some ⟨b9, 0, none⟩), .pointer (some ⟨b19, 0, none⟩), .pointer (some ⟨b13, 0, none⟩), .pointer (some ⟨b11, 0, none⟩), .pointer (some ⟨b2, 0, none⟩)])]) (ucs := [(0, [.func (.func 113) #[] #[.pointer (some ⟨b2, 0, none⟩), .pointer (some ⟨b11, 0, none⟩), .pointer (some ⟨b9, 0, none⟩), .pointer (some ⟨b15, 0, none⟩), .pointer (some ⟨b19, 0, none⟩)]]), (1, [.func (.func 115) #[] #[.pointer (some ⟨b2, 0, none⟩), .pointer (some ⟨b11, 0, none⟩), .pointer (some ⟨b9, 0, none⟩), .pointer (some ⟨b15, 0, none⟩)]]), (2, [.func (.func 116) #[] #[.pointer (some ⟨b17, 0, none⟩), .pointer (some ⟨b13, 0, none⟩), .pointer (some ⟨b19, 0, none⟩)]]), (3, [.func (.func 117) #[] #[.pointer (some ⟨b13, 0, none⟩), .pointer (some ⟨b15, 0, none⟩), .pointer (some ⟨b2, 0, none⟩), .pointer (some ⟨b11, 0, none⟩), .pointer (some ⟨b9, 0, none⟩)]]), (4, [.func (.func 119) #[] #[.pointer (some ⟨b17, 0, none⟩), .pointer (some ⟨b9, 0, none⟩), .pointer (some ⟨b19, 0, none⟩), .pointer (some ⟨b13, 0, none⟩), .pointer (some ⟨b11, 0, none⟩), .pointer (some ⟨b2, 0, none⟩)]])]) (cs := [.func (.func 113) #[] #[.pointer (some ⟨b2, 0, none⟩), .pointer (some ⟨b11, 0, none⟩), .pointer (some ⟨b9, 0, none⟩), .pointer (some ⟨b15, 0, none⟩), .pointer (some ⟨b19, 0, none⟩)], .func (.func 115) #[] #[.pointer (some ⟨b2, 0, none⟩), .pointer (some ⟨b11, 0, none⟩), .pointer (some ⟨b9, 0, none⟩), .pointer (some ⟨b15, 0, none⟩)], .func (.func 116) #[] #[.pointer (some ⟨b17, 0, none⟩), .pointer (some ⟨b13, 0, none⟩), .pointer (some ⟨b19, 0, none⟩)], .func (.func 117) #[] #[.pointer (some ⟨b13, 0, none⟩), .pointer (some ⟨b15, 0, none⟩), .pointer (some ⟨b2, 0, none⟩), .pointer (some ⟨b11, 0, none⟩), .pointer (some ⟨b9, 0, none⟩)], .func (.func 119) #[] #[.pointer (some ⟨b17, 0, none⟩), .pointer (some ⟨b9, 0, none⟩), .pointer (some ⟨b19, 0, none⟩), .pointer (some ⟨b13, 0, none⟩), .pointer (some ⟨b11, 0, none⟩), .pointer (some ⟨b2, 0, none⟩)]]) bt170 rfl rfl ⟨rfl, rfl, ⟨rfl, rfl, ⟨rfl, rfl, ⟨rfl, rfl, ⟨rfl, rfl, trivial⟩⟩⟩⟩⟩ (by rfl)) rfl rfl rfl (go ?_)
 refine CP.rounds 9 ?_
 refine LP.step ?_
 refine CP.seq ?_
 refine CP.region ?_
 refine SP.val (Val.cast (v := .bool true) (Val.lss rfl rfl) rfl) rfl rfl rfl (go ?_)
 refine CP.seq ?_
 refine CP.condT rfl rfl (go ?_)
 refine CP.seq (go ?_)
 refine SP.val (Val.indexC1 0 Tryz.underlying170 Tryz.underlying1 rfl sz1 rfl rfl rfl rfl) rfl rfl rfl (go ?_)
 refine SP.callI (vals := []) (caps := [.pointer (some ⟨b2, 0, none⟩), .pointer (some ⟨b11, 0, none⟩), .pointer (some ⟨b9, 0, none⟩), .pointer (some ⟨b15, 0, none⟩), .pointer (some ⟨b19, 0, none⟩)]) 19 Tryz.func113 fn113 rfl rfl rfl rfl rfl rfl fun a21 ha_a21 => go ?_
 obtain ⟨t22, hc, ho⟩ := bind_some ho
 refine SP.callK see (caps := []) _ fn114 rfl rfl rfl rfl (fun w2 hP hs sub ap => pool_Read.ok _ _ _ _ hc w2 hP sub (ap.get 0 rfl)) (SP.k1 fun v23 => ?_)
 clear hc
 refine go ?_
 refine SP.have (fun w2 hw => slO.shape (St.own 0 rfl see.sub see.dj hw)) (fun hs_v23 => ?_)
 refine SP.store (v := v23) (vs := [v23]) 6 (by rfl) sz22 (by rfl) (by rfl) (by rfl) (one_cells hs_v23) (one_cons hs_v23 (rfl)) (by rfl) ?_
 refine SP.store (v := .int .i64 t22.2.1) (vs := [.int .i64 t22.2.1]) 5 (by rfl) sz3 (by rfl) (by rfl) (by rfl) (by rfl) (by rfl) (by rfl) ?_
 refine SP.store (v := .int .i64 t22.2.2) (vs := [.int .i64 t22.2.2]) 3 (by rfl) sz28 (by rfl) (by rfl) (by rfl) (by rfl) (by rfl) (by rfl) (go ?_)
 refine SP.val (Val.lenW (fun w2 hw => slO.whole (St.own 0 rfl see.sub see.dj hw)) Tryz.underlying22 rfl) rfl rfl rfl (go ?_)
 refine SP.callI (vals := [.bool (decide ((t22.1.length : Int) ≤ 4))]) (caps := [.pointer (some ⟨b15, 0, none⟩)]) 9 Tryz.func112 fn112 rfl rfl rfl rfl rfl rfl fun a25 ha_a25 => go ?_
 refine SP.jn 3 [1] 8 (.bool ((decide (t22.2.2 = 0)) && (!(decide ((t22.1.length : Int) ≤ 4))))) ?_ ?_
 ·refine go ?_
  refine CP.cb ho (fun ho => ?_) fun ho => ?_
  ·refine go ?_
   refine SP.store (v := .int .i64 80) (vs := [.int .i64 80]) 3 (by rfl) sz28 (by rfl) (by rfl) (by rfl) (by rfl) (by rfl) (by rfl) (go ?_)
   refine QE.endI (m := ⟨9, []⟩) (rs := []) (vs := []) ha_a25 rfl Tryz.results112 trivial (go ?_)
   refine QE.endI (m := ⟨19, []⟩) (rs := []) (vs := []) ha_a21 rfl Tryz.results113 trivial ?_
   refine SP.nil ?_
   refine QE.then ?_
   refine CP.seq ?_
   refine CP.region ?_
   refine SP.val (Val.load1 3 rfl Tryz.underlying28 rfl rfl rfl) rfl rfl rfl ?_
   refine SP.val (Val.cast (v := .bool true) (Val.neq rfl rfl) rfl) rfl rfl rfl (go ?_)
   refine CP.condT rfl rfl (go ?_)
   exact QE.meet fun a w2 ha hw => ⟨t22, 80, [], [], 0, v23, (.slice none 0 0), (.slice none 0 0), m0, _, (by omega), ho, hr, ha.sub sb, (St.selP [] rfl (St.selO [0, 1, 2, 5, 8, 9] rfl rfl (St.addO (slO.nil k_api_Method 34) (St.addO (slO.nil k_api_Value 100) hw))))⟩
  refine go ?_
  refine QE.endI (m := ⟨9, []⟩) (rs := []) (vs := []) ha_a25 rfl Tryz.results112 trivial (go ?_)
  refine QE.endI (m := ⟨19, []⟩) (rs := []) (vs := []) ha_a21 rfl Tryz.results113 trivial (go ?_)
  refine CP.ci ho (fun ho => ?_) fun ho => ?_
  ·refine go ?_
   exact QE.meet fun a w2 ha hw => ⟨t22, t22.2.2, [], [], 0, v23, (.slice none 0 0), (.slice none 0 0), m0, _, (by omega), ho, hr, ha.sub sb, (St.selP [] rfl (St.selO [0, 1, 2, 5, 8, 9] rfl rfl (St.addO (slO.nil k_api_Method 34) (St.addO (slO.nil k_api_Value 100) hw))))⟩
  refine CP.skip ?_
  refine QE.blockN ?_
  refine QE.then ?_
  refine CP.region ?_
  refine SP.val (Val.cast (v := .int .i64 1) (Val.add rfl rfl) rfl) rfl rfl rfl (go ?_)
  refine QE.round ?_
  refine LP.step ?_
  refine CP.seq ?_
  refine CP.region ?_
  refine SP.val (Val.cast (v := .bool true) (Val.lss rfl rfl) rfl) rfl rfl rfl (go ?_)
  refine CP.seq ?_
  refine CP.condT rfl rfl (go ?_)
  refine CP.seq (go ?_)
  refine SP.val (Val.indexC1 1 Tryz.underlying170 Tryz.underlying1 rfl sz1 rfl rfl rfl rfl) rfl rfl rfl (go ?_)
  refine SP.callI (vals := []) (caps := [.pointer (some ⟨b2, 0, none⟩), .pointer (some ⟨b11, 0, none⟩), .pointer (some ⟨b9, 0, none⟩), .pointer (some ⟨b15, 0, none⟩)]) 12 Tryz.func115 fn115 rfl rfl rfl rfl rfl rfl fun a28 ha_a28 => go ?_
  obtain ⟨t29, hc, ho⟩ := bind_some ho
  refine SP.callK see (caps := []) _ fn114 rfl rfl rfl rfl (fun w2 hP hs sub ap => pool_Read.ok _ _ _ _ hc w2 hP sub (ap.get 0 rfl)) (SP.k1 fun v30 => ?_)
  clear hc
  refine go ?_
  refine SP.have (fun w2 hw => slO.shape (St.own 0 rfl see.sub see.dj hw)) (fun hs_v30 => ?_)
  refine SP.store (v := v30) (vs := [v30]) 7 (by rfl) sz22 (by rfl) (by rfl) (by rfl) (one_cells hs_v30) (one_cons hs_v30 (rfl)) (by rfl) ?_
  refine SP.store (v := .int .i64 t29.2.1) (vs := [.int .i64 t29.2.1]) 6 (by rfl) sz3 (by rfl) (by rfl) (by rfl) (by rfl) (by rfl) (by rfl) ?_
  refine SP.store (v := .int .i64 t29.2.2) (vs := [.int .i64 t29.2.2]) 4 (by rfl) sz28 (by rfl) (by rfl) (by rfl) (by rfl) (by rfl) (by rfl) (go ?_)
  refine QE.endI (m := ⟨12, []⟩) (rs := []) (vs := []) ha_a28 rfl Tryz.results115 trivial (go ?_)
  refine CP.ci ho (fun ho => ?_) fun ho => ?_
  ·refine go ?_
   exact QE.meet fun a w2 ha hw => ⟨t22, t29.2.2, t29.1, [], 0, v23, v30, (.slice none 0 0), m0, _, (by omega), ho, hr, ha.sub sb, (St.selP [] rfl (St.selO [0, 1, 2, 5, 8, 9] rfl rfl (St.addO (slO.nil k_api_Method 34) hw)))⟩
  refine CP.skip ?_
  refine QE.blockN ?_
  refine QE.then ?_
  refine CP.region ?_
  refine SP.val (Val.cast (v := .int .i64 2) (Val.add rfl rfl) rfl) rfl rfl rfl (go ?_)
  refine QE.round ?_
  refine LP.step ?_
  refine CP.seq ?_
  refine CP.region ?_
  refine SP.val (Val.cast (v := .bool true) (Val.lss rfl rfl) rfl) rfl rfl rfl (go ?_)
  refine CP.seq ?_
  refine CP.condT rfl rfl (go ?_)
  refine CP.seq (go ?_)
  refine SP.val (Val.indexC1 2 Tryz.underlying170 Tryz.underlying1 rfl sz1 rfl rfl rfl rfl) rfl rfl rfl (go ?_)
  refine SP.callI (vals := []) (caps := [.pointer (some ⟨b17, 0, none⟩), .pointer (some ⟨b13, 0, none⟩), .pointer (some ⟨b19, 0, none⟩)]) 9 Tryz.func116 fn116 rfl rfl rfl rfl rfl rfl fun a32 ha_a32 => go ?_
  refine SP.callI (vals := []) (caps := [.pointer (some ⟨b2, 0, none⟩), .pointer (some ⟨b11, 0, none⟩), .pointer (some ⟨b15, 0, none⟩)]) 12 Tryz.func110 fn110 rfl rfl rfl rfl rfl rfl fun a33 ha_a33 => go ?_
  obtain ⟨t34, hc, ho⟩ := bind_some ho
  refine SP.callV see (caps := []) (.tuple #[.int .i64 t34.1, .int .i64 t34.2.1, .int .i64 t34.2.2]) fn111 rfl rfl rfl rfl (fun w2 hP hs sub ap => octet_Get.ok _ _ _ _ _ hc w2 hP sub (ap.get 0 rfl)) ?_
  clear hc
  refine go ?_
  refine SP.store (v := .int .i64 t34.2.1) (vs := [.int .i64 t34.2.1]) 6 (by rfl) sz3 (by rfl) (by rfl) (by rfl) (by rfl) (by rfl) (by rfl) ?_
  refine SP.store (v := .int .i64 t34.2.2) (vs := [.int .i64 t34.2.2]) 4 (by rfl) sz28 (by rfl) (by rfl) (by rfl) (by rfl) (by rfl) (by rfl) (go ?_)
  refine QE.retI (m := ⟨12, []⟩) (rs := [.tmp 3]) (vs := [.int .i64 t34.1]) ha_a33 rfl Tryz.results110 ⟨RVs.tmp rfl, trivial⟩ ?_
  refine SP.store (v := .int .i64 t34.1) (vs := [.int .i64 t34.1]) 5 (by rfl) sz3 (by rfl) (by rfl) (by rfl) (by rfl) (by rfl) (by rfl) (go ?_)
  refine SP.callI (vals := [.bool (decide (t34.1 ≤ 16))]) (caps := [.pointer (some ⟨b15, 0, none⟩)]) 9 Tryz.func112 fn112 rfl rfl rfl rfl rfl rfl fun a35 ha_a35 => go ?_
  refine SP.jn 3 [1] 8 (.bool ((decide (t34.2.2 = 0)) && (!(decide (t34.1 ≤ 16))))) ?_ ?_
  ·refine go ?_
   refine CP.cb ho (fun ho => ?_) fun ho => ?_
   ·refine go ?_
    refine SP.store (v := .int .i64 80) (vs := [.int .i64 80]) 4 (by rfl) sz28 (by rfl) (by rfl) (by rfl) (by rfl) (by rfl) (by rfl) (go ?_)
    refine QE.endI (m := ⟨9, []⟩) (rs := []) (vs := []) ha_a35 rfl Tryz.results112 trivial (go ?_)
    refine QE.endI (m := ⟨9, []⟩) (rs := []) (vs := []) ha_a32 rfl Tryz.results116 trivial ?_
    refine SP.nil ?_
    refine QE.then ?_
    refine CP.seq ?_
    refine CP.region ?_
    refine SP.val (Val.load1 4 rfl Tryz.underlying28 rfl rfl rfl) rfl rfl rfl ?_
    refine SP.val (Val.cast (v := .bool true) (Val.neq rfl rfl) rfl) rfl rfl rfl (go ?_)
    refine CP.condT rfl rfl (go ?_)
    exact QE.meet fun a w2 ha hw => ⟨t22, 80, t29.1, [], 0, v23, v30, (.slice none 0 0), m0, _, (by omega), ho, hr, ha.sub sb, (St.selP [] rfl (St.selO [0, 1, 2, 5, 8, 9] rfl rfl (St.addO (slO.nil k_api_Method 34) hw)))⟩
   refine go ?_
   refine QE.endI (m := ⟨9, []⟩) (rs := []) (vs := []) ha_a35 rfl Tryz.results112 trivial (go ?_)
   refine QE.endI (m := ⟨9, []⟩) (rs := []) (vs := []) ha_a32 rfl Tryz.results116 trivial (go ?_)
   refine CP.ci ho (fun ho => ?_) fun ho => ?_
   ·refine go ?_
    exact QE.meet fun a w2 ha hw => ⟨t22, t34.2.2, t29.1, [], 0, v23, v30, (.slice none 0 0), m0, _, (by omega), ho, hr, ha.sub sb, (St.selP [] rfl (St.selO [0, 1, 2, 5, 8, 9] rfl rfl (St.addO (slO.nil k_api_Method 34) hw)))⟩
   refine CP.skip ?_
   refine QE.blockN ?_
   refine QE.then ?_
   refine CP.region ?_
   refine SP.val (Val.cast (v := .int .i64 3) (Val.add rfl rfl) rfl) rfl rfl rfl (go ?_)
   refine QE.round ?_
   refine LP.step ?_
   refine CP.seq ?_
   refine CP.region ?_
   refine SP.val (Val.cast (v := .bool true) (Val.lss rfl rfl) rfl) rfl rfl rfl (go ?_)
   refine CP.seq ?_
   refine CP.condT rfl rfl (go ?_)
   refine CP.seq (go ?_)
   refine SP.val (Val.indexC1 3 Tryz.underlying170 Tryz.underlying1 rfl sz1 rfl rfl rfl rfl) rfl rfl rfl (go ?_)
   refine SP.callI (vals := []) (caps := [.pointer (some ⟨b13, 0, none⟩), .pointer (some ⟨b15, 0, none⟩), .pointer (some ⟨b2, 0, none⟩), .pointer (some ⟨b11, 0, none⟩), .pointer (some ⟨b9, 0, none⟩)]) 29 Tryz.func117 fn117 rfl rfl rfl rfl rfl rfl fun a38 ha_a38 => go ?_
   obtain rfl := Option.some.inj ho
   refine CP.loop (fun cl1 a w2 => ∃ x68 : Int, ∃ x69 : Int, ∃ x70 : Int, ∃ l72 : List api_Method, ∃ v73 : Value, cl1 ≤ m0 ∧ iter (module_Parse.F b_0) cl1 (.l1 t22 t29 t34 x68 x69 x70 l72) = some r ∧ Env ⟨29, []⟩ [(0, .pointer (some ⟨b13, 0, none⟩)), (1, .pointer (some ⟨b15, 0, none⟩)), (2, .pointer (some ⟨b2, 0, none⟩)), (3, .pointer (some ⟨b11, 0, none⟩)), (4, .pointer (some ⟨b9, 0, none⟩)), (5, .int .i64 x68)] a ∧ St w em hV [slP (kInt .u8) v_b_0 b_0] [slO k_api_Method 34 v73 l72, slO k_api_Value 100 v30 t29.1, slO k_api_Value 100 v23 t22.1, boxO b19 [.func (.func 112) #[] #[.pointer (some ⟨b15, 0, none⟩)]] 165, boxO b17 [.func (.func 110) #[] #[.pointer (some ⟨b2, 0, none⟩), .pointer (some ⟨b11, 0, none⟩), .pointer (some ⟨b15, 0, none⟩)]] 164, boxO b15 [.int .i64 x69] 28, boxO b13 [.int .i64 t34.1] 3, boxO b11 [.int .i64 x70] 3, boxO b9 [v23, v30, v73, .int .i64 0] 25, boxO b4 [(.slice none 0 0), (.slice none 0 0), (.slice none 0 0), .int .i64 0] 25, boxO b2 [v_b_0] 31] w2) m0 (fun a w2 ha hw => ⟨0, t34.2.2, t34.2.1, [], (.slice none 0 0), Nat.le_refl _, hr, ha.sub sb, (St.addO (slO.nil k_api_Method 34) hw)⟩) ?_
   clear hr
   rintro cl1 a w2 ⟨x68, x69, x70, l72, v73, hc_l1, hi, ha, hw⟩
   obtain ⟨m74, o, hm_m74, ho, hr⟩ := iter_some hi
   refine CP.app ha hw ?_
   clear ha hw a w2 hi
   refine CP.seq (go ?_)
   refine SP.jn 3 [0, 1, 2, 3, 4, 5] 13 (.bool ((decide (x68 < t34.1)) && (decide (x69 = 0)))) ?_ ?_
   ·refine go ?_
    refine CP.cb ho (fun ho => ?_) fun ho => ?_
    ·refine go ?_
     refine CP.seq (go ?_)
     refine SP.alloc (cs := [(.slice none 0 0), (.slice none 0 0), .int .u8 0, .bool false, .int .i64 0, .int .i64 0, .int .i64 0, (.slice none 0 0)]) inf34 rfl rfl (fun b77 => go ?_)
     refine SP.val (Val.load1 11 rfl Tryz.underlying31 rfl rfl rfl) rfl rfl rfl (go ?_)
     obtain ⟨t79, hc, ho⟩ := bind_some ho
     refine SP.callK see (caps := []) _ fn118 rfl rfl rfl rfl (fun w2 hP hs sub ap => module_one.ok _ _ _ _ hc w2 hP sub (ap.get 0 rfl)) (SP.k3 fun v80 v81 v82 => ?_)
     refine SP.imp (fun w2 h => St.toP 0 rfl h) ?_
     refine SP.imp (fun w2 h => St.toP 0 rfl h) ?_
     refine SP.imp (fun w2 h => St.toP 0 rfl h) ?_
     clear hc
     refine go ?_
     refine SP.have (fun w2 hw => slR.shape (St.pers 2 rfl see.sub see.dj hw)) (fun hs_v80 => ?_)
     refine SP.have (fun w2 hw => slR.shape (St.pers 1 rfl see.sub see.dj hw)) (fun hs_v81 => ?_)
     refine SP.have (fun w2 hw => slR.shape (St.pers 0 rfl see.sub see.dj hw)) (fun hs_v82 => ?_)
     refine SP.store (v := .agg #[v80, v81, .int .u8 t79.1.Result, .bool t79.1.Reads, .int .i64 t79.1.Fuel, .int .i64 t79.1.Stack, .int .i64 t79.1.Heap, v82]) (vs := [v80, v81, .int .u8 t79.1.Result, .bool t79.1.Reads, .int .i64 t79.1.Fuel, .int .i64 t79.1.Stack, .int .i64 t79.1.Heap, v82]) 0 (by rfl) sz34 (by rfl) (by rfl) (by rfl) (by rfl) (one_cons hs_v80 (one_cons hs_v81 (one_cons rfl (one_cons rfl (one_cons rfl (one_cons rfl (one_cons rfl (one_cons hs_v82 (rfl))))))))) (by rfl) ?_
     refine SP.store (v := .int .i64 t79.2.1) (vs := [.int .i64 t79.2.1]) 8 (by rfl) sz3 (by rfl) (by rfl) (by rfl) (by rfl) (by rfl) (by rfl) ?_
     refine SP.store (v := .int .i64 t79.2.2) (vs := [.int .i64 t79.2.2]) 6 (by rfl) sz28 (by rfl) (by rfl) (by rfl) (by rfl) (by rfl) (by rfl) (go ?_)
     refine SP.val (Val.loadA 0 rfl Tryz.underlying34 rfl sz34 rfl rfl rfl) rfl rfl rfl ?_
     refine SP.lit (k := k_api_Method) (xs := [t79.1]) (vs := [.agg #[v80, v81, .int .u8 t79.1.Result, .bool t79.1.Reads, .int .i64 t79.1.Fuel, .int .i64 t79.1.Stack, .int .i64 t79.1.Heap, v82]]) (cells := [v80, v81, .int .u8 t79.1.Result, .bool t79.1.Reads, .int .i64 t79.1.Fuel, .int .i64 t79.1.Stack, .int .i64 t79.1.Heap, v82]) Tryz.underlying23 inf34 rfl rfl rfl rfl rfl rfl rfl rfl (fun _ ap => ⟨[v80, v81, .int .u8 t79.1.Result, .bool t79.1.Reads, .int .i64 t79.1.Fuel, .int .i64 t79.1.Stack, .int .i64 t79.1.Heap, v82], _, rfl, ⟨_, _, _, rfl, ap.get 2 rfl, ap.get 1 rfl, ap.get 0 rfl⟩, rfl⟩) rfl rfl rfl (fun v86 => ?_)
     refine SP.freezeS see 0 rfl ?_
     obtain ⟨hb, ho⟩ := must_some ho
     refine SP.append see 1 rfl 0 rfl Tryz.underlying23 inf34 rfl rfl hb rfl rfl rfl rfl rfl (fun v88 => ?_)
     clear hb
     refine go ?_
     refine SP.have (fun w2 hw => slO.shape (St.own 1 rfl see.sub see.dj hw)) (fun hs_v88 => ?_)
     refine SP.store (v := v88) (vs := [v88]) 9 (by rfl) sz23 (by rfl) (by rfl) (by rfl) (one_cells hs_v88) (one_cons hs_v88 (rfl)) (by rfl) (go ?_)
     obtain rfl := Option.some.inj ho
     exact QE.lower m74 (by omega) fun a w2 ha hw => ⟨(IntKind.i64.wrap (x68 + 1)), t79.2.2, t79.2.1, (l72 ++ [t79.1]), v88, (by omega), hr, ha.sub sb, (St.selP [4] rfl (St.selO [1, 2, 3, 4, 5, 6, 7, 8, 9, 10, 11] rfl rfl hw))⟩
    refine go ?_
    refine QE.endI (m := ⟨29, []⟩) (rs := []) (vs := []) ha_a38 rfl Tryz.results117 trivial (go ?_)
    refine CP.ci ho (fun ho => ?_) fun ho => ?_
    ·refine go ?_
     exact QE.meet fun a w2 ha hw => ⟨t22, x69, t29.1, l72, 0, v23, v30, v73, m74, _, (by omega), ho, hr, ha.sub sb, (St.selP [] rfl (St.selO [0, 1, 2, 5, 8, 9] rfl rfl hw))⟩
    refine CP.skip ?_
    refine QE.blockN ?_
    refine QE.then ?_
    refine CP.region ?_
    refine SP.val (Val.cast (v := .int .i64 4) (Val.add rfl rfl) rfl) rfl rfl rfl (go ?_)
    refine QE.round ?_
    refine LP.step ?_
    refine CP.seq ?_
    refine CP.region ?_
    refine SP.val (Val.cast (v := .bool true) (Val.lss rfl rfl) rfl) rfl rfl rfl (go ?_)
    refine CP.seq ?_
    refine CP.condT rfl rfl (go ?_)
    refine CP.seq (go ?_)
    refine SP.val (Val.indexC1 4 Tryz.underlying170 Tryz.underlying1 rfl sz1 rfl rfl rfl rfl) rfl rfl rfl (go ?_)
    refine SP.callI (vals := []) (caps := [.pointer (some ⟨b17, 0, none⟩), .pointer (some ⟨b9, 0, none⟩), .pointer (some ⟨b19, 0, none⟩), .pointer (some ⟨b13, 0, none⟩), .pointer (some ⟨b11, 0, none⟩), .pointer (some ⟨b2, 0, none⟩)]) 26 Tryz.func119 fn119 rfl rfl rfl rfl rfl rfl fun a90 ha_a90 => go ?_
    refine SP.callI (vals := []) (caps := [.pointer (some ⟨b2, 0, none⟩), .pointer (some ⟨b11, 0, none⟩), .pointer (some ⟨b15, 0, none⟩)]) 12 Tryz.func110 fn110 rfl rfl rfl rfl rfl rfl fun a91 ha_a91 => go ?_
    refine SP.val (Val.load1 10 rfl Tryz.underlying31 rfl rfl rfl) rfl rfl rfl (go ?_)
    obtain ⟨t92, hc, ho⟩ := bind_some ho
    refine SP.callV see (caps := []) (.tuple #[.int .i64 t92.1, .int .i64 t92.2.1, .int .i64 t92.2.2]) fn111 rfl rfl rfl rfl (fun w2 hP hs sub ap => octet_Get.ok _ _ _ _ _ hc w2 hP sub (ap.get 0 rfl)) ?_
    clear hc
    refine go ?_
    refine SP.store (v := .int .i64 t92.2.1) (vs := [.int .i64 t92.2.1]) 7 (by rfl) sz3 (by rfl) (by rfl) (by rfl) (by rfl) (by rfl) (by rfl) ?_
    refine SP.store (v := .int .i64 t92.2.2) (vs := [.int .i64 t92.2.2]) 5 (by rfl) sz28 (by rfl) (by rfl) (by rfl) (by rfl) (by rfl) (by rfl) (go ?_)
    refine QE.retI (m := ⟨12, []⟩) (rs := [.tmp 3]) (vs := [.int .i64 t92.1]) ha_a91 rfl Tryz.results110 ⟨RVs.tmp rfl, trivial⟩ (go ?_)
    refine SP.store (v := .int .i64 t92.1) (vs := [.int .i64 t92.1]) 8 (by rfl) sz3 (by rfl) (by rfl) (by rfl) (by rfl) (by rfl) (by rfl) (go ?_)
    refine SP.jn 4 [2, 4, 5, 9] 18 (.bool ((decide (t92.1 < t34.1)) || (decide (t92.1 = 255)))) ?_ ?_
    ·refine SP.callI (vals := [.bool ((decide (t92.1 < t34.1)) || (decide (t92.1 = 255)))]) (caps := [.pointer (some ⟨b15, 0, none⟩)]) 9 Tryz.func112 fn112 rfl rfl rfl rfl rfl rfl fun a95 ha_a95 => go ?_
     refine SP.jn 3 [1] 8 (.bool ((decide (t92.2.2 = 0)) && (!((decide (t92.1 < t34.1)) || (decide (t92.1 = 255)))))) ?_ ?_
     ·refine go ?_
      refine CP.cb ho (fun ho => ?_) fun ho => ?_
      ·refine go ?_
       refine SP.store (v := .int .i64 80) (vs := [.int .i64 80]) 5 (by rfl) sz28 (by rfl) (by rfl) (by rfl) (by rfl) (by rfl) (by rfl) (go ?_)
       refine QE.endI (m := ⟨9, []⟩) (rs := []) (vs := []) ha_a95 rfl Tryz.results112 trivial (go ?_)
       refine SP.val (Val.load1 10 rfl Tryz.underlying31 rfl rfl rfl) rfl rfl rfl (go ?_)
       refine SP.callI (vals := [.bool (decide (t92.2.1 = (b_0.length : Int)))]) (caps := [.pointer (some ⟨b15, 0, none⟩)]) 9 Tryz.func112 fn112 rfl rfl rfl rfl rfl rfl fun a98 ha_a98 => ?_
       refine CP.seq ?_
       refine CP.region ?_
       refine SP.val (Val.load1 5 rfl Tryz.underlying28 rfl rfl rfl) rfl rfl rfl ?_
       refine SP.val (Val.cast (v := .bool false) (Val.eql rfl rfl) rfl) rfl rfl rfl (go ?_)
       refine CP.condF rfl rfl (go ?_)
       refine QE.endI (m := ⟨9, []⟩) (rs := []) (vs := []) ha_a98 rfl Tryz.results112 trivial (go ?_)
       refine QE.endI (m := ⟨26, []⟩) (rs := []) (vs := []) ha_a90 rfl Tryz.results119 trivial ?_
       refine SP.nil ?_
       refine QE.then ?_
       refine CP.seq ?_
       refine CP.region ?_
       refine SP.val (Val.load1 5 rfl Tryz.underlying28 rfl rfl rfl) rfl rfl rfl ?_
       refine SP.val (Val.cast (v := .bool true) (Val.neq rfl rfl) rfl) rfl rfl rfl (go ?_)
       refine CP.condT rfl rfl (go ?_)
       exact QE.meet fun a w2 ha hw => ⟨t22, 80, t29.1, l72, t92.1, v23, v30, v73, m74, _, (by omega), ho, hr, ha.sub sb, (St.selP [] rfl (St.selO [0, 1, 2, 5, 8, 9] rfl rfl hw))⟩
      refine go ?_
      refine QE.endI (m := ⟨9, []⟩) (rs := []) (vs := []) ha_a95 rfl Tryz.results112 trivial (go ?_)
      refine SP.val (Val.load1 10 rfl Tryz.underlying31 rfl rfl rfl) rfl rfl rfl (go ?_)
      refine SP.callI (vals := [.bool (decide (t92.2.1 = (b_0.length : Int)))]) (caps := [.pointer (some ⟨b15, 0, none⟩)]) 9 Tryz.func112 fn112 rfl rfl rfl rfl rfl rfl fun a99 ha_a99 => go ?_
      refine SP.jn 3 [1] 8 (.bool ((decide (t92.2.2 = 0)) && (!(decide (t92.2.1 = (b_0.length : Int)))))) ?_ ?_
      ·refine go ?_
       refine CP.cb ho (fun ho => ?_) fun ho => ?_
       ·refine go ?_
        refine SP.store (v := .int .i64 80) (vs := [.int .i64 80]) 5 (by rfl) sz28 (by rfl) (by rfl) (by rfl) (by rfl) (by rfl) (by rfl) (go ?_)
        refine QE.endI (m := ⟨9, []⟩) (rs := []) (vs := []) ha_a99 rfl Tryz.results112 trivial (go ?_)
        refine QE.endI (m := ⟨26, []⟩) (rs := []) (vs := []) ha_a90 rfl Tryz.results119 trivial ?_
        refine SP.nil ?_
        refine QE.then ?_
        refine CP.seq ?_
        refine CP.region ?_
        refine SP.val (Val.load1 5 rfl Tryz.underlying28 rfl rfl rfl) rfl rfl rfl ?_
        refine SP.val (Val.cast (v := .bool true) (Val.neq rfl rfl) rfl) rfl rfl rfl (go ?_)
        refine CP.condT rfl rfl (go ?_)
        exact QE.meet fun a w2 ha hw => ⟨t22, 80, t29.1, l72, t92.1, v23, v30, v73, m74, _, (by omega), ho, hr, ha.sub sb, (St.selP [] rfl (St.selO [0, 1, 2, 5, 8, 9] rfl rfl hw))⟩
       refine go ?_
       refine QE.endI (m := ⟨9, []⟩) (rs := []) (vs := []) ha_a99 rfl Tryz.results112 trivial (go ?_)
       refine QE.endI (m := ⟨26, []⟩) (rs := []) (vs := []) ha_a90 rfl Tryz.results119 trivial (go ?_)
       refine CP.ci ho (fun ho => ?_) fun ho => ?_
       ·refine go ?_
        exact QE.meet fun a w2 ha hw => ⟨t22, t92.2.2, t29.1, l72, t92.1, v23, v30, v73, m74, _, (by omega), ho, hr, ha.sub sb, (St.selP [] rfl (St.selO [0, 1, 2, 5, 8, 9] rfl rfl hw))⟩
       refine CP.skip ?_
       refine QE.blockN ?_
       refine QE.then ?_
       refine CP.region ?_
       refine SP.val (Val.cast (v := .int .i64 5) (Val.add rfl rfl) rfl) rfl rfl rfl (go ?_)
       refine QE.round ?_
       refine LP.step ?_
       refine CP.seq ?_
       refine CP.region ?_
       refine SP.val (Val.cast (v := .bool false) (Val.lss rfl rfl) rfl) rfl rfl rfl (go ?_)
       refine CP.seq ?_
       refine CP.condF rfl rfl (go ?_)
       exact QE.meet fun a w2 ha hw => ⟨t22, t92.2.2, t29.1, l72, t92.1, v23, v30, v73, m74, _, (by omega), ho, hr, ha.sub sb, (St.selP [] rfl (St.selO [0, 1, 2, 5, 8, 9] rfl rfl hw))⟩
      refine SP.bb 5 (fun hq101 => ?_) fun hq101 => ?_
      ·refine go ?_
       exact QE.jb (and_t hq101 rfl) fun w2 hw => hw
      refine go ?_
      exact QE.jb (and_f hq101) fun w2 hw => hw
     refine SP.bb 5 (fun hq97 => ?_) fun hq97 => ?_
     ·refine go ?_
      exact QE.jb (and_t hq97 rfl) fun w2 hw => hw
     refine go ?_
     exact QE.jb (and_f hq97) fun w2 hw => hw
    refine SP.bb 14 (fun hq94 => ?_) fun hq94 => ?_
    ·refine go ?_
     exact QE.jb (or_t hq94) fun w2 hw => hw
    refine go ?_
    exact QE.jb (or_f hq94 rfl) fun w2 hw => hw
   refine SP.bb 10 (fun hq76 => ?_) fun hq76 => ?_
   ·refine go ?_
    exact QE.jb (and_t hq76 rfl) fun w2 hw => hw
   refine go ?_
   exact QE.jb (and_f hq76) fun w2 hw => hw
  refine SP.bb 5 (fun hq37 => ?_) fun hq37 => ?_
  ·refine go ?_
   exact QE.jb (and_t hq37 rfl) fun w2 hw => hw
  refine go ?_
  exact QE.jb (and_f hq37) fun w2 hw => hw
 refine SP.bb 5 (fun hq27 => ?_) fun hq27 => ?_
 ·refine go ?_
  exact QE.jb (and_t hq27 rfl) fun w2 hw => hw
 refine go ?_
 exact QE.jb (and_f hq27) fun w2 hw => hw
def verify_Load.f (b_0 : (List Int)) : Option (api_Module × (List api_Cert) × Int) :=
  (module_Parse.f b_0).bind fun t4 => if t4.2 ≠ 0 then (some ((⟨[], [], [], 0⟩ : api_Module), [], t4.2)) else ((verify_Accept.f t4.1).bind fun t17 => if t17.2 ≠ 0 then (some ((⟨[], [], [], 0⟩ : api_Module), [], t17.2)) else (some (t4.1, t17.1, 0)))
theorem verify_Load.ok (b_0 : (List Int)) (v_b_0 : Value)  (r : api_Module × (List api_Cert) × Int) (H : verify_Load.f b_0 = some r) (w : World) (hV : Hp) (sV : Sub hV (hp w)) (h0 : slR (kInt .u8) hV v_b_0 b_0) (h1 : (arrP k_arr245 0 tab0).p hV) :
    Trip Tryz.prog 27 [v_b_0].toArray em hV w (fun v => HO.ex fun u0 : Value => HO.ex fun u1 : Value => HO.ex fun u2 : Value => HO.ex fun u3 : Value => HO.pand (v = .tuple #[.agg #[u0, u1, u2, .int .i64 r.1.Migrate], u3, .int .i64 r.2.2]) (HO.seps [slO k_api_Value 100 u0 r.1.Globals, slO k_api_Value 100 u1 r.1.Pool, slO k_api_Method 34 u2 r.1.Methods, slO k_api_Cert 45 u3 r.2.1])) := by
 refine Trip.go 28 Tryz.func27 sV (aS h0 (All.cons (x := arrP k_arr245 0 tab0) h1 (All.nil _))) fun see => ?_
 have ho := H
 refine go ?_
 refine SP.alloc (cs := [(.slice none 0 0), (.slice none 0 0), (.slice none 0 0), .int .i64 0]) inf25 rfl rfl (fun b2 => go ?_)
 obtain ⟨t4, hc, ho⟩ := bind_some ho
 refine SP.callK see (caps := []) _ fn59 rfl rfl rfl rfl (fun w2 hP hs sub ap => module_Parse.ok _ _ _ hc w2 hP sub (ap.get 0 rfl)) (SP.k3 fun v5 v6 v7 => ?_)
 clear hc
 refine go ?_
 refine SP.alloc (cs := [(.slice none 0 0), (.slice none 0 0), (.slice none 0 0), .int .i64 0]) inf25 rfl rfl (fun b11 => ?_)
 refine SP.have (fun w2 hw => slO.shape (St.own 1 rfl see.sub see.dj hw)) (fun hs_v5 => ?_)
 refine SP.have (fun w2 hw => slO.shape (St.own 2 rfl see.sub see.dj hw)) (fun hs_v6 => ?_)
 refine SP.have (fun w2 hw => slO.shape (St.own 3 rfl see.sub see.dj hw)) (fun hs_v7 => ?_)
 refine SP.store (v := .agg #[v5, v6, v7, .int .i64 t4.1.Migrate]) (vs := [v5, v6, v7, .int .i64 t4.1.Migrate]) 0 (by rfl) sz25 (by rfl) (by rfl) (by rfl) (by rfl) (one_cons hs_v5 (one_cons hs_v6 (one_cons hs_v7 (one_cons rfl (rfl))))) (by rfl) (go ?_)
 refine CP.seq (go ?_)
 refine CP.ci ho (fun ho => ?_) fun ho => ?_
 ·refine go ?_
  refine SP.val (Val.buildC (us := []) (ucs := []) (cs := [(.slice none 0 0), (.slice none 0 0), (.slice none 0 0), .int .i64 0]) bt25 rfl rfl trivial (by rfl)) rfl rfl rfl (go ?_)
  refine SP.store (v := .agg #[(.slice none 0 0), (.slice none 0 0), (.slice none 0 0), .int .i64 0]) (vs := [(.slice none 0 0), (.slice none 0 0), (.slice none 0 0), .int .i64 0]) 4 (by rfl) sz25 (by rfl) (by rfl) (by rfl) (by rfl) (by rfl) (by rfl) (go ?_)
  obtain rfl := Option.some.inj ho
  exact QE.rt (fun _ h => St.selO [3, 2, 1, 0] rfl rfl (St.addO (slO.nil k_api_Cert 45) (St.addO (slO.nil k_api_Method 34) (St.addO (slO.nil k_api_Value 100) (St.addO (slO.nil k_api_Value 100) h))))) (rs := [.cell 2 25, .tmp 3, .tmp 4]) (vs := [.agg #[(.slice none 0 0), (.slice none 0 0), (.slice none 0 0), .int .i64 0], (.slice none 0 0), .int .i64 t4.2]) (hv := ⟨RVs.cellA 4 rfl rfl Tryz.underlying25 rfl sz25, RVs.tmp rfl, RVs.tmp rfl, trivial⟩) (hk := fun a b p s => ⟨_, _, _, _, rfl, s⟩)
 refine go ?_
 refine SP.val (Val.loadA 0 rfl Tryz.underlying25 rfl sz25 rfl rfl rfl) rfl rfl rfl ?_
 obtain ⟨t17, hc, ho⟩ := bind_some ho
 refine SP.callKO see (caps := []) _ fn17 rfl rfl rfl rfl (fun w2 hs => verify_Accept.ok _ _ _ _ _ hc w2 (hp w2) (Sub.refl _) (slO.read (St.own 1 rfl see.sub see.dj hs) (Sub.refl _) (Sub.refl _)) (slO.read (St.own 2 rfl see.sub see.dj hs) (Sub.refl _) (Sub.refl _)) (slO.read (St.own 3 rfl see.sub see.dj hs) (Sub.refl _) (Sub.refl _)) ((St.pers 1 rfl see.sub see.dj hs))) (fun v a a2 b ⟨v18, e, h⟩ => ⟨v18, e, (Sep.fcons (fun _ => slO.flip (fun _ _ _ _ h => h)) (fun _ => Sep.fnil)) h⟩) (SP.k1 fun v18 => ?_)
 clear hc
 refine go ?_
 refine CP.seq (go ?_)
 refine CP.ci ho (fun ho => ?_) fun ho => ?_
 ·refine go ?_
  refine SP.val (Val.buildC (us := []) (ucs := []) (cs := [(.slice none 0 0), (.slice none 0 0), (.slice none 0 0), .int .i64 0]) bt25 rfl rfl trivial (by rfl)) rfl rfl rfl (go ?_)
  refine SP.store (v := .agg #[(.slice none 0 0), (.slice none 0 0), (.slice none 0 0), .int .i64 0]) (vs := [(.slice none 0 0), (.slice none 0 0), (.slice none 0 0), .int .i64 0]) 5 (by rfl) sz25 (by rfl) (by rfl) (by rfl) (by rfl) (by rfl) (by rfl) (go ?_)
  obtain rfl := Option.some.inj ho
  exact QE.rt (fun _ h => St.selO [3, 2, 1, 0] rfl rfl (St.addO (slO.nil k_api_Cert 45) (St.addO (slO.nil k_api_Method 34) (St.addO (slO.nil k_api_Value 100) (St.addO (slO.nil k_api_Value 100) h))))) (rs := [.cell 2 25, .tmp 3, .tmp 4]) (vs := [.agg #[(.slice none 0 0), (.slice none 0 0), (.slice none 0 0), .int .i64 0], (.slice none 0 0), .int .i64 t17.2]) (hv := ⟨RVs.cellA 5 rfl rfl Tryz.underlying25 rfl sz25, RVs.tmp rfl, RVs.tmp rfl, trivial⟩) (hk := fun a b p s => ⟨_, _, _, _, rfl, s⟩)
 refine go ?_
 refine SP.val (Val.loadA 1 rfl Tryz.underlying25 rfl sz25 rfl rfl rfl) rfl rfl rfl (go ?_)
 refine SP.have (fun w2 hw => slO.shape (St.own 2 rfl see.sub see.dj hw)) (fun hs_v5 => ?_)
 refine SP.have (fun w2 hw => slO.shape (St.own 3 rfl see.sub see.dj hw)) (fun hs_v6 => ?_)
 refine SP.have (fun w2 hw => slO.shape (St.own 4 rfl see.sub see.dj hw)) (fun hs_v7 => ?_)
 refine SP.store (v := .agg #[v5, v6, v7, .int .i64 t4.1.Migrate]) (vs := [v5, v6, v7, .int .i64 t4.1.Migrate]) 5 (by rfl) sz25 (by rfl) (by rfl) (by rfl) (by rfl) (one_cons hs_v5 (one_cons hs_v6 (one_cons hs_v7 (one_cons rfl (rfl))))) (by rfl) (go ?_)
 obtain rfl := Option.some.inj ho
 exact QE.rt (fun _ h => St.selO [2, 3, 4, 0] rfl rfl h) (rs := [.cell 2 25, .tmp 3, .tmp 4]) (vs := [.agg #[v5, v6, v7, .int .i64 t4.1.Migrate], v18, .int .i64 0]) (hv := ⟨RVs.cellA 5 rfl rfl Tryz.underlying25 rfl sz25, RVs.tmp rfl, RVs.tmp rfl, trivial⟩) (hk := fun a b p s => ⟨_, _, _, _, rfl, s⟩)
def verify_Blame.f (m_0 : api_Module) : Option Int :=
  (verify_stands.f m_0).bind fun t6 => if t6.1 ≠ 2 then (some (-1)) else ((verify_first.f m_0).bind fun t7 => some t7.1)
theorem verify_Blame.ok (m_0 : api_Module) (v_m_0_Globals v_m_0_Pool v_m_0_Methods : Value)  (r : Int) (H : verify_Blame.f m_0 = some r) (w : World) (hV : Hp) (sV : Sub hV (hp w)) (h0 : slR k_api_Value hV v_m_0_Globals m_0.Globals) (h1 : slR k_api_Value hV v_m_0_Pool m_0.Pool) (h2 : slR k_api_Method hV v_m_0_Methods m_0.Methods) (h3 : (arrP k_arr245 0 tab0).p hV) :
    Trip Tryz.prog 18 [.agg #[v_m_0_Globals, v_m_0_Pool, v_m_0_Methods, .int .i64 m_0.Migrate]].toArray em hV w (fun v => HO.pure (v = .int .i64 r)) := by
 refine Trip.go 20 Tryz.func18 sV (aS h0 (aS h1 (aS h2 (All.cons (x := arrP k_arr245 0 tab0) h3 (All.nil _))))) fun see => ?_
 have ho := H
 refine go ?_
 refine SP.box rfl rfl rfl rfl fun b4 => go ?_
 refine CP.seq (go ?_)
 refine SP.val (Val.loadA 0 rfl Tryz.underlying25 rfl sz25 rfl rfl rfl) rfl rfl rfl ?_
 obtain ⟨t6, hc, ho⟩ := bind_some ho
 refine SP.callV see (caps := []) (.tuple #[.int .i64 t6.1, .int .i64 t6.2]) fn41 rfl rfl rfl rfl (fun w2 hP hs sub ap => verify_stands.ok _ _ _ _ _ hc w2 hP sub (ap.get 0 rfl) (ap.get 1 rfl) (ap.get 2 rfl) (ap.get 3 rfl)) ?_
 clear hc
 refine go ?_
 refine CP.ci ho (fun ho => ?_) fun ho => ?_
 ·refine go ?_
  obtain rfl := Option.some.inj ho
  exact QE.rt (fun _ h => h)
 refine go ?_
 refine SP.val (Val.loadA 0 rfl Tryz.underlying25 rfl sz25 rfl rfl rfl) rfl rfl rfl ?_
 obtain ⟨t7, hc, ho⟩ := bind_some ho
 refine SP.callV see (caps := []) (.tuple #[.int .i64 t7.1, .int .i64 t7.2]) fn42 rfl rfl rfl rfl (fun w2 hP hs sub ap => verify_first.ok _ _ _ _ _ hc w2 hP sub (ap.get 0 rfl) (ap.get 1 rfl) (ap.get 2 rfl) (ap.get 3 rfl)) ?_
 clear hc
 refine go ?_
 obtain rfl := Option.some.inj ho
 exact QE.rt (fun _ h => h)
def capstanlaw14_awake.f  : Option Bool :=
  (capstanlaw14_small.f 2).bind fun t1 => (verify_Accept.f t1).bind fun t8 => (capstanlaw14_small.f 2).bind fun t11 => (elt t11.Methods 0).bind fun x21 => if (0 : Int) ≤ 1 ∧ 1 ≤ (x21.Code.length : Int) then ((elt t11.Methods 0).bind fun x32 => (capstanlaw14_small.f 2).bind fun t34 => (elt t34.Methods 0).bind fun x46 => (verify_Load.f ([0, 0, 0, 255] : List Int)).bind fun t50 => (if ((decide (t8.2 = 0)) && (decide ((t8.1.length : Int) = 1))) = true then ((elt t8.1 0).bind fun x66 => some (x66.Fuel == 2 && (x66.Stack == 1 && (x66.Heap == 0)))) else (some false)).bind fun t67 => (if t67 = true then ((capstanlaw14_small.f 1).bind fun t70 => (verify_May.f t70).bind fun t77 => some (decide (t77 = 120))) else (some false)).bind fun t78 => (if t78 = true then ((verify_May.f (⟨t11.Globals, t11.Pool, t11.Methods.set (0 : Int).toNat ({ x32 with Code := (x21.Code.drop (1 : Int).toNat) } : api_Method), t11.Migrate⟩ : api_Module)).bind fun t81 => some (decide (t81 = 101))) else (some false)).bind fun t82 => (if t82 = true then ((verify_Blame.f (⟨t11.Globals, t11.Pool, t11.Methods.set (0 : Int).toNat ({ x32 with Code := (x21.Code.drop (1 : Int).toNat) } : api_Method), t11.Migrate⟩ : api_Module)).bind fun t85 => some (decide (t85 = 0))) else (some false)).bind fun t86 => (if t86 = true then ((verify_May.f (⟨t34.Globals, t34.Pool, t34.Methods.set (0 : Int).toNat ({ x46 with Args := [3] } : api_Method), 0⟩ : api_Module)).bind fun t89 => some (decide (t89 = 70))) else (some false)).bind fun t90 => some ((((t90 && (decide (t50.2.2 = 0))) && (decide ((t50.2.1.length : Int) = 0))) && (decide (t50.1.Migrate = (-1)))) && (decide ((t50.1.Methods.length : Int) = 0)))) else none
theorem capstanlaw14_awake.ok   (r : Bool) (H : capstanlaw14_awake.f  = some r) (w : World) (hV : Hp) (sV : Sub hV (hp w)) (h0 : (arrP k_arr245 0 tab0).p hV) :
    Trip Tryz.prog 8 [].toArray em hV w (fun v => HO.pure (v = .bool r)) := by
 refine Trip.go 91 Tryz.func8 sV (All.cons (x := arrP k_arr245 0 tab0) h0 (All.nil _)) fun see => ?_
 have ho := H
 refine go ?_
 obtain ⟨t1, hc, ho⟩ := bind_some (x := capstanlaw14_small.f 2) ho
 refine SP.callK see (caps := []) _ fn29 rfl rfl rfl rfl (fun w2 hP hs sub ap => capstanlaw14_small.ok _  _ hc w2 hP sub ) (SP.k3 fun v2 v3 v4 => ?_)
 clear hc
 obtain ⟨t8, hc, ho⟩ := bind_some ho
 refine SP.callKO see (caps := []) _ fn17 rfl rfl rfl rfl (fun w2 hs => verify_Accept.ok _ _ _ _ _ hc w2 (hp w2) (Sub.refl _) (slO.read (St.own 0 rfl see.sub see.dj hs) (Sub.refl _) (Sub.refl _)) (slO.read (St.own 1 rfl see.sub see.dj hs) (Sub.refl _) (Sub.refl _)) (slO.read (St.own 2 rfl see.sub see.dj hs) (Sub.refl _) (Sub.refl _)) ((St.pers 0 rfl see.sub see.dj hs))) (fun v a a2 b ⟨v9, e, h⟩ => ⟨v9, e, (Sep.fcons (fun _ => slO.flip (fun _ _ _ _ h => h)) (fun _ => Sep.fnil)) h⟩) (SP.k1 fun v9 => ?_)
 clear hc
 refine go ?_
 obtain ⟨t11, hc, ho⟩ := bind_some (x := capstanlaw14_small.f 2) ho
 refine SP.callK see (caps := []) _ fn29 rfl rfl rfl rfl (fun w2 hP hs sub ap => capstanlaw14_small.ok _  _ hc w2 hP sub ) (SP.k3 fun v12 v13 v14 => ?_)
 clear hc
 refine SP.alloc (cs := [(.slice none 0 0), (.slice none 0 0), (.slice none 0 0), .int .i64 0]) inf25 rfl rfl (fun b18 => ?_)
 refine SP.have (fun w2 hw => slO.shape (St.own 1 rfl see.sub see.dj hw)) (fun hs_v12 => ?_)
 refine SP.have (fun w2 hw => slO.shape (St.own 2 rfl see.sub see.dj hw)) (fun hs_v13 => ?_)
 refine SP.have (fun w2 hw => slO.shape (St.own 3 rfl see.sub see.dj hw)) (fun hs_v14 => ?_)
 refine SP.store (v := .agg #[v12, v13, v14, .int .i64 t11.Migrate]) (vs := [v12, v13, v14, .int .i64 t11.Migrate]) 0 (by rfl) sz25 (by rfl) (by rfl) (by rfl) (by rfl) (one_cons hs_v12 (one_cons hs_v13 (one_cons hs_v14 (one_cons rfl (rfl))))) (by rfl) (go ?_)
 refine CP.seq ?_
 refine CP.drawA (by kernel_rfl) (fun w2 k h => h.drawn k) ?_
 obtain ⟨x21, hx_x21, ho⟩ := elt_bind ho
 refine DA.ghost (fun w2 hw => let ⟨z, hz⟩ := ixC ((fun w2 hw => slO.whole (St.own 3 rfl see.sub see.dj hw)) w2 hw) hx_x21.1 hx_x21.2; ⟨z, hz, hw⟩) (fun p20 i_p20 => ?_)
 have h_p20 := i_p20.1
 obtain ⟨p22, h_p22⟩ := PtC.more h_p20 7
 refine DA.ph 0 8 ?_
 refine DT.tk 0 ?_
 refine DT.tk 1 ?_
 refine DT.tk 2 ?_
 refine DT.tk 3 ?_
 refine DT.tv 4 rfl (Val.indexC' i_p20 Tryz.underlying23 sz34 rfl rfl) ?_
 refine DT.tv 5 rfl (Val.fieldC h_p20 h_p22 Tryz.underlying34 rfl rfl sz32 rfl) ?_
 refine DT.one 6 rfl (by kernel_rfl) rfl ?_
 refine SP.loadOS (j := 0) see 3 7 rfl hx_x21.2 h_p22 (fun _ _ ⟨v0_, v1_, v2_, e, p0_, p1_, p2_⟩ => ⟨v2_, by subst e; rfl, p2_⟩) Tryz.underlying32 rfl rfl rfl (fun v27 => go ?_)
 refine QE.atT (fun w2 hw => (St.selP [1] rfl hw)) ?_
 refine DT.one 7 rfl (by kernel_rfl) rfl ?_
 obtain ⟨hz, ho⟩ := must_some ho
 refine SP.sliceFromP see 0 rfl Tryz.underlying32 sz43 rfl rfl hz rfl rfl (fun v29 => ?_)
 clear hz
 refine go ?_
 refine QE.atT (fun w2 hw => (St.selP [2] rfl hw)) ?_
 refine DT.next (by kernel_rfl) ?_
 refine DA.one 8 rfl (by kernel_rfl) ?_
 obtain ⟨x32, hx_x32, ho⟩ := elt_bind ho
 refine SP.indexW (fun w2 hw => slO.whole (St.own 3 rfl see.sub see.dj hw)) Tryz.underlying23 sz34 hx_x32.1 hx_x32.2 rfl rfl rfl rfl (fun p31 h_p31 => go ?_)
 refine QE.atA ?_
 refine DA.one 9 rfl (by kernel_rfl) ?_
 refine SP.fieldO h_p31 Tryz.underlying34 rfl sz32 rfl rfl rfl (fun p33 h_p33 => go ?_)
 refine QE.atA ?_
 refine DA.one 10 rfl (by kernel_rfl) ?_
 refine SP.have (fun w2 hw => slR.shape (St.pers 0 rfl see.sub see.dj hw)) (fun hs_v29 => ?_)
 refine SP.storeO (z0 := ({ x32 with Code := (x21.Code.drop (1 : Int).toNat) } : api_Method)) (off := 7) (vs := [v29]) see 3 rfl hx_x32.2 h_p33 (one_cells hs_v29) (one_cons hs_v29 (rfl)) sz32 rfl (fun a cs ap r => by obtain ⟨v0_, v1_, v2_, e, p0_, p1_, p2_⟩ := r; subst e; exact ⟨v0_, v1_, v29, rfl, p0_, p1_, ap.get 0 rfl⟩) rfl rfl rfl (go ?_)
 refine QE.atA ?_
 refine DA.done (by kernel_rfl) (go ?_)
 obtain ⟨t34, hc, ho⟩ := bind_some (x := capstanlaw14_small.f 2) ho
 refine SP.callK see (caps := []) _ fn29 rfl rfl rfl rfl (fun w2 hP hs sub ap => capstanlaw14_small.ok _  _ hc w2 hP sub ) (SP.k3 fun v35 v36 v37 => ?_)
 clear hc
 refine SP.alloc (cs := [(.slice none 0 0), (.slice none 0 0), (.slice none 0 0), .int .i64 0]) inf25 rfl rfl (fun b41 => ?_)
 refine SP.have (fun w2 hw => slO.shape (St.own 1 rfl see.sub see.dj hw)) (fun hs_v35 => ?_)
 refine SP.have (fun w2 hw => slO.shape (St.own 2 rfl see.sub see.dj hw)) (fun hs_v36 => ?_)
 refine SP.have (fun w2 hw => slO.shape (St.own 3 rfl see.sub see.dj hw)) (fun hs_v37 => ?_)
 refine SP.store (v := .agg #[v35, v36, v37, .int .i64 t34.Migrate]) (vs := [v35, v36, v37, .int .i64 t34.Migrate]) 0 (by rfl) sz25 (by rfl) (by rfl) (by rfl) (by rfl) (one_cons hs_v35 (one_cons hs_v36 (one_cons hs_v37 (one_cons rfl (rfl))))) (by rfl) (go ?_)
 refine SP.store (v := .int .i64 0) (vs := [.int .i64 0]) 0 (by rfl) sz3 (by rfl) (by rfl) (by rfl) (by rfl) (by rfl) (by rfl) (go ?_)
 refine SP.lit (k := (kInt .u8)) (xs := [3]) (vs := [.int .u8 3]) (cells := [.int .u8 3]) Tryz.underlying31 inf5 rfl rfl rfl rfl rfl rfl rfl rfl (fun _ ap => ⟨[.int .u8 3], _, rfl, rfl, rfl⟩) rfl rfl rfl (fun v43 => ?_)
 obtain ⟨x46, hx_x46, ho⟩ := elt_bind ho
 refine SP.indexW (fun w2 hw => slO.whole (St.own 4 rfl see.sub see.dj hw)) Tryz.underlying23 sz34 hx_x46.1 hx_x46.2 rfl rfl rfl rfl (fun p45 h_p45 => ?_)
 refine SP.fieldO h_p45 Tryz.underlying34 rfl sz31 rfl rfl rfl (fun p47 h_p47 => ?_)
 refine SP.freezeS see 0 rfl ?_
 refine SP.have (fun w2 hw => slR.shape (St.pers 0 rfl see.sub see.dj hw)) (fun hs_v43 => ?_)
 refine SP.storeO (z0 := ({ x46 with Args := [3] } : api_Method)) (off := 0) (vs := [v43]) see 3 rfl hx_x46.2 h_p47 (one_cells hs_v43) (one_cons hs_v43 (rfl)) sz31 rfl (fun a cs ap r => by obtain ⟨v0_, v1_, v2_, e, p0_, p1_, p2_⟩ := r; subst e; exact ⟨v43, v1_, v2_, rfl, ap.get 0 rfl, p1_, p2_⟩) rfl rfl rfl (go ?_)
 refine SP.lit (k := (kInt .u8)) (xs := ([0, 0, 0, 255] : List Int)) (vs := [.int .u8 0, .int .u8 0, .int .u8 0, .int .u8 255]) (cells := [.int .u8 0, .int .u8 0, .int .u8 0, .int .u8 255]) Tryz.underlying31 inf5 rfl rfl rfl rfl rfl rfl rfl rfl (fun _ ap => ⟨[.int .u8 0], _, rfl, rfl, ⟨[.int .u8 0], _, rfl, rfl, ⟨[.int .u8 0], _, rfl, rfl, ⟨[.int .u8 255], _, rfl, rfl, rfl⟩⟩⟩⟩) rfl rfl rfl (fun v48 => ?_)
 refine SP.freezeS see 0 rfl ?_
 obtain ⟨t50, hc, ho⟩ := bind_some (x := verify_Load.f ([0, 0, 0, 255] : List Int)) ho
 refine SP.callK see (caps := []) _ fn27 rfl rfl rfl rfl (fun w2 hP hs sub ap => verify_Load.ok _ _ _ hc w2 hP sub (ap.get 0 rfl) (ap.get 4 rfl)) (fun vr => ?_)
 refine SP.ex (fun w2 h => St.open h) (fun v51 => ?_)
 refine SP.ex (fun w2 h => St.open h) (fun v52 => ?_)
 refine SP.ex (fun w2 h => St.open h) (fun v53 => ?_)
 refine SP.ex (fun w2 h => St.open h) (fun v54 => ?_)
 refine SP.have (fun w2 h => (St.pand h).1.symm) (fun er => ?_)
 subst er
 refine SP.imp (fun w2 h => St.seps (St.pand h).2) ?_
 clear hc
 refine go ?_
 refine SP.alloc (cs := [(.slice none 0 0), (.slice none 0 0), (.slice none 0 0), .int .i64 0]) inf25 rfl rfl (fun b59 => ?_)
 refine SP.have (fun w2 hw => slO.shape (St.own 1 rfl see.sub see.dj hw)) (fun hs_v51 => ?_)
 refine SP.have (fun w2 hw => slO.shape (St.own 2 rfl see.sub see.dj hw)) (fun hs_v52 => ?_)
 refine SP.have (fun w2 hw => slO.shape (St.own 3 rfl see.sub see.dj hw)) (fun hs_v53 => ?_)
 refine SP.store (v := .agg #[v51, v52, v53, .int .i64 t50.1.Migrate]) (vs := [v51, v52, v53, .int .i64 t50.1.Migrate]) 0 (by rfl) sz25 (by rfl) (by rfl) (by rfl) (by rfl) (one_cons hs_v51 (one_cons hs_v52 (one_cons hs_v53 (one_cons rfl (rfl))))) (by rfl) (go ?_)
 refine SP.jn 4 [1, 3, 4, 5, 6, 7] 43 (.bool ((decide (t8.2 = 0)) && (decide ((t8.1.length : Int) = 1)))) ?_ ?_
 ·refine go ?_
  obtain ⟨t67, hg_t67, ho⟩ := bind_some ho
  refine SP.jn 6 [3, 4, 5, 6, 7] 50 (.bool t67) ?_ ?_
  ·clear hg_t67
   refine go ?_
   obtain ⟨t78, hg_t78, ho⟩ := bind_some ho
   refine SP.jn 4 [3, 4, 5, 6, 7] 55 (.bool t78) ?_ ?_
   ·clear hg_t78
    refine go ?_
    obtain ⟨t82, hg_t82, ho⟩ := bind_some ho
    refine SP.jn 4 [3, 4, 5, 6, 7] 60 (.bool t82) ?_ ?_
    ·clear hg_t82
     refine go ?_
     obtain ⟨t86, hg_t86, ho⟩ := bind_some ho
     refine SP.jn 4 [4, 5, 6, 7] 65 (.bool t86) ?_ ?_
     ·clear hg_t86
      refine go ?_
      obtain ⟨t90, hg_t90, ho⟩ := bind_some ho
      refine SP.jn 4 [5, 6, 7] 70 (.bool t90) ?_ ?_
      ·clear hg_t90
       refine go ?_
       refine SP.jn 3 [5, 6] 74 (.bool (t90 && (decide (t50.2.2 = 0)))) ?_ ?_
       ·refine go ?_
        refine SP.jn 4 [5] 79 (.bool ((t90 && (decide (t50.2.2 = 0))) && (decide ((t50.2.1.length : Int) = 0)))) ?_ ?_
        ·refine go ?_
         refine SP.jn 4 [5] 84 (.bool (((t90 && (decide (t50.2.2 = 0))) && (decide ((t50.2.1.length : Int) = 0))) && (decide (t50.1.Migrate = (-1))))) ?_ ?_
         ·refine go ?_
          refine SP.jn 5 [] 90 (.bool ((((t90 && (decide (t50.2.2 = 0))) && (decide ((t50.2.1.length : Int) = 0))) && (decide (t50.1.Migrate = (-1)))) && (decide ((t50.1.Methods.length : Int) = 0)))) ?_ ?_
          ·refine go ?_
           obtain rfl := Option.some.inj ho
           exact QE.rt (fun _ h => h)
          refine SP.bb 85 (fun hq98 => ?_) fun hq98 => ?_
          ·refine go ?_
           refine SP.val (Val.lenW (fun w2 hw => slO.whole (St.own 3 rfl see.sub see.dj hw)) Tryz.underlying23 rfl) rfl rfl rfl (go ?_)
           exact QE.jb (and_t hq98 rfl) fun w2 hw => hw
          refine go ?_
          exact QE.jb (and_f hq98) fun w2 hw => hw
         refine SP.bb 80 (fun hq96 => ?_) fun hq96 => ?_
         ·refine go ?_
          exact QE.jb (and_t hq96 rfl) fun w2 hw => hw
         refine go ?_
         exact QE.jb (and_f hq96) fun w2 hw => hw
        refine SP.bb 75 (fun hq94 => ?_) fun hq94 => ?_
        ·refine go ?_
         refine SP.val (Val.lenW (fun w2 hw => slO.whole (St.own 4 rfl see.sub see.dj hw)) Tryz.underlying37 rfl) rfl rfl rfl (go ?_)
         exact QE.jb (and_t hq94 rfl) fun w2 hw => hw
        refine go ?_
        exact QE.jb (and_f hq94) fun w2 hw => hw
       refine SP.bb 71 (fun hq92 => ?_) fun hq92 => ?_
       ·refine go ?_
        exact QE.jb (and_t hq92 rfl) fun w2 hw => hw
       refine go ?_
       exact QE.jb (and_f hq92) fun w2 hw => hw
      refine SP.cb 66 hg_t90 (fun hq88 ho => ?_) fun hq88 ho => ?_
      ·refine SP.val (Val.loadA 5 rfl Tryz.underlying25 rfl sz25 rfl rfl rfl) rfl rfl rfl ?_
       obtain ⟨t89, hc, ho⟩ := bind_some ho
       refine SP.callVO see (caps := []) (.int .i64 t89) fn19 rfl rfl rfl rfl (fun w2 hs => verify_May.ok _ _ _ _ _ hc w2 (hp w2) (Sub.refl _) (slO.read (St.own 6 rfl see.sub see.dj hs) (Sub.refl _) (Sub.refl _)) (slO.read (St.own 7 rfl see.sub see.dj hs) (Sub.refl _) (Sub.refl _)) (slO.read (St.own 8 rfl see.sub see.dj hs) (Sub.refl _) (Sub.refl _)) ((St.pers 4 rfl see.sub see.dj hs))) ?_
       clear hc
       refine go ?_
       obtain rfl := Option.some.inj ho
       exact QE.jn fun w2 hw => hw
      refine go ?_
      obtain rfl := Option.some.inj ho
      exact QE.jn fun w2 hw => hw
     refine SP.cb 61 hg_t86 (fun hq84 ho => ?_) fun hq84 ho => ?_
     ·refine SP.val (Val.loadA 9 rfl Tryz.underlying25 rfl sz25 rfl rfl rfl) rfl rfl rfl ?_
      obtain ⟨t85, hc, ho⟩ := bind_some ho
      refine SP.callVO see (caps := []) (.int .i64 t85) fn18 rfl rfl rfl rfl (fun w2 hs => verify_Blame.ok _ _ _ _ _ hc w2 (hp w2) (Sub.refl _) (slO.read (St.own 10 rfl see.sub see.dj hs) (Sub.refl _) (Sub.refl _)) (slO.read (St.own 11 rfl see.sub see.dj hs) (Sub.refl _) (Sub.refl _)) (slO.read (St.own 12 rfl see.sub see.dj hs) (Sub.refl _) (Sub.refl _)) ((St.pers 4 rfl see.sub see.dj hs))) ?_
      clear hc
      refine go ?_
      obtain rfl := Option.some.inj ho
      exact QE.jn fun w2 hw => hw
     refine go ?_
     obtain rfl := Option.some.inj ho
     exact QE.jn fun w2 hw => hw
    refine SP.cb 56 hg_t82 (fun hq80 ho => ?_) fun hq80 ho => ?_
    ·refine SP.val (Val.loadA 9 rfl Tryz.underlying25 rfl sz25 rfl rfl rfl) rfl rfl rfl ?_
     obtain ⟨t81, hc, ho⟩ := bind_some ho
     refine SP.callVO see (caps := []) (.int .i64 t81) fn19 rfl rfl rfl rfl (fun w2 hs => verify_May.ok _ _ _ _ _ hc w2 (hp w2) (Sub.refl _) (slO.read (St.own 10 rfl see.sub see.dj hs) (Sub.refl _) (Sub.refl _)) (slO.read (St.own 11 rfl see.sub see.dj hs) (Sub.refl _) (Sub.refl _)) (slO.read (St.own 12 rfl see.sub see.dj hs) (Sub.refl _) (Sub.refl _)) ((St.pers 4 rfl see.sub see.dj hs))) ?_
     clear hc
     refine go ?_
     obtain rfl := Option.some.inj ho
     exact QE.jn fun w2 hw => hw
    refine go ?_
    obtain rfl := Option.some.inj ho
    exact QE.jn fun w2 hw => hw
   refine SP.cb 51 hg_t78 (fun hq69 ho => ?_) fun hq69 ho => ?_
   ·obtain ⟨t70, hc, ho⟩ := bind_some (x := capstanlaw14_small.f 1) ho
    refine SP.callK see (caps := []) _ fn29 rfl rfl rfl rfl (fun w2 hP hs sub ap => capstanlaw14_small.ok _  _ hc w2 hP sub ) (SP.k3 fun v71 v72 v73 => ?_)
    clear hc
    obtain ⟨t77, hc, ho⟩ := bind_some ho
    refine SP.callVO see (caps := []) (.int .i64 t77) fn19 rfl rfl rfl rfl (fun w2 hs => verify_May.ok _ _ _ _ _ hc w2 (hp w2) (Sub.refl _) (slO.read (St.own 0 rfl see.sub see.dj hs) (Sub.refl _) (Sub.refl _)) (slO.read (St.own 1 rfl see.sub see.dj hs) (Sub.refl _) (Sub.refl _)) (slO.read (St.own 2 rfl see.sub see.dj hs) (Sub.refl _) (Sub.refl _)) ((St.pers 4 rfl see.sub see.dj hs))) ?_
    clear hc
    refine go ?_
    obtain rfl := Option.some.inj ho
    exact QE.jn fun w2 hw => (St.selO [3, 4, 5, 6, 7, 8, 9, 10, 11, 12, 13, 14, 15, 16, 17, 18, 19] rfl rfl hw)
   refine go ?_
   obtain rfl := Option.some.inj ho
   exact QE.jn fun w2 hw => hw
  refine SP.cb 44 hg_t67 (fun hq64 ho => ?_) fun hq64 ho => ?_
  ·refine go ?_
   obtain ⟨x66, hx_x66, ho⟩ := elt_bind ho
   refine SP.indexW (fun w2 hw => slO.whole (St.own 13 rfl see.sub see.dj hw)) Tryz.underlying37 sz45 hx_x66.1 hx_x66.2 rfl rfl rfl rfl (fun p65 h_p65 => ?_)
   refine SP.val (Val.loadOA see 13 rfl hx_x66.2 h_p65 (fun _ _ e => e) Tryz.underlying45 rfl sz45 rfl) rfl rfl rfl ?_
   refine SP.val (Val.buildC (us := [(0, .int .i64 2), (1, .int .i64 1)]) (ucs := [(0, [.int .i64 2]), (1, [.int .i64 1])]) (cs := [.int .i64 2, .int .i64 1, .int .i64 0]) bt45 rfl rfl ⟨rfl, rfl, ⟨rfl, rfl, trivial⟩⟩ (by rfl)) rfl rfl rfl ?_
   refine SP.val (Val.eqlA (by kernel_rfl) (fun w2 => eqA45 9998 w2 x66.Fuel 2 x66.Stack 1 x66.Heap 0) rfl rfl) rfl rfl rfl (go ?_)
   obtain rfl := Option.some.inj ho
   exact QE.jn fun w2 hw => hw
  refine go ?_
  obtain rfl := Option.some.inj ho
  exact QE.jn fun w2 hw => hw
 refine SP.bb 39 (fun hq62 => ?_) fun hq62 => ?_
 ·refine go ?_
  refine SP.val (Val.lenW (fun w2 hw => slO.whole (St.own 13 rfl see.sub see.dj hw)) Tryz.underlying37 rfl) rfl rfl rfl (go ?_)
  exact QE.jb (and_t hq62 rfl) fun w2 hw => hw
 refine go ?_
 exact QE.jb (and_f hq62) fun w2 hw => hw
def capstanlaw07_Great.f (m_0 : api_Method) : Option Bool :=
  some ((decide ((m_0.Args.length : Int) > 100)) || (decide ((m_0.Locals.length : Int) > 100)))
theorem capstanlaw07_Great.ok (m_0 : api_Method) (v_m_0_Args v_m_0_Locals v_m_0_Code : Value) (r : Bool) (H : capstanlaw07_Great.f m_0 = some r) (w : World) (hV : Hp) (sV : Sub hV (hp w)) (h0 : slR (kInt .u8) hV v_m_0_Args m_0.Args) (h1 : slR (kInt .u8) hV v_m_0_Locals m_0.Locals) (h2 : slR k_api_Instr hV v_m_0_Code m_0.Code) :
    Trip Tryz.prog 30 [.agg #[v_m_0_Args, v_m_0_Locals, .int .u8 m_0.Result, .bool m_0.Reads, .int .i64 m_0.Fuel, .int .i64 m_0.Stack, .int .i64 m_0.Heap, v_m_0_Code]].toArray em hV w (fun v => HO.pure (v = .bool r)) := by
 refine Trip.go 13 Tryz.func30 sV (aS h0 (aS h1 (aS h2 (All.nil _)))) fun see => ?_
 have ho := H
 refine go ?_
 refine SP.box rfl rfl rfl rfl fun b4 => go ?_
 refine SP.jn 5 [] 12 (.bool ((decide ((m_0.Args.length : Int) > 100)) || (decide ((m_0.Locals.length : Int) > 100)))) ?_ ?_
 ·refine go ?_
  obtain rfl := Option.some.inj ho
  exact QE.rt (fun _ h => h)
 refine SP.bb 7 (fun hq7 => ?_) fun hq7 => ?_
 ·refine go ?_
  exact QE.jb (or_t hq7) fun w2 hw => hw
 refine go ?_
 exact QE.jb (or_f hq7 rfl) fun w2 hw => hw
inductive capstanlaw08_Great.S where
  | start
  | l1 (x31 : Int)
def capstanlaw08_Great.F (m_0 : api_Module) : capstanlaw08_Great.S → Option (capstanlaw08_Great.S ⊕ Bool)
  | .start => if (((decide ((m_0.Globals.length : Int) > 100)) || (decide ((m_0.Pool.length : Int) > 100))) || (decide ((m_0.Methods.length : Int) > 40))) = true then (some (.inr true)) else (some (.inl (.l1 0)))
  | .l1 x31 => if x31 < (m_0.Methods.length : Int) then ((elt m_0.Methods x31).bind fun x35 => (capstanlaw07_Great.f x35).bind fun t42 => (if t42 = true then (some true) else ((elt m_0.Methods x31).bind fun x47 => some (decide ((x47.Code.length : Int) > 300)))).bind fun t52 => if t52 = true then (some (.inr true)) else (some (.inl (.l1 (IntKind.i64.wrap (x31 + 1)))))) else (some (.inr false))
def capstanlaw08_Great.f (m_0 : api_Module) : Option Bool := runF (capstanlaw08_Great.F m_0) .start
theorem capstanlaw08_Great.ok (m_0 : api_Module) (v_m_0_Globals v_m_0_Pool v_m_0_Methods : Value) (r : Bool) (H : capstanlaw08_Great.f m_0 = some r) (w : World) (hV : Hp) (sV : Sub hV (hp w)) (h0 : slR k_api_Value hV v_m_0_Globals m_0.Globals) (h1 : slR k_api_Value hV v_m_0_Pool m_0.Pool) (h2 : slR k_api_Method hV v_m_0_Methods m_0.Methods) :
    Trip Tryz.prog 9 [.agg #[v_m_0_Globals, v_m_0_Pool, v_m_0_Methods, .int .i64 m_0.Migrate]].toArray em hV w (fun v => HO.pure (v = .bool r)) := by
 refine Trip.go 43 Tryz.func9 sV (aS h0 (aS h1 (aS h2 (All.nil _)))) fun see => ?_
 obtain ⟨n0, hi⟩ := runF_iff.1 H
 obtain ⟨m0, o, hm0, ho, hr⟩ := iter_some hi
 clear hi
 refine go ?_
 refine SP.box rfl rfl rfl rfl fun b4 => go ?_
 refine CP.seq (go ?_)
 refine SP.jn 5 [1] 13 (.bool ((decide ((m_0.Globals.length : Int) > 100)) || (decide ((m_0.Pool.length : Int) > 100)))) ?_ ?_
 ·refine go ?_
  refine SP.jn 5 [1] 19 (.bool (((decide ((m_0.Globals.length : Int) > 100)) || (decide ((m_0.Pool.length : Int) > 100))) || (decide ((m_0.Methods.length : Int) > 40)))) ?_ ?_
  ·refine go ?_
   refine CP.cb ho (fun ho => ?_) fun ho => ?_
   ·refine go ?_
    obtain rfl := fin ho hr
    exact QE.rt (fun _ h => h)
   refine go ?_
   refine CP.seq (go ?_)
   obtain rfl := Option.some.inj ho
   refine CP.loop (fun cl1 a w2 => ∃ x31 : Int, cl1 ≤ m0 ∧ iter (capstanlaw08_Great.F m_0) cl1 (.l1 x31) = some r ∧ Env ⟨43, []⟩ [(1, .pointer (some ⟨b4, 0, none⟩)), (3, .int .i64 x31)] a ∧ St w em hV [slP k_api_Value v_m_0_Globals m_0.Globals, slP k_api_Value v_m_0_Pool m_0.Pool, slP k_api_Method v_m_0_Methods m_0.Methods] [boxO b4 [v_m_0_Globals, v_m_0_Pool, v_m_0_Methods, .int .i64 m_0.Migrate] 25] w2) m0 (fun a w2 ha hw => ⟨0, Nat.le_refl _, hr, ha.sub sb, hw⟩) ?_
   clear hr
   rintro cl1 a w2 ⟨x31, hc_l1, hi, ha, hw⟩
   obtain ⟨m32, o, hm_m32, ho, hr⟩ := iter_some hi
   refine CP.app ha hw ?_
   clear ha hw a w2 hi
   refine CP.seq (go ?_)
   refine CP.ci ho (fun ho => ?_) fun ho => ?_
   ·refine go ?_
    refine CP.seq (go ?_)
    obtain ⟨x35, hx, ho⟩ := elt_bind ho
    refine SP.indexP see 2 rfl Tryz.underlying23 sz34 hx.1 hx.2 rfl rfl rfl rfl (fun p33 => ?_)
    clear hx
    refine k_api_Method.load see 0 rfl Tryz.underlying34 rfl sz34 rfl rfl rfl (fun v36 v38 v40 => ?_)
    obtain ⟨t42, hc, ho⟩ := bind_some ho
    refine SP.callV see (caps := []) (.bool t42) fn30 rfl rfl rfl rfl (fun w2 hP hs sub ap => capstanlaw07_Great.ok _ _ _ _ _ hc w2 hP sub (ap.get 0 rfl) (ap.get 1 rfl) (ap.get 2 rfl)) ?_
    clear hc
    refine go ?_
    obtain ⟨t52, hg_t52, ho⟩ := bind_some ho
    refine SP.jn 9 [1, 3] 42 (.bool t52) ?_ ?_
    ·clear hg_t52
     refine go ?_
     refine CP.cb ho (fun ho => ?_) fun ho => ?_
     ·refine go ?_
      obtain rfl := fin ho hr
      exact QE.rt (fun _ h => h)
     refine go ?_
     obtain rfl := Option.some.inj ho
     exact QE.lower m32 (by omega) fun a w2 ha hw => ⟨(IntKind.i64.wrap (x31 + 1)), (by omega), hr, ha.sub sb, (St.selP [4, 5, 6] rfl hw)⟩
    refine SP.cb 33 hg_t52 (fun hq44 ho => ?_) fun hq44 ho => ?_
    ·refine go ?_
     obtain rfl := Option.some.inj ho
     exact QE.jn fun w2 hw => hw
    refine go ?_
    obtain ⟨x47, hx, ho⟩ := elt_bind ho
    refine SP.indexP see 6 rfl Tryz.underlying23 sz34 hx.1 hx.2 rfl rfl rfl rfl (fun p45 => ?_)
    clear hx
    refine SP.fieldP see 0 rfl Tryz.underlying34 rfl sz32 k_api_Method.part_Code rfl rfl rfl (fun p48 => ?_)
    refine SP.loadPS see 0 rfl Tryz.underlying32 rfl rfl rfl (fun v50 => go ?_)
    obtain rfl := Option.some.inj ho
    exact QE.jn fun w2 hw => (St.selP [3, 4, 5, 6, 7, 8, 9] rfl hw)
   refine go ?_
   obtain rfl := fin ho hr
   exact QE.rt (fun _ h => h)
  refine SP.bb 14 (fun hq9 => ?_) fun hq9 => ?_
  ·refine go ?_
   exact QE.jb (or_t hq9) fun w2 hw => hw
  refine go ?_
  exact QE.jb (or_f hq9 rfl) fun w2 hw => hw
 refine SP.bb 8 (fun hq7 => ?_) fun hq7 => ?_
 ·refine go ?_
  exact QE.jb (or_t hq7) fun w2 hw => hw
 refine go ?_
 exact QE.jb (or_f hq7 rfl) fun w2 hw => hw
def capstanref03_Copy.f (l_0 : (List api_Value)) : Option (List api_Value) :=
  if (([] : List api_Value).length + l_0.length) * 24 ≤ 140737488355328 then (some (([] : List api_Value) ++ l_0)) else none
theorem capstanref03_Copy.ok (l_0 : (List api_Value)) (v_l_0 : Value) (r : (List api_Value)) (H : capstanref03_Copy.f l_0 = some r) (w : World) (hV : Hp) (sV : Sub hV (hp w)) (h0 : slR k_api_Value hV v_l_0 l_0) :
    Trip Tryz.prog 45 [v_l_0].toArray em hV w (fun v => HO.ex fun u0 : Value => HO.pand (v = u0) (HO.seps [slO k_api_Value 100 u0 r])) := by
 refine Trip.go 7 Tryz.func45 sV (aS h0 (All.nil _)) fun see => ?_
 have ho := H
 refine go ?_
 refine SP.imp (fun w2 hw => St.addO (slO.nil k_api_Value 100) hw) ?_
 obtain ⟨hb, ho⟩ := must_some ho
 refine SP.append see 0 rfl 0 rfl Tryz.underlying22 inf100 rfl rfl hb rfl rfl rfl rfl rfl (fun v3 => ?_)
 clear hb
 refine go ?_
 obtain rfl := Option.some.inj ho
 exact QE.rt (fun _ h => St.selO [0] rfl rfl h)
def capstanref05_Copy.f (l_0 : (List api_Instr)) : Option (List api_Instr) :=
  if (([] : List api_Instr).length + l_0.length) * 24 ≤ 140737488355328 then (some (([] : List api_Instr) ++ l_0)) else none
theorem capstanref05_Copy.ok (l_0 : (List api_Instr)) (v_l_0 : Value) (r : (List api_Instr)) (H : capstanref05_Copy.f l_0 = some r) (w : World) (hV : Hp) (sV : Sub hV (hp w)) (h0 : slR k_api_Instr hV v_l_0 l_0) :
    Trip Tryz.prog 46 [v_l_0].toArray em hV w (fun v => HO.ex fun u0 : Value => HO.pand (v = u0) (HO.seps [slO k_api_Instr 43 u0 r])) := by
 refine Trip.go 7 Tryz.func46 sV (aS h0 (All.nil _)) fun see => ?_
 have ho := H
 refine go ?_
 refine SP.imp (fun w2 hw => St.addO (slO.nil k_api_Instr 43) hw) ?_
 obtain ⟨hb, ho⟩ := must_some ho
 refine SP.append see 0 rfl 0 rfl Tryz.underlying32 inf43 rfl rfl hb rfl rfl rfl rfl rfl (fun v3 => ?_)
 clear hb
 refine go ?_
 obtain rfl := Option.some.inj ho
 exact QE.rt (fun _ h => St.selO [0] rfl rfl h)
inductive capstanref08_Copy.S where
  | start
  | l1 (t831 : (List api_Value)) (t1431 : (List api_Value)) (x2565 : Int) (l2567 : List api_Method)
def capstanref08_Copy.F (m_0 : api_Module) : capstanref08_Copy.S → Option (capstanref08_Copy.S ⊕ api_Module)
  | .start => (capstanref03_Copy.f m_0.Globals).bind fun t831 => (capstanref03_Copy.f m_0.Pool).bind fun t1431 => some (.inl (.l1 t831 t1431 0 []))
  | .l1 t831 t1431 x2565 l2567 => if x2565 < (m_0.Methods.length : Int) then ((elt m_0.Methods x2565).bind fun x2572 => if (([] : List Int).length + x2572.Args.length) * 1 ≤ 140737488355328 then (if (([] : List Int).length + x2572.Locals.length) * 1 ≤ 140737488355328 then ((capstanref05_Copy.f x2572.Code).bind fun t2589 => if (l2567.length + [(⟨([] : List Int) ++ x2572.Args, ([] : List Int) ++ x2572.Locals, x2572.Result, x2572.Reads, x2572.Fuel, x2572.Stack, x2572.Heap, t2589⟩ : api_Method)].length) * 104 ≤ 140737488355328 then (some (.inl (.l1 t831 t1431 (IntKind.i64.wrap (x2565 + 1)) (l2567 ++ [(⟨([] : List Int) ++ x2572.Args, ([] : List Int) ++ x2572.Locals, x2572.Result, x2572.Reads, x2572.Fuel, x2572.Stack, x2572.Heap, t2589⟩ : api_Method)])))) else none) else none) else none) else (some (.inr (⟨t831, t1431, l2567, m_0.Migrate⟩ : api_Module)))
def capstanref08_Copy.f (m_0 : api_Module) : Option api_Module := runF (capstanref08_Copy.F m_0) .start
theorem capstanref08_Copy.ok (m_0 : api_Module) (v_m_0_Globals v_m_0_Pool v_m_0_Methods : Value) (r : api_Module) (H : capstanref08_Copy.f m_0 = some r) (w : World) (hV : Hp) (sV : Sub hV (hp w)) (h0 : slR k_api_Value hV v_m_0_Globals m_0.Globals) (h1 : slR k_api_Value hV v_m_0_Pool m_0.Pool) (h2 : slR k_api_Method hV v_m_0_Methods m_0.Methods) :
    Trip Tryz.prog 22 [.agg #[v_m_0_Globals, v_m_0_Pool, v_m_0_Methods, .int .i64 m_0.Migrate]].toArray em hV w (fun v => HO.ex fun u0 : Value => HO.ex fun u1 : Value => HO.ex fun u2 : Value => HO.pand (v = .agg #[u0, u1, u2, .int .i64 r.Migrate]) (HO.seps [slO k_api_Value 100 u0 r.Globals, slO k_api_Value 100 u1 r.Pool, slD o_api_Method 34 u2 r.Methods])) := by
 refine Trip.go 48 Tryz.func22 sV (aS h0 (aS h1 (aS h2 (All.nil _)))) fun see => ?_
 obtain ⟨n0, hi⟩ := runF_iff.1 H
 obtain ⟨m0, o, hm0, ho, hr⟩ := iter_some hi
 clear hi
 refine go ?_
 refine SP.box rfl rfl rfl rfl fun b4 => ?_
 refine SP.alloc (cs := [(.slice none 0 0), (.slice none 0 0), (.slice none 0 0), .int .i64 0]) inf25 rfl rfl (fun b6 => go ?_)
 refine CP.seq ?_
 refine CP.drawA (by kernel_rfl) (fun w2 k h => h.drawn k) ?_
 refine DA.ph 0 10 ?_
 refine DT.tk 0 ?_
 refine DT.tk 1 ?_
 refine DT.tk 3 ?_
 refine DT.tk 4 ?_
 refine DT.tk 6 ?_
 refine DT.tk 7 ?_
 obtain ⟨t831, hc_t831, ho⟩ := bind_some ho
 obtain ⟨t1431, hc_t1431, ho⟩ := bind_some ho
 refine DT.list (l2 := #[true, true, false, true, true, false, true, true, false, false, false]) (by kernel_rfl) ?_
 refine DT.cut (ι := Value × Value × Nat) (fun z => [(1, .pointer (some ⟨b4, 0, none⟩)), (2, .pointer (some ⟨b6, 0, none⟩)), (3, .pointer (some ⟨z.2.2, 0, none⟩)), (14, .agg #[z.1, z.2.1, (.slice none 0 0), .int .i64 m_0.Migrate])]) (fun z w2 => St w em hV [slP k_api_Value v_m_0_Globals m_0.Globals, slP k_api_Value v_m_0_Pool m_0.Pool, slP k_api_Method v_m_0_Methods m_0.Methods] [boxO z.2.2 [(.slice none 0 0), (.slice none 0 0), (.slice none 0 0), .int .i64 0] 25, slO k_api_Value 100 z.2.1 t1431, slO k_api_Value 100 z.1 t831, boxO b6 [(.slice none 0 0), (.slice none 0 0), (.slice none 0 0), .int .i64 0] 25, boxO b4 [v_m_0_Globals, v_m_0_Pool, v_m_0_Methods, .int .i64 m_0.Migrate] 25] w2) 1 #[true, true, true, true, true, true, true, true, true, true, false] (fun z => ?_) (fun J2535 => ?_)
 ·obtain ⟨v633, v1233, b2033⟩ := z
  refine DT.next (by kernel_rfl) ?_
  refine DA.one 10 rfl (by kernel_rfl) ?_
  refine SP.have (fun w2 hw => slO.shape (St.own 2 rfl see.sub see.dj hw)) (fun hs_v633 => ?_)
  refine SP.have (fun w2 hw => slO.shape (St.own 1 rfl see.sub see.dj hw)) (fun hs_v1233 => ?_)
  refine SP.store (v := .agg #[v633, v1233, (.slice none 0 0), .int .i64 m_0.Migrate]) (vs := [v633, v1233, (.slice none 0 0), .int .i64 m_0.Migrate]) 0 (by rfl) sz25 (by rfl) (by rfl) (by rfl) (by rfl) (one_cons hs_v633 (one_cons hs_v1233 (one_cons rfl (one_cons rfl (rfl))))) (by rfl) (go ?_)
  refine QE.atA ?_
  refine DA.done (by kernel_rfl) (go ?_)
  refine CP.seq (go ?_)
  obtain rfl := Option.some.inj ho
  refine CP.loop (fun cl1 a w2 => ∃ x2565 : Int, ∃ l2567 : List api_Method, ∃ v2568 : Value, cl1 ≤ m0 ∧ iter (capstanref08_Copy.F m_0) cl1 (.l1 t831 t1431 x2565 l2567) = some r ∧ Env ⟨48, []⟩ [(1, .pointer (some ⟨b4, 0, none⟩)), (2, .pointer (some ⟨b6, 0, none⟩)), (3, .pointer (some ⟨b2033, 0, none⟩)), (4, .int .i64 x2565)] a ∧ St w em hV [slP k_api_Value v_m_0_Globals m_0.Globals, slP k_api_Value v_m_0_Pool m_0.Pool, slP k_api_Method v_m_0_Methods m_0.Methods] [slD o_api_Method 34 v2568 l2567, boxO b2033 [v633, v1233, v2568, .int .i64 m_0.Migrate] 25, slO k_api_Value 100 v1233 t1431, slO k_api_Value 100 v633 t831, boxO b6 [(.slice none 0 0), (.slice none 0 0), (.slice none 0 0), .int .i64 0] 25, boxO b4 [v_m_0_Globals, v_m_0_Pool, v_m_0_Methods, .int .i64 m_0.Migrate] 25] w2) m0 (fun a w2 ha hw => ⟨0, [], (.slice none 0 0), Nat.le_refl _, hr, ha.sub sb, (St.addO (slD.nil o_api_Method 34) hw)⟩) ?_
  clear hr
  rintro cl1 a w2 ⟨x2565, l2567, v2568, hc_l1, hi, ha, hw⟩
  obtain ⟨m2569, o, hm_m2569, ho, hr⟩ := iter_some hi
  refine CP.app ha hw ?_
  clear ha hw a w2 hi
  refine CP.seq (go ?_)
  refine CP.ci ho (fun ho => ?_) fun ho => ?_
  ·refine go ?_
   refine CP.seq (go ?_)
   obtain ⟨x2572, hx, ho⟩ := elt_bind ho
   refine SP.indexP see 2 rfl Tryz.underlying23 sz34 hx.1 hx.2 rfl rfl rfl rfl (fun p2570 => ?_)
   clear hx
   refine k_api_Method.load see 0 rfl Tryz.underlying34 rfl sz34 rfl rfl rfl (fun v2573 v2575 v2577 => ?_)
   refine SP.alloc (cs := [(.slice none 0 0), (.slice none 0 0), .int .u8 0, .bool false, .int .i64 0, .int .i64 0, .int .i64 0, (.slice none 0 0)]) inf34 rfl rfl (fun b2579 => ?_)
   refine SP.have (fun w2 hw => slR.shape (St.pers 0 rfl see.sub see.dj hw)) (fun hs_v2573 => ?_)
   refine SP.have (fun w2 hw => slR.shape (St.pers 1 rfl see.sub see.dj hw)) (fun hs_v2575 => ?_)
   refine SP.have (fun w2 hw => slR.shape (St.pers 2 rfl see.sub see.dj hw)) (fun hs_v2577 => ?_)
   refine SP.store (v := .agg #[v2573, v2575, .int .u8 x2572.Result, .bool x2572.Reads, .int .i64 x2572.Fuel, .int .i64 x2572.Stack, .int .i64 x2572.Heap, v2577]) (vs := [v2573, v2575, .int .u8 x2572.Result, .bool x2572.Reads, .int .i64 x2572.Fuel, .int .i64 x2572.Stack, .int .i64 x2572.Heap, v2577]) 0 (by rfl) sz34 (by rfl) (by rfl) (by rfl) (by rfl) (one_cons hs_v2573 (one_cons hs_v2575 (one_cons rfl (one_cons rfl (one_cons rfl (one_cons rfl (one_cons rfl (one_cons hs_v2577 (rfl))))))))) (by rfl) (go ?_)
   refine SP.lit0 (k := (kInt .u8)) Tryz.underlying31 inf5 rfl rfl (fun v2581 => go ?_)
   obtain ⟨hb, ho⟩ := must_some ho
   refine SP.append see 0 rfl 0 rfl Tryz.underlying31 inf5 rfl rfl hb rfl rfl rfl rfl rfl (fun v2583 => ?_)
   clear hb
   refine go ?_
   refine SP.have (fun w2 hw => slO.shape (St.own 0 rfl see.sub see.dj hw)) (fun hs_v2583 => ?_)
   refine SP.store (v := v2583) (vs := [v2583]) 1 (by rfl) sz31 (by rfl) (by rfl) (by rfl) (one_cells hs_v2583) (one_cons hs_v2583 (rfl)) (by rfl) (go ?_)
   refine SP.lit0 (k := (kInt .u8)) Tryz.underlying31 inf5 rfl rfl (fun v2585 => go ?_)
   obtain ⟨hb, ho⟩ := must_some ho
   refine SP.append see 0 rfl 1 rfl Tryz.underlying31 inf5 rfl rfl hb rfl rfl rfl rfl rfl (fun v2587 => ?_)
   clear hb
   refine go ?_
   refine SP.have (fun w2 hw => slO.shape (St.own 0 rfl see.sub see.dj hw)) (fun hs_v2587 => ?_)
   refine SP.store (v := v2587) (vs := [v2587]) 2 (by rfl) sz31 (by rfl) (by rfl) (by rfl) (one_cells hs_v2587) (one_cons hs_v2587 (rfl)) (by rfl) (go ?_)
   obtain ⟨t2589, hc, ho⟩ := bind_some ho
   refine SP.callK see (caps := []) _ fn46 rfl rfl rfl rfl (fun w2 hP hs sub ap => capstanref05_Copy.ok _ _ _ hc w2 hP sub (ap.get 2 rfl)) (SP.k1 fun v2590 => ?_)
   clear hc
   refine go ?_
   refine SP.have (fun w2 hw => slO.shape (St.own 0 rfl see.sub see.dj hw)) (fun hs_v2590 => ?_)
   refine SP.store (v := v2590) (vs := [v2590]) 3 (by rfl) sz32 (by rfl) (by rfl) (by rfl) (one_cells hs_v2590) (one_cons hs_v2590 (rfl)) (by rfl) (go ?_)
   refine SP.val (Val.loadA 3 rfl Tryz.underlying34 rfl sz34 rfl rfl rfl) rfl rfl rfl ?_
   refine SP.have (fun w2 hw => slO.shape (St.own 2 rfl see.sub see.dj hw)) (fun hs_v2583 => ?_)
   refine SP.have (fun w2 hw => slO.shape (St.own 1 rfl see.sub see.dj hw)) (fun hs_v2587 => ?_)
   refine SP.have (fun w2 hw => slO.shape (St.own 0 rfl see.sub see.dj hw)) (fun hs_v2590 => ?_)
   refine SP.lit (k := kRaw 8) (xs := [[v2583, v2587, .int .u8 x2572.Result, .bool x2572.Reads, .int .i64 x2572.Fuel, .int .i64 x2572.Stack, .int .i64 x2572.Heap, v2590]]) (vs := [.agg #[v2583, v2587, .int .u8 x2572.Result, .bool x2572.Reads, .int .i64 x2572.Fuel, .int .i64 x2572.Stack, .int .i64 x2572.Heap, v2590]]) (cells := [v2583, v2587, .int .u8 x2572.Result, .bool x2572.Reads, .int .i64 x2572.Fuel, .int .i64 x2572.Stack, .int .i64 x2572.Heap, v2590]) Tryz.underlying23 inf34 rfl rfl rfl rfl rfl rfl rfl rfl (fun _ ap => ⟨[v2583, v2587, .int .u8 x2572.Result, .bool x2572.Reads, .int .i64 x2572.Fuel, .int .i64 x2572.Stack, .int .i64 x2572.Heap, v2590], _, rfl, ⟨rfl, rfl, one_cons hs_v2583 (one_cons hs_v2587 (one_cons rfl (one_cons rfl (one_cons rfl (one_cons rfl (one_cons rfl (one_cons hs_v2590 (rfl))))))))⟩, rfl⟩) rfl rfl rfl (fun v2592 => ?_)
   refine SP.imp (fun w2 hw => St.litD (k := o_api_Method) (c := [v2583, v2587, .int .u8 x2572.Result, .bool x2572.Reads, .int .i64 x2572.Fuel, .int .i64 x2572.Stack, .int .i64 x2572.Heap, v2590]) (x0 := (⟨([] : List Int) ++ x2572.Args, ([] : List Int) ++ x2572.Locals, x2572.Result, x2572.Reads, x2572.Fuel, x2572.Stack, x2572.Heap, t2589⟩ : api_Method)) [slO (kInt .u8) 5 v2583 (([] : List Int) ++ x2572.Args), slO (kInt .u8) 5 v2587 (([] : List Int) ++ x2572.Locals), slO k_api_Instr 43 v2590 t2589] (St.selO [0, 3, 2, 1, 4, 5, 6, 7, 8, 9, 10] rfl rfl hw) (fun a b q => ⟨_, _, _, rfl, q⟩)) ?_
   refine SP.imp (fun w2 hw => St.selO [2, 0, 1, 3, 4, 5, 6, 7] rfl rfl hw) ?_
   obtain ⟨hb, ho⟩ := must_some ho
   refine SP.appendD see Tryz.underlying23 inf34 rfl rfl hb rfl rfl rfl rfl rfl (fun v2594 => ?_)
   clear hb
   refine go ?_
   refine SP.have (fun w2 hw => slD.shape (St.own 0 rfl see.sub see.dj hw)) (fun hs_v2594 => ?_)
   refine SP.store (v := v2594) (vs := [v2594]) 2 (by rfl) sz23 (by rfl) (by rfl) (by rfl) (one_cells hs_v2594) (one_cons hs_v2594 (rfl)) (by rfl) (go ?_)
   obtain rfl := Option.some.inj ho
   exact QE.lower m2569 (by omega) fun a w2 ha hw => ⟨(IntKind.i64.wrap (x2565 + 1)), (l2567 ++ [(⟨([] : List Int) ++ x2572.Args, ([] : List Int) ++ x2572.Locals, x2572.Result, x2572.Reads, x2572.Fuel, x2572.Stack, x2572.Heap, t2589⟩ : api_Method)]), v2594, (by omega), hr, ha.sub sb, (St.selP [4, 5, 6] rfl (St.selO [0, 2, 3, 4, 5, 6] rfl rfl hw))⟩
  refine go ?_
  refine SP.val (Val.loadA 1 rfl Tryz.underlying25 rfl sz25 rfl rfl rfl) rfl rfl rfl ?_
  refine SP.have (fun w2 hw => slO.shape (St.own 3 rfl see.sub see.dj hw)) (fun hs_v633 => ?_)
  refine SP.have (fun w2 hw => slO.shape (St.own 2 rfl see.sub see.dj hw)) (fun hs_v1233 => ?_)
  refine SP.have (fun w2 hw => slD.shape (St.own 0 rfl see.sub see.dj hw)) (fun hs_v2568 => ?_)
  refine SP.store (v := .agg #[v633, v1233, v2568, .int .i64 m_0.Migrate]) (vs := [v633, v1233, v2568, .int .i64 m_0.Migrate]) 4 (by rfl) sz25 (by rfl) (by rfl) (by rfl) (by rfl) (one_cons hs_v633 (one_cons hs_v1233 (one_cons hs_v2568 (one_cons rfl (rfl))))) (by rfl) (go ?_)
  obtain rfl := fin ho hr
  exact QE.rt (fun _ h => St.selO [3, 2, 0] rfl rfl h) (rs := [.cell 2 25]) (vs := [.agg #[v633, v1233, v2568, .int .i64 m_0.Migrate]]) (hv := ⟨RVs.cellA 4 rfl rfl Tryz.underlying25 rfl sz25, trivial⟩)
 refine DT.cut (ι := Value × Value) (fun z => [(1, .pointer (some ⟨b4, 0, none⟩)), (2, .pointer (some ⟨b6, 0, none⟩)), (14, .agg #[z.1, z.2, (.slice none 0 0), .int .i64 m_0.Migrate])]) (fun z w2 => St w em hV [slP k_api_Value v_m_0_Globals m_0.Globals, slP k_api_Value v_m_0_Pool m_0.Pool, slP k_api_Method v_m_0_Methods m_0.Methods] [slO k_api_Value 100 z.2 t1431, slO k_api_Value 100 z.1 t831, boxO b6 [(.slice none 0 0), (.slice none 0 0), (.slice none 0 0), .int .i64 0] 25, boxO b4 [v_m_0_Globals, v_m_0_Pool, v_m_0_Methods, .int .i64 m_0.Migrate] 25] w2) 2 #[true, true, true, true, true, true, true, true, true, false, false] (fun z => ?_) (fun J2601 => ?_)
 ·obtain ⟨v633, v1233⟩ := z
  refine DT.one 9 rfl (by kernel_rfl) rfl ?_
  refine SP.alloc (cs := [(.slice none 0 0), (.slice none 0 0), (.slice none 0 0), .int .i64 0]) inf25 rfl rfl (fun b2033 => go ?_)
  refine QE.atT (fun w2 hw => (St.selO [3, 4] rfl rfl hw)) ?_
  refine DT.list (l2 := #[true, true, true, true, true, true, true, true, true, true, false]) (by kernel_rfl) ?_
  exact DT.weak (by exact ⟨rfl, rfl, rfl, rfl, trivial⟩) (by exact fun w2 hw => hw) (J2535 (v633, v1233, b2033))
 refine DT.cut (ι := Value × Value × Nat) (fun z => [(1, .pointer (some ⟨b4, 0, none⟩)), (2, .pointer (some ⟨b6, 0, none⟩)), (3, .pointer (some ⟨z.2.2, 0, none⟩)), (8, z.1), (11, z.2.1), (13, .int .i64 m_0.Migrate)]) (fun z w2 => St w em hV [slP k_api_Value v_m_0_Globals m_0.Globals, slP k_api_Value v_m_0_Pool m_0.Pool, slP k_api_Method v_m_0_Methods m_0.Methods] [boxO z.2.2 [(.slice none 0 0), (.slice none 0 0), (.slice none 0 0), .int .i64 0] 25, slO k_api_Value 100 z.2.1 t1431, slO k_api_Value 100 z.1 t831, boxO b6 [(.slice none 0 0), (.slice none 0 0), (.slice none 0 0), .int .i64 0] 25, boxO b4 [v_m_0_Globals, v_m_0_Pool, v_m_0_Methods, .int .i64 m_0.Migrate] 25] w2) 2 #[true, true, true, true, true, true, true, true, false, true, false] (fun z => ?_) (fun J2602 => ?_)
 ·obtain ⟨v633, v1233, b2033⟩ := z
  refine DT.one 8 rfl (by kernel_rfl) rfl ?_
  refine SP.have (fun w2 hw => slO.shape (St.own 2 rfl see.sub see.dj hw)) (fun hs_v633 => ?_)
  refine SP.have (fun w2 hw => slO.shape (St.own 1 rfl see.sub see.dj hw)) (fun hs_v1233 => ?_)
  refine SP.val (Val.buildC (us := [(0, v633), (1, v1233), (3, .int .i64 m_0.Migrate)]) (ucs := [(0, [v633]), (1, [v1233]), (3, [.int .i64 m_0.Migrate])]) (cs := [v633, v1233, (.slice none 0 0), .int .i64 m_0.Migrate]) bt25 rfl rfl ⟨rfl, one_cells hs_v633, ⟨rfl, one_cells hs_v1233, ⟨rfl, rfl, trivial⟩⟩⟩ (by rfl)) rfl rfl rfl (go ?_)
  refine QE.atT (fun w2 hw => (St.selO [3, 4] rfl rfl hw)) ?_
  refine DT.list (l2 := #[true, true, true, true, true, true, true, true, true, true, false]) (by kernel_rfl) ?_
  exact DT.weak (by exact ⟨rfl, rfl, rfl, rfl, trivial⟩) (by exact fun w2 hw => hw) (J2535 (v633, v1233, b2033))
 refine DT.cut (ι := Value × Value) (fun z => [(1, .pointer (some ⟨b4, 0, none⟩)), (2, .pointer (some ⟨b6, 0, none⟩)), (8, z.1), (11, z.2), (13, .int .i64 m_0.Migrate)]) (fun z w2 => St w em hV [slP k_api_Value v_m_0_Globals m_0.Globals, slP k_api_Value v_m_0_Pool m_0.Pool, slP k_api_Method v_m_0_Methods m_0.Methods] [slO k_api_Value 100 z.2 t1431, slO k_api_Value 100 z.1 t831, boxO b6 [(.slice none 0 0), (.slice none 0 0), (.slice none 0 0), .int .i64 0] 25, boxO b4 [v_m_0_Globals, v_m_0_Pool, v_m_0_Methods, .int .i64 m_0.Migrate] 25] w2) 3 #[true, true, true, true, true, true, true, true, false, false, false] (fun z => ?_) (fun J2603 => ?_)
 ·obtain ⟨v633, v1233⟩ := z
  refine DT.any 8 [9] (by kernel_rfl) ⟨⟨_, rfl, rfl, ?_⟩, ⟨_, rfl, rfl, ?_⟩, trivial⟩
  ·refine SP.have (fun w2 hw => slO.shape (St.own 1 rfl see.sub see.dj hw)) (fun hs_v633 => ?_)
   refine SP.have (fun w2 hw => slO.shape (St.own 0 rfl see.sub see.dj hw)) (fun hs_v1233 => ?_)
   refine SP.val (Val.buildC (us := [(0, v633), (1, v1233), (3, .int .i64 m_0.Migrate)]) (ucs := [(0, [v633]), (1, [v1233]), (3, [.int .i64 m_0.Migrate])]) (cs := [v633, v1233, (.slice none 0 0), .int .i64 m_0.Migrate]) bt25 rfl rfl ⟨rfl, one_cells hs_v633, ⟨rfl, one_cells hs_v1233, ⟨rfl, rfl, trivial⟩⟩⟩ (by rfl)) rfl rfl rfl (go ?_)
   refine QE.atT (fun w2 hw => (St.selO [2, 3] rfl rfl hw)) ?_
   refine DT.list (l2 := #[true, true, true, true, true, true, true, true, true, false, false]) (by kernel_rfl) ?_
   exact DT.weak (by exact ⟨rfl, rfl, rfl, trivial⟩) (by exact fun w2 hw => hw) (J2601 (v633, v1233))
  refine SP.alloc (cs := [(.slice none 0 0), (.slice none 0 0), (.slice none 0 0), .int .i64 0]) inf25 rfl rfl (fun b2033 => go ?_)
  refine QE.atT (fun w2 hw => (St.selO [3, 4] rfl rfl hw)) ?_
  refine DT.list (l2 := #[true, true, true, true, true, true, true, true, false, true, false]) (by kernel_rfl) ?_
  exact DT.weak (by exact ⟨rfl, rfl, rfl, rfl, rfl, rfl, trivial⟩) (by exact fun w2 hw => hw) (J2602 (v633, v1233, b2033))
 refine DT.cut (ι := Value × Nat) (fun z => [(1, .pointer (some ⟨b4, 0, none⟩)), (2, .pointer (some ⟨b6, 0, none⟩)), (3, .pointer (some ⟨z.2, 0, none⟩)), (8, z.1), (10, v_m_0_Pool), (13, .int .i64 m_0.Migrate)]) (fun z w2 => St w em hV [slP k_api_Value v_m_0_Globals m_0.Globals, slP k_api_Value v_m_0_Pool m_0.Pool, slP k_api_Method v_m_0_Methods m_0.Methods] [boxO z.2 [(.slice none 0 0), (.slice none 0 0), (.slice none 0 0), .int .i64 0] 25, slO k_api_Value 100 z.1 t831, boxO b6 [(.slice none 0 0), (.slice none 0 0), (.slice none 0 0), .int .i64 0] 25, boxO b4 [v_m_0_Globals, v_m_0_Pool, v_m_0_Methods, .int .i64 m_0.Migrate] 25] w2) 3 #[true, true, true, true, true, false, true, true, false, true, false] (fun z => ?_) (fun J2606 => ?_)
 ·obtain ⟨v633, b2033⟩ := z
  refine DT.one 5 rfl (by kernel_rfl) rfl ?_
  refine SP.callK see (caps := []) _ fn45 rfl rfl rfl rfl (fun w2 hP hs sub ap => capstanref03_Copy.ok m_0.Pool _ _ hc_t1431 w2 hP sub (ap.get 1 rfl)) (SP.k1 fun v1233 => go ?_)
  refine QE.atT (fun w2 hw => (St.selO [3, 4] rfl rfl hw)) ?_
  refine DT.list (l2 := #[true, true, true, true, true, true, true, true, false, true, false]) (by kernel_rfl) ?_
  exact DT.weak (by exact ⟨rfl, rfl, rfl, rfl, rfl, rfl, trivial⟩) (by exact fun w2 hw => (St.selO [1, 0, 2, 3, 4] rfl rfl hw)) (J2602 (v633, v1233, b2033))
 refine DT.cut (ι := Value) (fun z => [(1, .pointer (some ⟨b4, 0, none⟩)), (2, .pointer (some ⟨b6, 0, none⟩)), (8, z), (10, v_m_0_Pool), (13, .int .i64 m_0.Migrate)]) (fun z w2 => St w em hV [slP k_api_Value v_m_0_Globals m_0.Globals, slP k_api_Value v_m_0_Pool m_0.Pool, slP k_api_Method v_m_0_Methods m_0.Methods] [slO k_api_Value 100 z t831, boxO b6 [(.slice none 0 0), (.slice none 0 0), (.slice none 0 0), .int .i64 0] 25, boxO b4 [v_m_0_Globals, v_m_0_Pool, v_m_0_Methods, .int .i64 m_0.Migrate] 25] w2) 4 #[true, true, true, true, true, false, true, true, false, false, false] (fun z => ?_) (fun J2607 => ?_)
 ·rename Value => v633
  refine DT.any 5 [9] (by kernel_rfl) ⟨⟨_, rfl, rfl, ?_⟩, ⟨_, rfl, rfl, ?_⟩, trivial⟩
  ·refine SP.callK see (caps := []) _ fn45 rfl rfl rfl rfl (fun w2 hP hs sub ap => capstanref03_Copy.ok m_0.Pool _ _ hc_t1431 w2 hP sub (ap.get 1 rfl)) (SP.k1 fun v1233 => go ?_)
   refine QE.atT (fun w2 hw => (St.selO [2, 3] rfl rfl hw)) ?_
   refine DT.list (l2 := #[true, true, true, true, true, true, true, true, false, false, false]) (by kernel_rfl) ?_
   exact DT.weak (by exact ⟨rfl, rfl, rfl, rfl, rfl, trivial⟩) (by exact fun w2 hw => hw) (J2603 (v633, v1233))
  refine SP.alloc (cs := [(.slice none 0 0), (.slice none 0 0), (.slice none 0 0), .int .i64 0]) inf25 rfl rfl (fun b2033 => go ?_)
  refine QE.atT (fun w2 hw => (St.selO [2, 3] rfl rfl hw)) ?_
  refine DT.list (l2 := #[true, true, true, true, true, false, true, true, false, true, false]) (by kernel_rfl) ?_
  exact DT.weak (by exact ⟨rfl, rfl, rfl, rfl, rfl, rfl, trivial⟩) (by exact fun w2 hw => hw) (J2606 (v633, b2033))
 refine DT.cut (ι := Nat) (fun z => [(1, .pointer (some ⟨b4, 0, none⟩)), (2, .pointer (some ⟨b6, 0, none⟩)), (3, .pointer (some ⟨z, 0, none⟩)), (7, v_m_0_Globals), (10, v_m_0_Pool), (13, .int .i64 m_0.Migrate)]) (fun z w2 => St w em hV [slP k_api_Value v_m_0_Globals m_0.Globals, slP k_api_Value v_m_0_Pool m_0.Pool, slP k_api_Method v_m_0_Methods m_0.Methods] [boxO z [(.slice none 0 0), (.slice none 0 0), (.slice none 0 0), .int .i64 0] 25, boxO b6 [(.slice none 0 0), (.slice none 0 0), (.slice none 0 0), .int .i64 0] 25, boxO b4 [v_m_0_Globals, v_m_0_Pool, v_m_0_Methods, .int .i64 m_0.Migrate] 25] w2) 4 #[true, true, false, true, true, false, true, true, false, true, false] (fun z => ?_) (fun J2613 => ?_)
 ·rename Nat => b2033
  refine DT.one 2 rfl (by kernel_rfl) rfl ?_
  refine SP.callK see (caps := []) _ fn45 rfl rfl rfl rfl (fun w2 hP hs sub ap => capstanref03_Copy.ok m_0.Globals _ _ hc_t831 w2 hP sub (ap.get 0 rfl)) (SP.k1 fun v633 => go ?_)
  refine QE.atT (fun w2 hw => (St.selO [2, 3] rfl rfl hw)) ?_
  refine DT.list (l2 := #[true, true, true, true, true, false, true, true, false, true, false]) (by kernel_rfl) ?_
  exact DT.weak (by exact ⟨rfl, rfl, rfl, rfl, rfl, rfl, trivial⟩) (by exact fun w2 hw => (St.selO [1, 0, 2, 3] rfl rfl hw)) (J2606 (v633, b2033))
 refine DT.any 2 [9] (by kernel_rfl) ⟨⟨_, rfl, rfl, ?_⟩, ⟨_, rfl, rfl, ?_⟩, trivial⟩
 ·refine SP.callK see (caps := []) _ fn45 rfl rfl rfl rfl (fun w2 hP hs sub ap => capstanref03_Copy.ok m_0.Globals _ _ hc_t831 w2 hP sub (ap.get 0 rfl)) (SP.k1 fun v633 => go ?_)
  refine QE.atT (fun w2 hw => (St.selO [1, 2] rfl rfl hw)) ?_
  refine DT.list (l2 := #[true, true, true, true, true, false, true, true, false, false, false]) (by kernel_rfl) ?_
  exact DT.weak (by exact ⟨rfl, rfl, rfl, rfl, rfl, trivial⟩) (by exact fun w2 hw => hw) (J2607 v633)
 refine SP.alloc (cs := [(.slice none 0 0), (.slice none 0 0), (.slice none 0 0), .int .i64 0]) inf25 rfl rfl (fun b2033 => go ?_)
 refine QE.atT (fun w2 hw => (St.selO [1, 2] rfl rfl hw)) ?_
 refine DT.list (l2 := #[true, true, false, true, true, false, true, true, false, true, false]) (by kernel_rfl) ?_
 exact DT.weak (by exact ⟨rfl, rfl, rfl, rfl, rfl, rfl, trivial⟩) (by exact fun w2 hw => hw) (J2613 b2033)
end Go.Proofs.YtehjiiebjkkcmaaGreatDoor
end
