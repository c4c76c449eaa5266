/- Functions of the program as plain functions, with the proof that the code computes them: printed by gen.py of this session. -/
import Derived.Test.YtpbmkaenleedoaaDoorProg
import Derived.Test.YtpbmkaenleedoaaDoorQ32vc4018c
import Derived.Ground.Names8Prog
import Derived.Ground.NamesProg
import Derived.Ground.SlgcProg
import Derived.Ground.SlgmProg
import Derived.Ground.SlgnProg
import Derived.Ground.SlsfProg
import Derived.Shelf.Bits.Mul64
import Derived.Shelf.Lay
import Derived.Shelf.SlGeneric
import Derived.Shelf.SlSortCmp.WholeK
import Derived.Shelf.SlicesE.Reverse
import Derived.Shelf.SlicesG.Cmp
import Derived.Shelf.SlicesG.CompactI
import Derived.Shelf.Small.Bits
import Derived.Shelf.SortM.Plain
import Derived.Shelf.SortM.SortNone
import Derived.Shelf.Spec.SlicesGrow
import Derived.Test.YtpbmkaenleedoaaDoorGTypesWayp3
set_option linter.unusedVariables false
set_option linter.unusedSimpArgs false
set_option maxRecDepth 20000
set_option maxHeartbeats 2000000
noncomputable section
namespace Go.Proofs.YtpbmkaenleedoaaDoor
open Go.Q
/-! ### capstan/capstanlaw10.TypesWay: function 3 -/
inductive capstanlaw10_TypesWay.S where
  | start
  | l1 (t9 : (List types_Row) × Int) (x41 : api_Method) (l92 : List Int) (x94 : Int) (x95 : Int) (x96 : Int)

def capstanlaw10_TypesWay.j3 (m_0 : api_Module) (k_1 : Int) (ways_2 : (List Bool)) (t9 : (List types_Row) × Int) (x41 : api_Method) (x96 : Int) (t120 : (List Int) × Bool) (t123 : (List Int) × Int) (x134 : Int) (x136 : Int) : Option (capstanlaw10_TypesWay.S ⊕ Bool) :=
  (elt t123.1 x134).bind fun x139 => some (.inl (.l1 t9 x41 t120.1 x139 x136 (IntKind.i64.wrap (x96 + 1))))

def capstanlaw10_TypesWay.j2 (m_0 : api_Module) (k_1 : Int) (ways_2 : (List Bool)) (t9 : (List types_Row) × Int) (x41 : api_Method) (x95 : Int) (x96 : Int) (t120 : (List Int) × Bool) (t123 : (List Int) × Int) (x134 : Int) : Option (capstanlaw10_TypesWay.S ⊕ Bool) :=
  if (t123.1.length : Int) > 1 then (capstanlaw10_TypesWay.j3 m_0 k_1 ways_2 t9 x41 x96 t120 t123 x134 (IntKind.i64.wrap (x95 + 1))) else (capstanlaw10_TypesWay.j3 m_0 k_1 ways_2 t9 x41 x96 t120 t123 x134 x95)

def capstanlaw10_TypesWay.j1 (m_0 : api_Module) (k_1 : Int) (ways_2 : (List Bool)) (t9 : (List types_Row) × Int) (b37 : Bool) : Option (capstanlaw10_TypesWay.S ⊕ Bool) :=
  if b37 = true then (some (.inr false)) else ((elt m_0.Methods k_1).bind fun x41 => some (.inl (.l1 t9 x41 [] 0 0 0)))

def capstanlaw10_TypesWay.F (m_0 : api_Module) (k_1 : Int) (ways_2 : (List Bool)) : capstanlaw10_TypesWay.S → Option (capstanlaw10_TypesWay.S ⊕ Bool)
  | .start => (capstanlaw10_awake.f ).bind fun t7 => if (!t7) = true then (some (.inr false)) else ((capstanlaw08_Great.f m_0).bind fun t8 => if t8 = true then (some (.inr true)) else ((types_Rows.f m_0 k_1).bind fun t9 => if t9.2 ≠ 0 then (some (.inr (decide ((t9.1.length : Int) = 0)))) else (if k_1 < 0 then (capstanlaw10_TypesWay.j1 m_0 k_1 ways_2 t9 true) else (if k_1 ≥ (m_0.Methods.length : Int) then (capstanlaw10_TypesWay.j1 m_0 k_1 ways_2 t9 true) else ((elt m_0.Methods k_1).bind fun x18 => if (t9.1.length : Int) ≠ (x18.Code.length : Int) then (capstanlaw10_TypesWay.j1 m_0 k_1 ways_2 t9 true) else ((elt m_0.Methods k_1).bind fun x28 => (capstanlaw10_named.f m_0 x28).bind fun t36 => capstanlaw10_TypesWay.j1 m_0 k_1 ways_2 t9 (!t36)))))))
  | .l1 t9 x41 l92 x94 x95 x96 => if x96 < 400 then (if ((decide (x94 < 0)) || (decide (x94 ≥ (t9.1.length : Int)))) = true then (some (.inr false)) else ((elt t9.1 x94).bind fun x101 => (if (!x101.Reached) = true then (some true) else ((elt t9.1 x94).bind fun x106 => (capstanref07_SameKinds.f x106.Kinds l92).bind fun t110 => some (!t110))).bind fun t111 => (if t111 = true then (some true) else ((types_Height.f t9.1).bind fun t114 => some (decide ((l92.length : Int) > t114)))).bind fun t115 => if t115 = true then (some (.inr false)) else ((elt x41.Code x94).bind fun x118 => (capstanlaw10_step.f m_0 x41 x118 l92).bind fun t120 => if (!t120.2) = true then (some (.inr false)) else ((flow_Ways.f x41.Code x94).bind fun t123 => if t123.2 ≠ 0 then (some (.inr false)) else (if (t123.1.length : Int) = 0 then (some (.inr true)) else ((if ((decide ((t123.1.length : Int) > 1)) && (decide (x95 < (ways_2.length : Int)))) = true then ((elt ways_2 x95).bind fun x132 => some x132) else (some false)).bind fun t133 => if t133 = true then (capstanlaw10_TypesWay.j2 m_0 k_1 ways_2 t9 x41 x95 x96 t120 t123 1) else (capstanlaw10_TypesWay.j2 m_0 k_1 ways_2 t9 x41 x95 x96 t120 t123 0))))))) else (some (.inr true))

def capstanlaw10_TypesWay.f (m_0 : api_Module) (k_1 : Int) (ways_2 : (List Bool)) : Option Bool := runF (capstanlaw10_TypesWay.F m_0 k_1 ways_2) .start
theorem capstanlaw10_TypesWay.ok (m_0 : api_Module) (k_1 : Int) (ways_2 : (List Bool)) (v_m_0_Globals : Value) (v_m_0_Pool : Value) (v_m_0_Methods : Value) (v_ways_2 : Value)  (r : Bool) (H : capstanlaw10_TypesWay.f m_0 k_1 ways_2 = some r) (w : World) (hV : Hp) (sV : Sub hV (hp w)) (h0 : slR k_api_Value hV v_m_0_Globals m_0.Globals) (h1 : slR k_api_Value hV v_m_0_Pool m_0.Pool) (h2 : slR k_api_Method hV v_m_0_Methods m_0.Methods) (h3 : slR kBool hV v_ways_2 ways_2) (h4 : (arrP k_arr136 0 tab0).p hV) :
    Trip Tryd.prog 3 [.agg #[v_m_0_Globals, v_m_0_Pool, v_m_0_Methods, .int .i64 m_0.Migrate], .int .i64 k_1, v_ways_2].toArray em hV w (fun v => HO.pure (v = .bool r)) := by
  have see : Sees w em hV := ⟨sV, Dj.em_right _⟩
  refine Trip.of (P := Tryd.prog) (n := ⟨156, []⟩) Tryd.func3 rfl ⟨rfl, rfl⟩ rfl (St.begin (All.cons (x := slP k_api_Value v_m_0_Globals m_0.Globals) h0 (All.cons (x := slP k_api_Value v_m_0_Pool m_0.Pool) h1 (All.cons (x := slP k_api_Method v_m_0_Methods m_0.Methods) h2 (All.cons (x := slP kBool v_ways_2 ways_2) h3 (All.cons (x := arrP k_arr136 0 tab0) h4 (All.nil _))))))) ?_
  obtain ⟨n0, hi⟩ := runF_iff.1 H
  obtain ⟨m0, o, hm0, ho, hr⟩ := iter_some hi
  clear hi
  refine CP.seq ?_
  refine CP.region ?_
  refine SP.box (cs := [v_m_0_Globals, v_m_0_Pool, v_m_0_Methods, .int .i64 m_0.Migrate]) rfl rfl rfl rfl (fun b5 => ?_)
  refine SP.val (Val.assign rfl) rfl rfl rfl ?_
  refine SP.nil ?_
  refine QE.then ?_
  refine CP.seq ?_
  refine CP.seq ?_
  refine CP.region ?_
  obtain ⟨t7, hc, ho⟩ := bind_some (x := capstanlaw10_awake.f ) ho
  refine SP.callV see (caps := []) (.bool t7) fn7 rfl rfl rfl rfl (fun w2 hP hs sub ap => capstanlaw10_awake.ok   _ hc w2 hP sub (ap.get 4 rfl)) ?_
  clear hc
  refine SP.val (Val.notB rfl) rfl rfl rfl ?_
  refine SP.nil ?_
  refine QE.then ?_
  rcases if_some ho with ⟨hc, ho⟩ | ⟨hc, ho⟩
  · refine CP.condT rfl hc ?_
    refine CP.seq ?_
    refine CP.region ?_
    refine SP.val (Val.assign rfl) rfl rfl rfl ?_
    refine SP.nil ?_
    refine QE.then ?_
    refine CP.ret ?_
    refine QE.thru (by intro e; cases e) ?_
    obtain rfl := Option.some.inj ho
    obtain rfl := Option.some.inj hr
    exact QE.rets (rs := [.tmp 6]) (vs := [.bool false]) Tryd.results3 rfl ⟨RVs.tmp rfl, trivial⟩ (fun w2 h => St.done (fun a b p s => rfl) h)
  · refine CP.condF rfl (bf hc) ?_
    refine CP.skip ?_
    refine QE.then ?_
    refine CP.seq ?_
    refine CP.seq ?_
    refine CP.region ?_
    refine SP.val (Val.loadA 0 rfl Tryd.underlying25 rfl sz25 rfl rfl rfl) rfl rfl rfl ?_
    obtain ⟨t8, hc, ho⟩ := bind_some (x := capstanlaw08_Great.f m_0) ho
    refine SP.callV see (caps := []) (.bool t8) fn8 rfl rfl rfl rfl (fun w2 hP hs sub ap => capstanlaw08_Great.ok m_0 _ _ _ _ hc w2 hP sub (ap.get 0 rfl) (ap.get 1 rfl) (ap.get 2 rfl)) ?_
    clear hc
    refine SP.nil ?_
    refine QE.then ?_
    rcases if_some ho with ⟨hc, ho⟩ | ⟨hc, ho⟩
    · refine CP.condT rfl hc ?_
      refine CP.seq ?_
      refine CP.region ?_
      refine SP.val (Val.assign rfl) rfl rfl rfl ?_
      refine SP.nil ?_
      refine QE.then ?_
      refine CP.ret ?_
      refine QE.thru (by intro e; cases e) ?_
      obtain rfl := Option.some.inj ho
      obtain rfl := Option.some.inj hr
      exact QE.rets (rs := [.tmp 6]) (vs := [.bool true]) Tryd.results3 rfl ⟨RVs.tmp rfl, trivial⟩ (fun w2 h => St.done (fun a b p s => rfl) h)
    · refine CP.condF rfl (bf hc) ?_
      refine CP.skip ?_
      refine QE.then ?_
      refine CP.seq ?_
      refine CP.region ?_
      refine SP.val (Val.loadA 0 rfl Tryd.underlying25 rfl sz25 rfl rfl rfl) rfl rfl rfl ?_
      refine SP.val (Val.move rfl) rfl rfl rfl ?_
      obtain ⟨t9, hc, ho⟩ := bind_some (x := types_Rows.f m_0 k_1) ho
      refine SP.callK see (caps := []) _ fn9 rfl rfl rfl rfl (fun w2 hP hs sub ap => types_Rows.ok m_0 k_1 _ _ _ _ hc w2 hP sub (ap.get 0 rfl) (ap.get 1 rfl) (ap.get 2 rfl) (ap.get 4 rfl)) (fun vr => ?_)
      refine SP.ex (fun w2 h => St.open h) (fun v10 => ?_)
      refine SP.have (fun w2 h => (St.pand h).1.symm) (fun er => ?_)
      subst er
      refine SP.imp (fun w2 h => St.seps (St.pand h).2) ?_
      clear hc
      refine SP.val (Val.move rfl) rfl rfl rfl ?_
      refine SP.val (Val.extract rfl rfl) rfl rfl rfl ?_
      refine SP.val (Val.extract rfl rfl) rfl rfl rfl ?_
      refine SP.val (Val.assign rfl) rfl rfl rfl ?_
      refine SP.val (Val.assign rfl) rfl rfl rfl ?_
      refine SP.nil ?_
      refine QE.then ?_
      refine CP.seq ?_
      refine CP.seq ?_
      refine CP.region ?_
      refine SP.val (Val.move rfl) rfl rfl rfl ?_
      refine SP.val (Val.neq rfl rfl) rfl rfl rfl ?_
      refine SP.nil ?_
      refine QE.then ?_
      rcases if_some ho with ⟨hc, ho⟩ | ⟨hc, ho⟩
      · refine CP.condT rfl (decide_eq_true hc) ?_
        refine CP.seq ?_
        refine CP.region ?_
        refine SP.val (Val.move rfl) rfl rfl rfl ?_
        refine SP.val (Val.lenW (fun w2 hw => slO.whole (St.own 0 rfl see.sub see.dj hw)) Tryd.underlying29 rfl) rfl rfl rfl ?_
        refine SP.val (Val.eql rfl rfl) rfl rfl rfl ?_
        refine SP.val (Val.assign rfl) rfl rfl rfl ?_
        refine SP.nil ?_
        refine QE.then ?_
        refine CP.ret ?_
        refine QE.thru (by intro e; cases e) ?_
        obtain rfl := Option.some.inj ho
        obtain rfl := Option.some.inj hr
        exact QE.rets (rs := [.tmp 6]) (vs := [.bool (decide ((t9.1.length : Int) = 0))]) Tryd.results3 rfl ⟨RVs.tmp rfl, trivial⟩ (fun w2 h => St.done (fun a b p s => rfl) h)
      · refine CP.condF rfl (decide_eq_false hc) ?_
        refine CP.skip ?_
        refine QE.then ?_
        refine CP.seq ?_
        refine CP.join (fun a w2 => ∃ b37 : Bool, ∃ (m38 : Nat) (o : (capstanlaw10_TypesWay.S ⊕ Bool)), m38 ≤ m0 ∧ capstanlaw10_TypesWay.j1 m_0 k_1 ways_2 t9 b37 = some o ∧ next (capstanlaw10_TypesWay.F m_0 k_1 ways_2) m38 o = some r ∧ Env ⟨156, []⟩ [(1, .int .i64 k_1), (2, v_ways_2), (3, .pointer (some ⟨b5, 0, none⟩)), (7, v10), (64, .bool b37)] a ∧ St w em hV [slP k_api_Value v_m_0_Globals m_0.Globals, slP k_api_Value v_m_0_Pool m_0.Pool, slP k_api_Method v_m_0_Methods m_0.Methods, slP kBool v_ways_2 ways_2, arrP k_arr136 0 tab0] [slO k_types_Row 39 v10 t9.1, boxO b5 [v_m_0_Globals, v_m_0_Pool, v_m_0_Methods, .int .i64 m_0.Migrate] 25] w2) ?_ ?_
        · rintro a w2 ⟨b37, m38, o, hm_m38, ho, hr, ha, hw⟩
          refine CP.app ha hw ?_
          clear ha hw a w2
          rcases if_some ho with ⟨hc, ho⟩ | ⟨hc, ho⟩
          · refine CP.condT rfl hc ?_
            refine CP.seq ?_
            refine CP.region ?_
            refine SP.val (Val.assign rfl) rfl rfl rfl ?_
            refine SP.nil ?_
            refine QE.then ?_
            refine CP.ret ?_
            refine QE.thru (by intro e; cases e) ?_
            obtain rfl := Option.some.inj ho
            obtain rfl := Option.some.inj hr
            exact QE.rets (rs := [.tmp 6]) (vs := [.bool false]) Tryd.results3 rfl ⟨RVs.tmp rfl, trivial⟩ (fun w2 h => St.done (fun a b p s => rfl) h)
          · refine CP.condF rfl (bf hc) ?_
            refine CP.skip ?_
            refine QE.then ?_
            refine CP.seq ?_
            refine CP.region ?_
            refine SP.val (Val.fieldAddr Tryd.underlying25 rfl sz23 rfl) rfl rfl rfl ?_
            refine SP.val (Val.load1 1 rfl Tryd.underlying23 rfl rfl rfl) rfl rfl rfl ?_
            refine SP.val (Val.move rfl) rfl rfl rfl ?_
            obtain ⟨x41, hx, ho⟩ := bind_some ho
            have hx := elt_some hx
            refine SP.indexP see 2 rfl Tryd.underlying23 sz36 hx.1 hx.2 rfl rfl rfl rfl (fun p39 => ?_)
            clear hx
            refine k_api_Method.load see 0 rfl Tryd.underlying36 rfl sz36 rfl rfl rfl (fun v42 v44 v46 => ?_)
            refine SP.alloc (cs := [(.slice none 0 0), (.slice none 0 0), .int .u8 0, .bool false, .int .i64 0, .int .i64 0, .int .i64 0, (.slice none 0 0)]) inf36 rfl rfl (fun b48 => ?_)
            refine SP.have (fun w2 hw => slR.shape (St.pers 0 rfl see.sub see.dj hw)) (fun hs_v42 => ?_)
            refine SP.have (fun w2 hw => slR.shape (St.pers 1 rfl see.sub see.dj hw)) (fun hs_v44 => ?_)
            refine SP.have (fun w2 hw => slR.shape (St.pers 2 rfl see.sub see.dj hw)) (fun hs_v46 => ?_)
            refine SP.store (v := .agg #[v42, v44, .int .u8 x41.Result, .bool x41.Reads, .int .i64 x41.Fuel, .int .i64 x41.Stack, .int .i64 x41.Heap, v46]) (vs := [v42, v44, .int .u8 x41.Result, .bool x41.Reads, .int .i64 x41.Fuel, .int .i64 x41.Stack, .int .i64 x41.Heap, v46]) 0 (by rfl) sz36 (by rfl) (by rfl) (by rfl) (by rfl) (one_cons hs_v42 (one_cons hs_v44 (one_cons rfl (one_cons rfl (one_cons rfl (one_cons rfl (one_cons rfl (one_cons hs_v46 (rfl))))))))) (by rfl) ?_
            refine SP.nil ?_
            refine QE.then ?_
            refine CP.seq ?_
            refine CP.region ?_
            refine SP.val (Val.assign rfl) rfl rfl rfl ?_
            refine SP.nil ?_
            refine QE.then ?_
            refine CP.seq ?_
            refine CP.region ?_
            refine SP.val (Val.assign rfl) rfl rfl rfl ?_
            refine SP.val (Val.assign rfl) rfl rfl rfl ?_
            refine SP.nil ?_
            refine QE.then ?_
            refine CP.seq ?_
            refine CP.seq ?_
            refine CP.region ?_
            refine SP.val (Val.assign rfl) rfl rfl rfl ?_
            refine SP.nil ?_
            refine QE.then ?_
            refine CP.block ?_
            obtain rfl := Option.some.inj ho
            refine CP.loop (fun cl1 a w2 => ∃ l92 : List Int, ∃ x94 : Int, ∃ x95 : Int, ∃ x96 : Int, ∃ v93 : Value, cl1 ≤ m38 ∧ iter (capstanlaw10_TypesWay.F m_0 k_1 ways_2) cl1 (.l1 t9 x41 l92 x94 x95 x96) = some r ∧ Env ⟨156, []⟩ [(2, v_ways_2), (3, .pointer (some ⟨b5, 0, none⟩)), (7, v10), (9, .pointer (some ⟨b48, 0, none⟩)), (10, v93), (11, .int .i64 x94), (12, .int .i64 x95), (13, .int .i64 x96)] a ∧ St w em hV [slP (kInt .u8) v42 x41.Args, slP (kInt .u8) v44 x41.Locals, slP k_api_Instr v46 x41.Code, slP k_api_Value v_m_0_Globals m_0.Globals, slP k_api_Value v_m_0_Pool m_0.Pool, slP k_api_Method v_m_0_Methods m_0.Methods, slP kBool v_ways_2 ways_2, arrP k_arr136 0 tab0] [slO (kInt .u8) 5 v93 l92, boxO b48 [v42, v44, .int .u8 x41.Result, .bool x41.Reads, .int .i64 x41.Fuel, .int .i64 x41.Stack, .int .i64 x41.Heap, v46] 36, slO k_types_Row 39 v10 t9.1, boxO b5 [v_m_0_Globals, v_m_0_Pool, v_m_0_Methods, .int .i64 m_0.Migrate] 25] w2) m38 (fun a w2 ha hw => ⟨[], 0, 0, 0, (.slice none 0 0), Nat.le_refl _, hr, ha.sub ⟨rfl, rfl, rfl, rfl, rfl, rfl, rfl, rfl, trivial⟩, (St.selP [0, 1, 2, 4, 5, 6, 7, 8] rfl (St.addO (slO.nil (kInt .u8) 5) hw))⟩) ?_
            clear hr
            rintro cl1 a w2 ⟨l92, x94, x95, x96, v93, hc_l1, hi, ha, hw⟩
            obtain ⟨m97, o, hm_m97, ho, hr⟩ := iter_some hi
            refine CP.app ha hw ?_
            clear ha hw a w2 hi
            refine CP.seq ?_
            refine CP.seq ?_
            refine CP.region ?_
            refine SP.val (Val.move rfl) rfl rfl rfl ?_
            refine SP.val (Val.lss rfl rfl) rfl rfl rfl ?_
            refine SP.nil ?_
            refine QE.then ?_
            rcases if_some ho with ⟨hc, ho⟩ | ⟨hc, ho⟩
            · refine CP.condT rfl (decide_eq_true hc) ?_
              refine CP.skip ?_
              refine QE.then ?_
              refine CP.seq ?_
              refine CP.block ?_
              refine CP.seq ?_
              refine CP.seq ?_
              refine CP.region ?_
              refine SP.val (Val.move rfl) rfl rfl rfl ?_
              refine SP.val (Val.lss rfl rfl) rfl rfl rfl ?_
              refine SP.val (Val.move rfl) rfl rfl rfl ?_
              refine SP.join 5 (fun a w2 => Env ⟨156, []⟩ [(2, v_ways_2), (3, .pointer (some ⟨b5, 0, none⟩)), (7, v10), (9, .pointer (some ⟨b48, 0, none⟩)), (10, v93), (11, .int .i64 x94), (12, .int .i64 x95), (13, .int .i64 x96), (81, .bool ((decide (x94 < 0)) || (decide (x94 ≥ (t9.1.length : Int)))))] a ∧ St w em hV [slP (kInt .u8) v42 x41.Args, slP (kInt .u8) v44 x41.Locals, slP k_api_Instr v46 x41.Code, slP k_api_Value v_m_0_Globals m_0.Globals, slP k_api_Value v_m_0_Pool m_0.Pool, slP k_api_Method v_m_0_Methods m_0.Methods, slP kBool v_ways_2 ways_2, arrP k_arr136 0 tab0] [slO (kInt .u8) 5 v93 l92, boxO b48 [v42, v44, .int .u8 x41.Result, .bool x41.Reads, .int .i64 x41.Fuel, .int .i64 x41.Stack, .int .i64 x41.Heap, v46] 36, slO k_types_Row 39 v10 t9.1, boxO b5 [v_m_0_Globals, v_m_0_Pool, v_m_0_Methods, .int .i64 m_0.Migrate] 25] w2) ?_ ?_
              · rintro a w2 ⟨ha, hw⟩
                refine SP.app ha hw ?_
                clear ha hw a w2
                refine SP.nil ?_
                refine QE.then ?_
                rcases if_some ho with ⟨hc, ho⟩ | ⟨hc, ho⟩
                · refine CP.condT rfl hc ?_
                  refine CP.seq ?_
                  refine CP.region ?_
                  refine SP.val (Val.assign rfl) rfl rfl rfl ?_
                  refine SP.nil ?_
                  refine QE.then ?_
                  refine CP.ret ?_
                  refine QE.thru (by intro e; cases e) ?_
                  refine QE.blockR ?_
                  refine QE.thru (by intro e; cases e) ?_
                  refine QE.thru (by intro e; cases e) ?_
                  refine QE.blockR ?_
                  refine QE.thru (by intro e; cases e) ?_
                  obtain rfl := Option.some.inj ho
                  obtain rfl := Option.some.inj hr
                  exact QE.rets (rs := [.tmp 6]) (vs := [.bool false]) Tryd.results3 rfl ⟨RVs.tmp rfl, trivial⟩ (fun w2 h => St.done (fun a b p s => rfl) h)
                · refine CP.condF rfl (bf hc) ?_
                  refine CP.skip ?_
                  refine QE.then ?_
                  refine CP.seq ?_
                  refine CP.seq ?_
                  refine CP.region ?_
                  refine SP.val (Val.move rfl) rfl rfl rfl ?_
                  refine SP.val (Val.move rfl) rfl rfl rfl ?_
                  obtain ⟨x101, hx_x101, ho⟩ := bind_some ho
                  have hx_x101 := elt_some hx_x101
                  refine SP.indexW (fun w2 hw => slO.whole (St.own 2 rfl see.sub see.dj hw)) Tryd.underlying29 sz39 hx_x101.1 hx_x101.2 rfl rfl rfl rfl (fun p100 h_p100 => ?_)
                  refine SP.fieldO h_p100 Tryd.underlying39 rfl sz4 rfl rfl rfl (fun p102 h_p102 => ?_)
                  refine SP.val (Val.loadW1 (off := 0) (k := k_types_Row) (fun w2 hw => slO.whole (St.own 2 rfl see.sub see.dj hw)) hx_x101.2 h_p102 (fun _ _ ⟨_, e, _⟩ => by subst e; rfl) Tryd.underlying4 rfl rfl) rfl rfl rfl ?_
                  refine SP.val (Val.notB rfl) rfl rfl rfl ?_
                  refine SP.val (Val.move rfl) rfl rfl rfl ?_
                  obtain ⟨t111, hg_t111, ho⟩ := bind_some ho
                  refine SP.join 9 (fun a w2 => Env ⟨156, []⟩ [(2, v_ways_2), (3, .pointer (some ⟨b5, 0, none⟩)), (7, v10), (9, .pointer (some ⟨b48, 0, none⟩)), (10, v93), (11, .int .i64 x94), (12, .int .i64 x95), (13, .int .i64 x96), (97, .bool t111)] a ∧ St w em hV [slP (kInt .u8) v42 x41.Args, slP (kInt .u8) v44 x41.Locals, slP k_api_Instr v46 x41.Code, slP k_api_Value v_m_0_Globals m_0.Globals, slP k_api_Value v_m_0_Pool m_0.Pool, slP k_api_Method v_m_0_Methods m_0.Methods, slP kBool v_ways_2 ways_2, arrP k_arr136 0 tab0] [slO (kInt .u8) 5 v93 l92, boxO b48 [v42, v44, .int .u8 x41.Result, .bool x41.Reads, .int .i64 x41.Fuel, .int .i64 x41.Stack, .int .i64 x41.Heap, v46] 36, slO k_types_Row 39 v10 t9.1, boxO b5 [v_m_0_Globals, v_m_0_Pool, v_m_0_Methods, .int .i64 m_0.Migrate] 25] w2) ?_ ?_
                  · rintro a w2 ⟨ha, hw⟩
                    refine SP.app ha hw ?_
                    clear ha hw a w2 hg_t111
                    refine SP.val (Val.move rfl) rfl rfl rfl ?_
                    obtain ⟨t115, hg_t115, ho⟩ := bind_some ho
                    refine SP.join 6 (fun a w2 => Env ⟨156, []⟩ [(2, v_ways_2), (3, .pointer (some ⟨b5, 0, none⟩)), (7, v10), (9, .pointer (some ⟨b48, 0, none⟩)), (10, v93), (11, .int .i64 x94), (12, .int .i64 x95), (13, .int .i64 x96), (104, .bool t115)] a ∧ St w em hV [slP (kInt .u8) v42 x41.Args, slP (kInt .u8) v44 x41.Locals, slP k_api_Instr v46 x41.Code, slP k_api_Value v_m_0_Globals m_0.Globals, slP k_api_Value v_m_0_Pool m_0.Pool, slP k_api_Method v_m_0_Methods m_0.Methods, slP kBool v_ways_2 ways_2, arrP k_arr136 0 tab0] [slO (kInt .u8) 5 v93 l92, boxO b48 [v42, v44, .int .u8 x41.Result, .bool x41.Reads, .int .i64 x41.Fuel, .int .i64 x41.Stack, .int .i64 x41.Heap, v46] 36, slO k_types_Row 39 v10 t9.1, boxO b5 [v_m_0_Globals, v_m_0_Pool, v_m_0_Methods, .int .i64 m_0.Migrate] 25] w2) ?_ ?_
                    · rintro a w2 ⟨ha, hw⟩
                      refine SP.app ha hw ?_
                      clear ha hw a w2 hg_t115
                      refine SP.nil ?_
                      refine QE.then ?_
                      rcases if_some ho with ⟨hc, ho⟩ | ⟨hc, ho⟩
                      · refine CP.condT rfl hc ?_
                        refine CP.seq ?_
                        refine CP.region ?_
                        refine SP.val (Val.assign rfl) rfl rfl rfl ?_
                        refine SP.nil ?_
                        refine QE.then ?_
                        refine CP.ret ?_
                        refine QE.thru (by intro e; cases e) ?_
                        refine QE.blockR ?_
                        refine QE.thru (by intro e; cases e) ?_
                        refine QE.thru (by intro e; cases e) ?_
                        refine QE.blockR ?_
                        refine QE.thru (by intro e; cases e) ?_
                        obtain rfl := Option.some.inj ho
                        obtain rfl := Option.some.inj hr
                        exact QE.rets (rs := [.tmp 6]) (vs := [.bool false]) Tryd.results3 rfl ⟨RVs.tmp rfl, trivial⟩ (fun w2 h => St.done (fun a b p s => rfl) h)
                      · refine CP.condF rfl (bf hc) ?_
                        refine CP.skip ?_
                        refine QE.then ?_
                        refine CP.seq ?_
                        refine CP.drawA (by kernel_rfl) (fun w2 k h => h.drawn k) ?_
                        obtain ⟨x118, hx, ho⟩ := bind_some ho
                        have hx := elt_some hx
                        refine DA.ghost (fun w2 h => h.elem see 2 rfl hx.1 hx.2) (fun p116 h_p116 => ?_)
                        clear hx
                        refine DA.ghost (fun w2 h => h.openE see 0 rfl (fun _ : Unit => [.int .u8 x118.Op, .int .i64 x118.A, .int .i64 x118.B]) (fun _ => []) (fun h cs e => ⟨(), e, All.nil _⟩)) (fun _ _ => ?_)
                        refine DA.phase (fun i => Nat.ble 0 i && Nat.blt i 8) (fun w2 => St w em hV [atP p116 [.int .u8 x118.Op, .int .i64 x118.A, .int .i64 x118.B], elP k_api_Instr p116 x118, slP (kInt .u8) v42 x41.Args, slP (kInt .u8) v44 x41.Locals, slP k_api_Instr v46 x41.Code, slP k_api_Value v_m_0_Globals m_0.Globals, slP k_api_Value v_m_0_Pool m_0.Pool, slP k_api_Method v_m_0_Methods m_0.Methods, slP kBool v_ways_2 ways_2, arrP k_arr136 0 tab0] [slO (kInt .u8) 5 v93 l92, boxO b48 [v42, v44, .int .u8 x41.Result, .bool x41.Reads, .int .i64 x41.Fuel, .int .i64 x41.Stack, .int .i64 x41.Heap, v46] 36, slO k_types_Row 39 v10 t9.1, boxO b5 [v_m_0_Globals, v_m_0_Pool, v_m_0_Methods, .int .i64 m_0.Migrate] 25] w2) ?_
                        refine DT.take 0 rfl rfl rfl rfl (by kernel_rfl) (fun _ _ _ h => h) (Val.loadA 3 rfl Tryd.underlying25 rfl sz25 rfl rfl rfl) (fun w2 hw => hw) ?_
                        refine DT.take 1 rfl rfl rfl rfl (by kernel_rfl) (fun _ _ _ h => h) (Val.loadA 1 rfl Tryd.underlying36 rfl sz36 rfl rfl rfl) (fun w2 hw => hw) ?_
                        refine DT.take 2 rfl rfl rfl rfl (by kernel_rfl) (fun _ _ _ h => h) (Val.fieldAddr Tryd.underlying36 rfl sz34 rfl) (fun w2 hw => hw) ?_
                        refine DT.take 3 rfl rfl rfl rfl (by kernel_rfl) (fun _ _ _ h => h) (Val.load1 1 rfl Tryd.underlying34 rfl rfl rfl) (fun w2 hw => hw) ?_
                        refine DT.take 4 rfl rfl rfl rfl (by kernel_rfl) (fun _ _ _ h => h) (Val.move rfl) (fun w2 hw => hw) ?_
                        refine DT.take 5 rfl rfl rfl rfl (by kernel_rfl) (fun _ _ _ h => h) (Val.indexE h_p116 Tryd.underlying34 sz45 rfl rfl) (fun w2 hw => hw) ?_
                        refine DT.take 6 rfl rfl rfl rfl (by kernel_rfl) (fun _ _ _ h => h) (Val.loadAtA see 0 rfl Tryd.underlying45 rfl sz45 rfl) (fun w2 hw => hw) ?_
                        refine DT.take 7 rfl rfl rfl rfl (by kernel_rfl) (fun _ _ _ h => h) (Val.move rfl) (fun w2 hw => hw) ?_
                        refine DT.next (by kernel_rfl) ?_
                        refine DA.one 8 rfl (by kernel_rfl) ?_
                        obtain ⟨t120, hc, ho⟩ := bind_some (x := capstanlaw10_step.f m_0 x41 x118 l92) ho
                        refine SP.callKO see (caps := []) _ fn13 rfl rfl rfl rfl (fun w2 hs => capstanlaw10_step.ok m_0 x41 x118 l92 _ _ _ _ _ _ _ _ hc w2 (hp w2) (Sub.refl _) ((St.pers 5 rfl see.sub see.dj hs)) ((St.pers 6 rfl see.sub see.dj hs)) ((St.pers 7 rfl see.sub see.dj hs)) ((St.pers 2 rfl see.sub see.dj hs)) ((St.pers 3 rfl see.sub see.dj hs)) ((St.pers 4 rfl see.sub see.dj hs)) (slO.read (St.own 0 rfl see.sub see.dj hs) (Sub.refl _) (Sub.refl _))) (fun v a a2 b ⟨v121, e, h⟩ => ⟨v121, e, (Sep.fcons (fun _ => slO.flip (fun _ _ _ _ h => h)) (fun _ => Sep.fnil)) h⟩) (fun vr => ?_)
                        refine SP.ex (fun w2 h => St.open h) (fun v121 => ?_)
                        refine SP.have (fun w2 h => (St.pand h).1.symm) (fun er => ?_)
                        subst er
                        refine SP.imp (fun w2 h => St.seps (St.pand h).2) ?_
                        clear hc
                        refine SP.nil ?_
                        refine QE.atA ?_
                        refine DA.one 9 rfl (by kernel_rfl) ?_
                        refine SP.val (Val.move rfl) rfl rfl rfl ?_
                        refine SP.nil ?_
                        refine QE.atA ?_
                        refine DA.phase (fun i => Nat.ble 10 i && Nat.blt i 13) (fun w2 => St w em hV [atP p116 [.int .u8 x118.Op, .int .i64 x118.A, .int .i64 x118.B], elP k_api_Instr p116 x118, slP (kInt .u8) v42 x41.Args, slP (kInt .u8) v44 x41.Locals, slP k_api_Instr v46 x41.Code, slP k_api_Value v_m_0_Globals m_0.Globals, slP k_api_Value v_m_0_Pool m_0.Pool, slP k_api_Method v_m_0_Methods m_0.Methods, slP kBool v_ways_2 ways_2, arrP k_arr136 0 tab0] [slO (kInt .u8) 5 v121 t120.1, slO (kInt .u8) 5 v93 l92, boxO b48 [v42, v44, .int .u8 x41.Result, .bool x41.Reads, .int .i64 x41.Fuel, .int .i64 x41.Stack, .int .i64 x41.Heap, v46] 36, slO k_types_Row 39 v10 t9.1, boxO b5 [v_m_0_Globals, v_m_0_Pool, v_m_0_Methods, .int .i64 m_0.Migrate] 25] w2) ?_
                        refine DT.take 10 rfl rfl rfl rfl (by kernel_rfl) (fun _ _ _ h => h) (Val.extract rfl rfl) (fun w2 hw => hw) ?_
                        refine DT.take 11 rfl rfl rfl rfl (by kernel_rfl) (fun _ _ _ h => h) (Val.extract rfl rfl) (fun w2 hw => hw) ?_
                        refine DT.take 12 rfl rfl rfl rfl (by kernel_rfl) (fun _ _ _ h => h) (Val.assign rfl) (fun w2 hw => hw) ?_
                        refine DT.next (by kernel_rfl) ?_
                        refine DA.one 13 rfl (by kernel_rfl) ?_
                        refine SP.val (Val.assign rfl) rfl rfl rfl ?_
                        refine SP.nil ?_
                        refine QE.atA ?_
                        refine DA.done (by kernel_rfl) ?_
                        refine QE.then ?_
                        refine CP.seq ?_
                        refine CP.seq ?_
                        refine CP.region ?_
                        refine SP.val (Val.move rfl) rfl rfl rfl ?_
                        refine SP.val (Val.notB rfl) rfl rfl rfl ?_
                        refine SP.nil ?_
                        refine QE.then ?_
                        rcases if_some ho with ⟨hc, ho⟩ | ⟨hc, ho⟩
                        · refine CP.condT rfl hc ?_
                          refine CP.seq ?_
                          refine CP.region ?_
                          refine SP.val (Val.assign rfl) rfl rfl rfl ?_
                          refine SP.nil ?_
                          refine QE.then ?_
                          refine CP.ret ?_
                          refine QE.thru (by intro e; cases e) ?_
                          refine QE.blockR ?_
                          refine QE.thru (by intro e; cases e) ?_
                          refine QE.thru (by intro e; cases e) ?_
                          refine QE.blockR ?_
                          refine QE.thru (by intro e; cases e) ?_
                          obtain rfl := Option.some.inj ho
                          obtain rfl := Option.some.inj hr
                          exact QE.rets (rs := [.tmp 6]) (vs := [.bool false]) Tryd.results3 rfl ⟨RVs.tmp rfl, trivial⟩ (fun w2 h => St.done (fun a b p s => rfl) h)
                        · refine CP.condF rfl (bf hc) ?_
                          refine CP.skip ?_
                          refine QE.then ?_
                          refine CP.seq ?_
                          refine CP.region ?_
                          refine SP.val (Val.fieldAddr Tryd.underlying36 rfl sz34 rfl) rfl rfl rfl ?_
                          refine SP.val (Val.load1 2 rfl Tryd.underlying34 rfl rfl rfl) rfl rfl rfl ?_
                          refine SP.val (Val.move rfl) rfl rfl rfl ?_
                          obtain ⟨t123, hc, ho⟩ := bind_some (x := flow_Ways.f x41.Code x94) ho
                          refine SP.callK see (caps := []) _ fn14 rfl rfl rfl rfl (fun w2 hP hs sub ap => flow_Ways.ok x41.Code x94 _ _ hc w2 hP sub (ap.get 4 rfl) (ap.get 9 rfl)) (fun vr => ?_)
                          refine SP.ex (fun w2 h => St.open h) (fun v124 => ?_)
                          refine SP.have (fun w2 h => (St.pand h).1.symm) (fun er => ?_)
                          subst er
                          refine SP.imp (fun w2 h => St.seps (St.pand h).2) ?_
                          clear hc
                          refine SP.val (Val.move rfl) rfl rfl rfl ?_
                          refine SP.val (Val.extract rfl rfl) rfl rfl rfl ?_
                          refine SP.val (Val.extract rfl rfl) rfl rfl rfl ?_
                          refine SP.val (Val.assign rfl) rfl rfl rfl ?_
                          refine SP.val (Val.assign rfl) rfl rfl rfl ?_
                          refine SP.nil ?_
                          refine QE.then ?_
                          refine CP.seq ?_
                          refine CP.seq ?_
                          refine CP.region ?_
                          refine SP.val (Val.move rfl) rfl rfl rfl ?_
                          refine SP.val (Val.neq rfl rfl) rfl rfl rfl ?_
                          refine SP.nil ?_
                          refine QE.then ?_
                          rcases if_some ho with ⟨hc, ho⟩ | ⟨hc, ho⟩
                          · refine CP.condT rfl (decide_eq_true hc) ?_
                            refine CP.seq ?_
                            refine CP.region ?_
                            refine SP.val (Val.assign rfl) rfl rfl rfl ?_
                            refine SP.nil ?_
                            refine QE.then ?_
                            refine CP.ret ?_
                            refine QE.thru (by intro e; cases e) ?_
                            refine QE.blockR ?_
                            refine QE.thru (by intro e; cases e) ?_
                            refine QE.thru (by intro e; cases e) ?_
                            refine QE.blockR ?_
                            refine QE.thru (by intro e; cases e) ?_
                            obtain rfl := Option.some.inj ho
                            obtain rfl := Option.some.inj hr
                            exact QE.rets (rs := [.tmp 6]) (vs := [.bool false]) Tryd.results3 rfl ⟨RVs.tmp rfl, trivial⟩ (fun w2 h => St.done (fun a b p s => rfl) h)
                          · refine CP.condF rfl (decide_eq_false hc) ?_
                            refine CP.skip ?_
                            refine QE.then ?_
                            refine CP.seq ?_
                            refine CP.seq ?_
                            refine CP.region ?_
                            refine SP.val (Val.move rfl) rfl rfl rfl ?_
                            refine SP.val (Val.lenW (fun w2 hw => slO.whole (St.own 0 rfl see.sub see.dj hw)) Tryd.underlying46 rfl) rfl rfl rfl ?_
                            refine SP.val (Val.eql rfl rfl) rfl rfl rfl ?_
                            refine SP.nil ?_
                            refine QE.then ?_
                            rcases if_some ho with ⟨hc, ho⟩ | ⟨hc, ho⟩
                            · refine CP.condT rfl (decide_eq_true hc) ?_
                              refine CP.seq ?_
                              refine CP.region ?_
                              refine SP.val (Val.assign rfl) rfl rfl rfl ?_
                              refine SP.nil ?_
                              refine QE.then ?_
                              refine CP.ret ?_
                              refine QE.thru (by intro e; cases e) ?_
                              refine QE.blockR ?_
                              refine QE.thru (by intro e; cases e) ?_
                              refine QE.thru (by intro e; cases e) ?_
                              refine QE.blockR ?_
                              refine QE.thru (by intro e; cases e) ?_
                              obtain rfl := Option.some.inj ho
                              obtain rfl := Option.some.inj hr
                              exact QE.rets (rs := [.tmp 6]) (vs := [.bool true]) Tryd.results3 rfl ⟨RVs.tmp rfl, trivial⟩ (fun w2 h => St.done (fun a b p s => rfl) h)
                            · refine CP.condF rfl (decide_eq_false hc) ?_
                              refine CP.skip ?_
                              refine QE.then ?_
                              refine CP.seq ?_
                              refine CP.region ?_
                              refine SP.val (Val.assign rfl) rfl rfl rfl ?_
                              refine SP.nil ?_
                              refine QE.then ?_
                              refine CP.join (fun a w2 => ∃ x134 : Int, ∃ (m135 : Nat) (o : (capstanlaw10_TypesWay.S ⊕ Bool)), m135 ≤ m97 ∧ capstanlaw10_TypesWay.j2 m_0 k_1 ways_2 t9 x41 x95 x96 t120 t123 x134 = some o ∧ next (capstanlaw10_TypesWay.F m_0 k_1 ways_2) m135 o = some r ∧ Env ⟨156, []⟩ [(2, v_ways_2), (3, .pointer (some ⟨b5, 0, none⟩)), (7, v10), (9, .pointer (some ⟨b48, 0, none⟩)), (12, .int .i64 x95), (13, .int .i64 x96), (14, v121), (16, v124), (18, .int .i64 x134)] a ∧ St w em hV [slP (kInt .u8) v42 x41.Args, slP (kInt .u8) v44 x41.Locals, slP k_api_Instr v46 x41.Code, slP k_api_Value v_m_0_Globals m_0.Globals, slP k_api_Value v_m_0_Pool m_0.Pool, slP k_api_Method v_m_0_Methods m_0.Methods, slP kBool v_ways_2 ways_2, arrP k_arr136 0 tab0] [slO (kInt .i64) 3 v124 t123.1, slO (kInt .u8) 5 v121 t120.1, boxO b48 [v42, v44, .int .u8 x41.Result, .bool x41.Reads, .int .i64 x41.Fuel, .int .i64 x41.Stack, .int .i64 x41.Heap, v46] 36, slO k_types_Row 39 v10 t9.1, boxO b5 [v_m_0_Globals, v_m_0_Pool, v_m_0_Methods, .int .i64 m_0.Migrate] 25] w2) ?_ ?_
                              · rintro a w2 ⟨x134, m135, o, hm_m135, ho, hr, ha, hw⟩
                                refine CP.app ha hw ?_
                                clear ha hw a w2
                                refine CP.join (fun a w2 => ∃ x136 : Int, ∃ (m137 : Nat) (o : (capstanlaw10_TypesWay.S ⊕ Bool)), m137 ≤ m135 ∧ capstanlaw10_TypesWay.j3 m_0 k_1 ways_2 t9 x41 x96 t120 t123 x134 x136 = some o ∧ next (capstanlaw10_TypesWay.F m_0 k_1 ways_2) m137 o = some r ∧ Env ⟨156, []⟩ [(2, v_ways_2), (3, .pointer (some ⟨b5, 0, none⟩)), (7, v10), (9, .pointer (some ⟨b48, 0, none⟩)), (12, .int .i64 x136), (13, .int .i64 x96), (14, v121), (16, v124), (18, .int .i64 x134)] a ∧ St w em hV [slP (kInt .u8) v42 x41.Args, slP (kInt .u8) v44 x41.Locals, slP k_api_Instr v46 x41.Code, slP k_api_Value v_m_0_Globals m_0.Globals, slP k_api_Value v_m_0_Pool m_0.Pool, slP k_api_Method v_m_0_Methods m_0.Methods, slP kBool v_ways_2 ways_2, arrP k_arr136 0 tab0] [slO (kInt .i64) 3 v124 t123.1, slO (kInt .u8) 5 v121 t120.1, boxO b48 [v42, v44, .int .u8 x41.Result, .bool x41.Reads, .int .i64 x41.Fuel, .int .i64 x41.Stack, .int .i64 x41.Heap, v46] 36, slO k_types_Row 39 v10 t9.1, boxO b5 [v_m_0_Globals, v_m_0_Pool, v_m_0_Methods, .int .i64 m_0.Migrate] 25] w2) ?_ ?_
                                · rintro a w2 ⟨x136, m137, o, hm_m137, ho, hr, ha, hw⟩
                                  refine CP.app ha hw ?_
                                  clear ha hw a w2
                                  refine CP.seq ?_
                                  refine CP.region ?_
                                  refine SP.val (Val.move rfl) rfl rfl rfl ?_
                                  refine SP.val (Val.assign rfl) rfl rfl rfl ?_
                                  refine SP.nil ?_
                                  refine QE.then ?_
                                  refine CP.region ?_
                                  refine SP.val (Val.move rfl) rfl rfl rfl ?_
                                  refine SP.val (Val.move rfl) rfl rfl rfl ?_
                                  obtain ⟨x139, hx_x139, ho⟩ := bind_some ho
                                  have hx_x139 := elt_some hx_x139
                                  refine SP.indexW (fun w2 hw => slO.whole (St.own 0 rfl see.sub see.dj hw)) Tryd.underlying46 sz3 hx_x139.1 hx_x139.2 rfl rfl rfl rfl (fun p138 h_p138 => ?_)
                                  refine SP.val (Val.loadW1 (off := 0) (k := (kInt .i64)) (fun w2 hw => slO.whole (St.own 0 rfl see.sub see.dj hw)) hx_x139.2 h_p138 (fun _ _ e => by subst e; rfl) Tryd.underlying3 rfl rfl) rfl rfl rfl ?_
                                  refine SP.val (Val.assign rfl) rfl rfl rfl ?_
                                  refine SP.nil ?_
                                  refine QE.blockN ?_
                                  refine QE.then ?_
                                  refine CP.region ?_
                                  refine SP.val (Val.move rfl) rfl rfl rfl ?_
                                  refine SP.val (Val.add rfl rfl) rfl rfl rfl ?_
                                  refine SP.val (Val.assign rfl) rfl rfl rfl ?_
                                  refine SP.nil ?_
                                  obtain rfl := Option.some.inj ho
                                  exact QE.lower m137 (by omega) fun a w2 ha hw => ⟨t120.1, x139, x136, (IntKind.i64.wrap (x96 + 1)), v121, (by omega), hr, ha.sub ⟨rfl, rfl, rfl, rfl, rfl, rfl, rfl, rfl, trivial⟩, (St.selO [1, 2, 3, 4] rfl rfl hw)⟩
                                · refine CP.seq ?_
                                  refine CP.region ?_
                                  refine SP.val (Val.move rfl) rfl rfl rfl ?_
                                  refine SP.val (Val.lenW (fun w2 hw => slO.whole (St.own 0 rfl see.sub see.dj hw)) Tryd.underlying46 rfl) rfl rfl rfl ?_
                                  refine SP.val (Val.gtr rfl rfl) rfl rfl rfl ?_
                                  refine SP.nil ?_
                                  refine QE.then ?_
                                  rcases if_some ho with ⟨hc, ho⟩ | ⟨hc, ho⟩
                                  · refine CP.condT rfl (decide_eq_true hc) ?_
                                    refine CP.region ?_
                                    refine SP.val (Val.move rfl) rfl rfl rfl ?_
                                    refine SP.val (Val.add rfl rfl) rfl rfl rfl ?_
                                    refine SP.val (Val.assign rfl) rfl rfl rfl ?_
                                    refine SP.nil ?_
                                    exact QE.meet fun a w2 ha hw => ⟨(IntKind.i64.wrap (x95 + 1)), m135, _, (by omega), ho, hr, ha.sub ⟨rfl, rfl, rfl, rfl, rfl, rfl, rfl, rfl, rfl, trivial⟩, hw⟩
                                  · refine CP.condF rfl (decide_eq_false hc) ?_
                                    refine CP.skip ?_
                                    exact QE.meet fun a w2 ha hw => ⟨x95, m135, _, (by omega), ho, hr, ha.sub ⟨rfl, rfl, rfl, rfl, rfl, rfl, rfl, rfl, rfl, trivial⟩, hw⟩
                              · refine CP.seq ?_
                                refine CP.region ?_
                                refine SP.val (Val.move rfl) rfl rfl rfl ?_
                                refine SP.val (Val.lenW (fun w2 hw => slO.whole (St.own 0 rfl see.sub see.dj hw)) Tryd.underlying46 rfl) rfl rfl rfl ?_
                                refine SP.val (Val.gtr rfl rfl) rfl rfl rfl ?_
                                refine SP.val (Val.move rfl) rfl rfl rfl ?_
                                refine SP.join 5 (fun a w2 => Env ⟨156, []⟩ [(2, v_ways_2), (3, .pointer (some ⟨b5, 0, none⟩)), (7, v10), (9, .pointer (some ⟨b48, 0, none⟩)), (12, .int .i64 x95), (13, .int .i64 x96), (14, v121), (16, v124), (18, .int .i64 0), (139, .bool ((decide ((t123.1.length : Int) > 1)) && (decide (x95 < (ways_2.length : Int)))))] a ∧ St w em hV [atP p116 [.int .u8 x118.Op, .int .i64 x118.A, .int .i64 x118.B], elP k_api_Instr p116 x118, slP (kInt .u8) v42 x41.Args, slP (kInt .u8) v44 x41.Locals, slP k_api_Instr v46 x41.Code, slP k_api_Value v_m_0_Globals m_0.Globals, slP k_api_Value v_m_0_Pool m_0.Pool, slP k_api_Method v_m_0_Methods m_0.Methods, slP kBool v_ways_2 ways_2, arrP k_arr136 0 tab0] [slO (kInt .i64) 3 v124 t123.1, slO (kInt .u8) 5 v121 t120.1, slO (kInt .u8) 5 v93 l92, boxO b48 [v42, v44, .int .u8 x41.Result, .bool x41.Reads, .int .i64 x41.Fuel, .int .i64 x41.Stack, .int .i64 x41.Heap, v46] 36, slO k_types_Row 39 v10 t9.1, boxO b5 [v_m_0_Globals, v_m_0_Pool, v_m_0_Methods, .int .i64 m_0.Migrate] 25] w2) ?_ ?_
                                · rintro a w2 ⟨ha, hw⟩
                                  refine SP.app ha hw ?_
                                  clear ha hw a w2
                                  refine SP.val (Val.move rfl) rfl rfl rfl ?_
                                  obtain ⟨t133, hg_t133, ho⟩ := bind_some ho
                                  refine SP.join 5 (fun a w2 => Env ⟨156, []⟩ [(2, v_ways_2), (3, .pointer (some ⟨b5, 0, none⟩)), (7, v10), (9, .pointer (some ⟨b48, 0, none⟩)), (12, .int .i64 x95), (13, .int .i64 x96), (14, v121), (16, v124), (18, .int .i64 0), (145, .bool t133)] a ∧ St w em hV [atP p116 [.int .u8 x118.Op, .int .i64 x118.A, .int .i64 x118.B], elP k_api_Instr p116 x118, slP (kInt .u8) v42 x41.Args, slP (kInt .u8) v44 x41.Locals, slP k_api_Instr v46 x41.Code, slP k_api_Value v_m_0_Globals m_0.Globals, slP k_api_Value v_m_0_Pool m_0.Pool, slP k_api_Method v_m_0_Methods m_0.Methods, slP kBool v_ways_2 ways_2, arrP k_arr136 0 tab0] [slO (kInt .i64) 3 v124 t123.1, slO (kInt .u8) 5 v121 t120.1, slO (kInt .u8) 5 v93 l92, boxO b48 [v42, v44, .int .u8 x41.Result, .bool x41.Reads, .int .i64 x41.Fuel, .int .i64 x41.Stack, .int .i64 x41.Heap, v46] 36, slO k_types_Row 39 v10 t9.1, boxO b5 [v_m_0_Globals, v_m_0_Pool, v_m_0_Methods, .int .i64 m_0.Migrate] 25] w2) ?_ ?_
                                  · rintro a w2 ⟨ha, hw⟩
                                    refine SP.app ha hw ?_
                                    clear ha hw a w2 hg_t133
                                    refine SP.nil ?_
                                    refine QE.then ?_
                                    rcases if_some ho with ⟨hc, ho⟩ | ⟨hc, ho⟩
                                    · refine CP.condT rfl hc ?_
                                      refine CP.region ?_
                                      refine SP.val (Val.assign rfl) rfl rfl rfl ?_
                                      refine SP.nil ?_
                                      exact QE.meet fun a w2 ha hw => ⟨1, m97, _, (by omega), ho, hr, ha.sub ⟨rfl, rfl, rfl, rfl, rfl, rfl, rfl, rfl, rfl, trivial⟩, (St.selP [2, 3, 4, 5, 6, 7, 8, 9] rfl (St.selO [0, 1, 3, 4, 5] rfl rfl hw))⟩
                                    · refine CP.condF rfl (bf hc) ?_
                                      refine CP.skip ?_
                                      exact QE.meet fun a w2 ha hw => ⟨0, m97, _, (by omega), ho, hr, ha.sub ⟨rfl, rfl, rfl, rfl, rfl, rfl, rfl, rfl, rfl, trivial⟩, (St.selP [2, 3, 4, 5, 6, 7, 8, 9] rfl (St.selO [0, 1, 3, 4, 5] rfl rfl hw))⟩
                                  · intro J
                                    clear ho
                                    have ho := hg_t133
                                    clear hg_t133
                                    rcases if_some ho with ⟨hc, ho⟩ | ⟨hc, ho⟩
                                    · have hq129 := hc
                                      refine SP.isT (d := 140) rfl hq129 ?_
                                      refine SP.val (Val.move rfl) rfl rfl rfl ?_
                                      refine SP.val (Val.move rfl) rfl rfl rfl ?_
                                      obtain ⟨x132, hx, ho⟩ := bind_some ho
                                      have hx := elt_some hx
                                      refine SP.indexP see 8 rfl Tryd.underlying26 sz4 hx.1 hx.2 rfl rfl rfl rfl (fun p130 => ?_)
                                      clear hx
                                      refine SP.val (Val.loadP1 see 0 rfl (fun _ _ e => e) Tryd.underlying4 rfl rfl) rfl rfl rfl ?_
                                      refine SP.val (Val.pickT rfl rfl) rfl rfl rfl ?_
                                      obtain rfl := Option.some.inj ho
                                      exact J fun a w2 ha hw => ⟨ha.sub ⟨rfl, rfl, rfl, rfl, rfl, rfl, rfl, rfl, rfl, rfl, trivial⟩, (St.selP [1, 2, 3, 4, 5, 6, 7, 8, 9, 10] rfl hw)⟩
                                    · have hq129 := (bf hc)
                                      refine SP.isF (d := 140) rfl hq129 ?_
                                      refine SP.not rfl rfl rfl ?_
                                      refine SP.not rfl rfl rfl ?_
                                      refine SP.not rfl rfl rfl ?_
                                      refine SP.not rfl rfl rfl ?_
                                      refine SP.val (Val.pickF rfl rfl) rfl rfl rfl ?_
                                      obtain rfl := Option.some.inj ho
                                      exact J fun a w2 ha hw => ⟨ha.sub ⟨rfl, rfl, rfl, rfl, rfl, rfl, rfl, rfl, rfl, rfl, trivial⟩, hw⟩
                                · intro J
                                  by_cases hc : (t123.1.length : Int) > 1
                                  · have hq127 := (decide_eq_true hc)
                                    refine SP.isT (d := 134) rfl hq127 ?_
                                    refine SP.val (Val.move rfl) rfl rfl rfl ?_
                                    refine SP.val (Val.move rfl) rfl rfl rfl ?_
                                    refine SP.val (Val.lenP see 8 rfl Tryd.underlying26 rfl) rfl rfl rfl ?_
                                    refine SP.val (Val.lss rfl rfl) rfl rfl rfl ?_
                                    refine SP.val (Val.pickT rfl rfl) rfl rfl rfl ?_
                                    exact J fun a w2 ha hw => ⟨ha.sub ⟨rfl, rfl, rfl, rfl, rfl, rfl, rfl, rfl, rfl, congrArg (fun z => some (Value.bool z)) (and_t hq127 rfl), trivial⟩, hw⟩
                                  · have hq127 := (decide_eq_false hc)
                                    refine SP.isF (d := 134) rfl hq127 ?_
                                    refine SP.not rfl rfl rfl ?_
                                    refine SP.not rfl rfl rfl ?_
                                    refine SP.not rfl rfl rfl ?_
                                    refine SP.not rfl rfl rfl ?_
                                    refine SP.val (Val.pickF rfl rfl) rfl rfl rfl ?_
                                    exact J fun a w2 ha hw => ⟨ha.sub ⟨rfl, rfl, rfl, rfl, rfl, rfl, rfl, rfl, rfl, congrArg (fun z => some (Value.bool z)) (and_f hq127), trivial⟩, hw⟩
                    · intro J
                      clear ho
                      have ho := hg_t115
                      clear hg_t115
                      rcases if_some ho with ⟨hc, ho⟩ | ⟨hc, ho⟩
                      · have hq113 := hc
                        refine SP.isT (d := 98) rfl hq113 ?_
                        refine SP.not rfl rfl rfl ?_
                        refine SP.not rfl rfl rfl ?_
                        refine SP.not rfl rfl rfl ?_
                        refine SP.not rfl rfl rfl ?_
                        refine SP.not rfl rfl rfl ?_
                        refine SP.val (Val.pickT rfl rfl) rfl rfl rfl ?_
                        obtain rfl := Option.some.inj ho
                        exact J fun a w2 ha hw => ⟨ha.sub ⟨rfl, rfl, rfl, rfl, rfl, rfl, rfl, rfl, rfl, trivial⟩, hw⟩
                      · have hq113 := (bf hc)
                        refine SP.isF (d := 98) rfl hq113 ?_
                        refine SP.val (Val.move rfl) rfl rfl rfl ?_
                        refine SP.val (Val.lenW (fun w2 hw => slO.whole (St.own 0 rfl see.sub see.dj hw)) Tryd.underlying33 rfl) rfl rfl rfl ?_
                        refine SP.val (Val.move rfl) rfl rfl rfl ?_
                        obtain ⟨t114, hc, ho⟩ := bind_some (x := types_Height.f t9.1) ho
                        refine SP.callVO see (caps := []) (.int .i64 t114) fn12 rfl rfl rfl rfl (fun w2 hs => types_Height.ok t9.1 _ _ hc w2 (hp w2) (Sub.refl _) (slO.read (St.own 2 rfl see.sub see.dj hs) (Sub.refl _) (Sub.refl _))) ?_
                        clear hc
                        refine SP.val (Val.gtr rfl rfl) rfl rfl rfl ?_
                        refine SP.val (Val.pickF rfl rfl) rfl rfl rfl ?_
                        obtain rfl := Option.some.inj ho
                        exact J fun a w2 ha hw => ⟨ha.sub ⟨rfl, rfl, rfl, rfl, rfl, rfl, rfl, rfl, rfl, trivial⟩, hw⟩
                  · intro J
                    clear ho
                    have ho := hg_t111
                    clear hg_t111
                    rcases if_some ho with ⟨hc, ho⟩ | ⟨hc, ho⟩
                    · have hq104 := hc
                      refine SP.isT (d := 88) rfl hq104 ?_
                      refine SP.not rfl rfl rfl ?_
                      refine SP.not rfl rfl rfl ?_
                      refine SP.not rfl rfl rfl ?_
                      refine SP.not rfl rfl rfl ?_
                      refine SP.not rfl rfl rfl ?_
                      refine SP.not rfl rfl rfl ?_
                      refine SP.not rfl rfl rfl ?_
                      refine SP.not rfl rfl rfl ?_
                      refine SP.val (Val.pickT rfl rfl) rfl rfl rfl ?_
                      obtain rfl := Option.some.inj ho
                      exact J fun a w2 ha hw => ⟨ha.sub ⟨rfl, rfl, rfl, rfl, rfl, rfl, rfl, rfl, rfl, trivial⟩, hw⟩
                    · have hq104 := (bf hc)
                      refine SP.isF (d := 88) rfl hq104 ?_
                      refine SP.val (Val.move rfl) rfl rfl rfl ?_
                      refine SP.val (Val.move rfl) rfl rfl rfl ?_
                      obtain ⟨x106, hx_x106, ho⟩ := bind_some ho
                      have hx_x106 := elt_some hx_x106
                      refine SP.indexW (fun w2 hw => slO.whole (St.own 2 rfl see.sub see.dj hw)) Tryd.underlying29 sz39 hx_x106.1 hx_x106.2 rfl rfl rfl rfl (fun p105 h_p105 => ?_)
                      refine SP.fieldO h_p105 Tryd.underlying39 rfl sz33 rfl rfl rfl (fun p107 h_p107 => ?_)
                      refine SP.loadOS (j := x94) see 2 1 rfl hx_x106.2 h_p107 (fun _ _ ⟨v0_, e, p0_⟩ => ⟨v0_, by subst e; rfl, p0_⟩) Tryd.underlying33 rfl rfl rfl (fun v108 => ?_)
                      refine SP.val (Val.move rfl) rfl rfl rfl ?_
                      obtain ⟨t110, hc, ho⟩ := bind_some (x := capstanref07_SameKinds.f x106.Kinds l92) ho
                      refine SP.callVO see (caps := []) (.bool t110) fn11 rfl rfl rfl rfl (fun w2 hs => capstanref07_SameKinds.ok x106.Kinds l92 _ _ _ hc w2 (hp w2) (Sub.refl _) ((St.pers 0 rfl see.sub see.dj hs)) (slO.read (St.own 0 rfl see.sub see.dj hs) (Sub.refl _) (Sub.refl _))) ?_
                      clear hc
                      refine SP.val (Val.notB rfl) rfl rfl rfl ?_
                      refine SP.val (Val.pickF rfl rfl) rfl rfl rfl ?_
                      obtain rfl := Option.some.inj ho
                      exact J fun a w2 ha hw => ⟨ha.sub ⟨rfl, rfl, rfl, rfl, rfl, rfl, rfl, rfl, rfl, trivial⟩, (St.selP [1, 2, 3, 4, 5, 6, 7, 8] rfl hw)⟩
              · intro J
                by_cases hc : x94 < 0
                · have hq99 := (decide_eq_true hc)
                  refine SP.isT (d := 76) rfl hq99 ?_
                  refine SP.not rfl rfl rfl ?_
                  refine SP.not rfl rfl rfl ?_
                  refine SP.not rfl rfl rfl ?_
                  refine SP.not rfl rfl rfl ?_
                  refine SP.val (Val.pickT rfl rfl) rfl rfl rfl ?_
                  exact J fun a w2 ha hw => ⟨ha.sub ⟨rfl, rfl, rfl, rfl, rfl, rfl, rfl, rfl, congrArg (fun z => some (Value.bool z)) (or_t hq99), trivial⟩, hw⟩
                · have hq99 := (decide_eq_false hc)
                  refine SP.isF (d := 76) rfl hq99 ?_
                  refine SP.val (Val.move rfl) rfl rfl rfl ?_
                  refine SP.val (Val.move rfl) rfl rfl rfl ?_
                  refine SP.val (Val.lenW (fun w2 hw => slO.whole (St.own 2 rfl see.sub see.dj hw)) Tryd.underlying29 rfl) rfl rfl rfl ?_
                  refine SP.val (Val.geq rfl rfl) rfl rfl rfl ?_
                  refine SP.val (Val.pickF rfl rfl) rfl rfl rfl ?_
                  exact J fun a w2 ha hw => ⟨ha.sub ⟨rfl, rfl, rfl, rfl, rfl, rfl, rfl, rfl, congrArg (fun z => some (Value.bool z)) (or_f hq99 rfl), trivial⟩, hw⟩
            · refine CP.condF rfl (decide_eq_false hc) ?_
              refine CP.exit ?_
              refine QE.thru (by intro e; cases e) ?_
              refine QE.thru (by intro e; cases e) ?_
              refine QE.blockE ?_
              refine QE.then ?_
              refine CP.seq ?_
              refine CP.region ?_
              refine SP.val (Val.assign rfl) rfl rfl rfl ?_
              refine SP.nil ?_
              refine QE.then ?_
              refine CP.ret ?_
              obtain rfl := Option.some.inj ho
              obtain rfl := Option.some.inj hr
              exact QE.rets (rs := [.tmp 6]) (vs := [.bool true]) Tryd.results3 rfl ⟨RVs.tmp rfl, trivial⟩ (fun w2 h => St.done (fun a b p s => rfl) h)
        · refine CP.drawA (by kernel_rfl) (fun w2 k h => h.drawn k) ?_
          refine DA.one 0 rfl (by kernel_rfl) ?_
          refine SP.val (Val.move rfl) rfl rfl rfl ?_
          refine SP.nil ?_
          refine QE.atA ?_
          refine DA.one 1 rfl (by kernel_rfl) ?_
          refine SP.val (Val.lss rfl rfl) rfl rfl rfl ?_
          refine SP.nil ?_
          refine QE.atA ?_
          refine DA.one 2 rfl (by kernel_rfl) ?_
          refine SP.val (Val.move rfl) rfl rfl rfl ?_
          refine SP.nil ?_
          refine QE.atA ?_
          rcases if_some ho with ⟨hc, ho⟩ | ⟨hc, ho⟩
          · have hg12 := (decide_eq_true hc)
            clear hc
            refine DA.phase (fun i => Nat.ble 3 i && Nat.blt i 7) (fun w2 => St w em hV [slP k_api_Value v_m_0_Globals m_0.Globals, slP k_api_Value v_m_0_Pool m_0.Pool, slP k_api_Method v_m_0_Methods m_0.Methods, slP kBool v_ways_2 ways_2, arrP k_arr136 0 tab0] [slO k_types_Row 39 v10 t9.1, boxO b5 [v_m_0_Globals, v_m_0_Pool, v_m_0_Methods, .int .i64 m_0.Migrate] 25] w2) ?_
            refine DT.is (d := 36) (b := true) rfl hg12 ?_
            refine DT.not 3 rfl rfl rfl rfl (by kernel_rfl) (fun _ _ _ h => h) (fun w2 hw => hw) ?_
            refine DT.not 4 rfl rfl rfl rfl (by kernel_rfl) (fun _ _ _ h => h) (fun w2 hw => hw) ?_
            refine DT.not 5 rfl rfl rfl rfl (by kernel_rfl) (fun _ _ _ h => h) (fun w2 hw => hw) ?_
            refine DT.not 6 rfl rfl rfl rfl (by kernel_rfl) (fun _ _ _ h => h) (fun w2 hw => hw) ?_
            refine DT.next (by kernel_rfl) ?_
            refine DA.phase (fun i => Nat.ble 7 i && Nat.blt i 8) (fun w2 => St w em hV [slP k_api_Value v_m_0_Globals m_0.Globals, slP k_api_Value v_m_0_Pool m_0.Pool, slP k_api_Method v_m_0_Methods m_0.Methods, slP kBool v_ways_2 ways_2, arrP k_arr136 0 tab0] [slO k_types_Row 39 v10 t9.1, boxO b5 [v_m_0_Globals, v_m_0_Pool, v_m_0_Methods, .int .i64 m_0.Migrate] 25] w2) ?_
            refine DT.not 7 rfl rfl rfl rfl (by kernel_rfl) (fun _ _ _ h => h) (fun w2 hw => hw) ?_
            refine DT.next (by kernel_rfl) ?_
            refine DA.one 8 rfl (by kernel_rfl) ?_
            refine SP.val (Val.pickT rfl rfl) rfl rfl rfl ?_
            refine SP.nil ?_
            refine QE.atA ?_
            refine DA.one 9 rfl (by kernel_rfl) ?_
            refine SP.val (Val.move rfl) rfl rfl rfl ?_
            refine SP.nil ?_
            refine QE.atA ?_
            refine DA.phase (fun i => Nat.ble 10 i && Nat.blt i 19) (fun w2 => St w em hV [slP k_api_Value v_m_0_Globals m_0.Globals, slP k_api_Value v_m_0_Pool m_0.Pool, slP k_api_Method v_m_0_Methods m_0.Methods, slP kBool v_ways_2 ways_2, arrP k_arr136 0 tab0] [slO k_types_Row 39 v10 t9.1, boxO b5 [v_m_0_Globals, v_m_0_Pool, v_m_0_Methods, .int .i64 m_0.Migrate] 25] w2) ?_
            refine DT.not 10 rfl rfl rfl rfl (by kernel_rfl) (fun _ _ _ h => h) (fun w2 hw => hw) ?_
            refine DT.not 11 rfl rfl rfl rfl (by kernel_rfl) (fun _ _ _ h => h) (fun w2 hw => hw) ?_
            refine DT.not 12 rfl rfl rfl rfl (by kernel_rfl) (fun _ _ _ h => h) (fun w2 hw => hw) ?_
            refine DT.not 13 rfl rfl rfl rfl (by kernel_rfl) (fun _ _ _ h => h) (fun w2 hw => hw) ?_
            refine DT.not 14 rfl rfl rfl rfl (by kernel_rfl) (fun _ _ _ h => h) (fun w2 hw => hw) ?_
            refine DT.not 15 rfl rfl rfl rfl (by kernel_rfl) (fun _ _ _ h => h) (fun w2 hw => hw) ?_
            refine DT.not 16 rfl rfl rfl rfl (by kernel_rfl) (fun _ _ _ h => h) (fun w2 hw => hw) ?_
            refine DT.not 17 rfl rfl rfl rfl (by kernel_rfl) (fun _ _ _ h => h) (fun w2 hw => hw) ?_
            refine DT.not 18 rfl rfl rfl rfl (by kernel_rfl) (fun _ _ _ h => h) (fun w2 hw => hw) ?_
            refine DT.next (by kernel_rfl) ?_
            refine DA.phase (fun i => Nat.ble 19 i && Nat.blt i 20) (fun w2 => St w em hV [slP k_api_Value v_m_0_Globals m_0.Globals, slP k_api_Value v_m_0_Pool m_0.Pool, slP k_api_Method v_m_0_Methods m_0.Methods, slP kBool v_ways_2 ways_2, arrP k_arr136 0 tab0] [slO k_types_Row 39 v10 t9.1, boxO b5 [v_m_0_Globals, v_m_0_Pool, v_m_0_Methods, .int .i64 m_0.Migrate] 25] w2) ?_
            refine DT.not 19 rfl rfl rfl rfl (by kernel_rfl) (fun _ _ _ h => h) (fun w2 hw => hw) ?_
            refine DT.next (by kernel_rfl) ?_
            refine DA.one 20 rfl (by kernel_rfl) ?_
            refine SP.val (Val.pickT rfl rfl) rfl rfl rfl ?_
            refine SP.nil ?_
            refine QE.atA ?_
            refine DA.one 21 rfl (by kernel_rfl) ?_
            refine SP.val (Val.move rfl) rfl rfl rfl ?_
            refine SP.nil ?_
            refine QE.atA ?_
            refine DA.phase (fun i => Nat.ble 22 i && Nat.blt i 28) (fun w2 => St w em hV [slP k_api_Value v_m_0_Globals m_0.Globals, slP k_api_Value v_m_0_Pool m_0.Pool, slP k_api_Method v_m_0_Methods m_0.Methods, slP kBool v_ways_2 ways_2, arrP k_arr136 0 tab0] [slO k_types_Row 39 v10 t9.1, boxO b5 [v_m_0_Globals, v_m_0_Pool, v_m_0_Methods, .int .i64 m_0.Migrate] 25] w2) ?_
            refine DT.not 22 rfl rfl rfl rfl (by kernel_rfl) (fun _ _ _ h => h) (fun w2 hw => hw) ?_
            refine DT.not 23 rfl rfl rfl rfl (by kernel_rfl) (fun _ _ _ h => h) (fun w2 hw => hw) ?_
            refine DT.not 24 rfl rfl rfl rfl (by kernel_rfl) (fun _ _ _ h => h) (fun w2 hw => hw) ?_
            refine DT.not 25 rfl rfl rfl rfl (by kernel_rfl) (fun _ _ _ h => h) (fun w2 hw => hw) ?_
            refine DT.not 26 rfl rfl rfl rfl (by kernel_rfl) (fun _ _ _ h => h) (fun w2 hw => hw) ?_
            refine DT.not 27 rfl rfl rfl rfl (by kernel_rfl) (fun _ _ _ h => h) (fun w2 hw => hw) ?_
            refine DT.next (by kernel_rfl) ?_
            refine DA.phase (fun i => Nat.ble 28 i && Nat.blt i 29) (fun w2 => St w em hV [slP k_api_Value v_m_0_Globals m_0.Globals, slP k_api_Value v_m_0_Pool m_0.Pool, slP k_api_Method v_m_0_Methods m_0.Methods, slP kBool v_ways_2 ways_2, arrP k_arr136 0 tab0] [slO k_types_Row 39 v10 t9.1, boxO b5 [v_m_0_Globals, v_m_0_Pool, v_m_0_Methods, .int .i64 m_0.Migrate] 25] w2) ?_
            refine DT.not 28 rfl rfl rfl rfl (by kernel_rfl) (fun _ _ _ h => h) (fun w2 hw => hw) ?_
            refine DT.next (by kernel_rfl) ?_
            refine DA.phase (fun i => Nat.ble 29 i && Nat.blt i 30) (fun w2 => St w em hV [slP k_api_Value v_m_0_Globals m_0.Globals, slP k_api_Value v_m_0_Pool m_0.Pool, slP k_api_Method v_m_0_Methods m_0.Methods, slP kBool v_ways_2 ways_2, arrP k_arr136 0 tab0] [slO k_types_Row 39 v10 t9.1, boxO b5 [v_m_0_Globals, v_m_0_Pool, v_m_0_Methods, .int .i64 m_0.Migrate] 25] w2) ?_
            refine DT.not 29 rfl rfl rfl rfl (by kernel_rfl) (fun _ _ _ h => h) (fun w2 hw => hw) ?_
            refine DT.next (by kernel_rfl) ?_
            refine DA.one 30 rfl (by kernel_rfl) ?_
            refine SP.val (Val.pickT rfl rfl) rfl rfl rfl ?_
            refine SP.nil ?_
            refine QE.atA ?_
            refine DA.done (by kernel_rfl) ?_
            exact QE.meet fun a w2 ha hw => ⟨true, m0, _, (by omega), ho, hr, ha.sub ⟨rfl, rfl, rfl, rfl, rfl, trivial⟩, hw⟩
          · have hg13 := (decide_eq_false hc)
            clear hc
            refine DA.phase (fun i => Nat.ble 3 i && Nat.blt i 7) (fun w2 => St w em hV [slP k_api_Value v_m_0_Globals m_0.Globals, slP k_api_Value v_m_0_Pool m_0.Pool, slP k_api_Method v_m_0_Methods m_0.Methods, slP kBool v_ways_2 ways_2, arrP k_arr136 0 tab0] [slO k_types_Row 39 v10 t9.1, boxO b5 [v_m_0_Globals, v_m_0_Pool, v_m_0_Methods, .int .i64 m_0.Migrate] 25] w2) ?_
            refine DT.is (d := 36) (b := false) rfl hg13 ?_
            refine DT.take 3 rfl rfl rfl rfl (by kernel_rfl) (fun _ _ _ h => h) (Val.move rfl) (fun w2 hw => hw) ?_
            refine DT.take 4 rfl rfl rfl rfl (by kernel_rfl) (fun _ _ _ h => h) (Val.fieldAddr Tryd.underlying25 rfl sz23 rfl) (fun w2 hw => hw) ?_
            refine DT.take 5 rfl rfl rfl rfl (by kernel_rfl) (fun _ _ _ h => h) (Val.load1 1 rfl Tryd.underlying23 rfl rfl rfl) (fun w2 hw => hw) ?_
            refine DT.take 6 rfl rfl rfl rfl (by kernel_rfl) (fun _ _ _ h => h) (Val.lenP see 2 rfl Tryd.underlying23 rfl) (fun w2 hw => hw) ?_
            refine DT.next (by kernel_rfl) ?_
            refine DA.one 7 rfl (by kernel_rfl) ?_
            refine SP.val (Val.geq rfl rfl) rfl rfl rfl ?_
            refine SP.nil ?_
            refine QE.atA ?_
            refine DA.one 8 rfl (by kernel_rfl) ?_
            refine SP.val (Val.pickF rfl rfl) rfl rfl rfl ?_
            refine SP.nil ?_
            refine QE.atA ?_
            refine DA.one 9 rfl (by kernel_rfl) ?_
            refine SP.val (Val.move rfl) rfl rfl rfl ?_
            refine SP.nil ?_
            refine QE.atA ?_
            rcases if_some ho with ⟨hc, ho⟩ | ⟨hc, ho⟩
            · have hg14 := (decide_eq_true hc)
              clear hc
              refine DA.phase (fun i => Nat.ble 10 i && Nat.blt i 19) (fun w2 => St w em hV [slP k_api_Value v_m_0_Globals m_0.Globals, slP k_api_Value v_m_0_Pool m_0.Pool, slP k_api_Method v_m_0_Methods m_0.Methods, slP kBool v_ways_2 ways_2, arrP k_arr136 0 tab0] [slO k_types_Row 39 v10 t9.1, boxO b5 [v_m_0_Globals, v_m_0_Pool, v_m_0_Methods, .int .i64 m_0.Migrate] 25] w2) ?_
              refine DT.is (d := 43) (b := true) rfl hg14 ?_
              refine DT.not 10 rfl rfl rfl rfl (by kernel_rfl) (fun _ _ _ h => h) (fun w2 hw => hw) ?_
              refine DT.not 11 rfl rfl rfl rfl (by kernel_rfl) (fun _ _ _ h => h) (fun w2 hw => hw) ?_
              refine DT.not 12 rfl rfl rfl rfl (by kernel_rfl) (fun _ _ _ h => h) (fun w2 hw => hw) ?_
              refine DT.not 13 rfl rfl rfl rfl (by kernel_rfl) (fun _ _ _ h => h) (fun w2 hw => hw) ?_
              refine DT.not 14 rfl rfl rfl rfl (by kernel_rfl) (fun _ _ _ h => h) (fun w2 hw => hw) ?_
              refine DT.not 15 rfl rfl rfl rfl (by kernel_rfl) (fun _ _ _ h => h) (fun w2 hw => hw) ?_
              refine DT.not 16 rfl rfl rfl rfl (by kernel_rfl) (fun _ _ _ h => h) (fun w2 hw => hw) ?_
              refine DT.not 17 rfl rfl rfl rfl (by kernel_rfl) (fun _ _ _ h => h) (fun w2 hw => hw) ?_
              refine DT.not 18 rfl rfl rfl rfl (by kernel_rfl) (fun _ _ _ h => h) (fun w2 hw => hw) ?_
              refine DT.next (by kernel_rfl) ?_
              refine DA.phase (fun i => Nat.ble 19 i && Nat.blt i 20) (fun w2 => St w em hV [slP k_api_Value v_m_0_Globals m_0.Globals, slP k_api_Value v_m_0_Pool m_0.Pool, slP k_api_Method v_m_0_Methods m_0.Methods, slP kBool v_ways_2 ways_2, arrP k_arr136 0 tab0] [slO k_types_Row 39 v10 t9.1, boxO b5 [v_m_0_Globals, v_m_0_Pool, v_m_0_Methods, .int .i64 m_0.Migrate] 25] w2) ?_
              refine DT.not 19 rfl rfl rfl rfl (by kernel_rfl) (fun _ _ _ h => h) (fun w2 hw => hw) ?_
              refine DT.next (by kernel_rfl) ?_
              refine DA.one 20 rfl (by kernel_rfl) ?_
              refine SP.val (Val.pickT rfl rfl) rfl rfl rfl ?_
              refine SP.nil ?_
              refine QE.atA ?_
              refine DA.one 21 rfl (by kernel_rfl) ?_
              refine SP.val (Val.move rfl) rfl rfl rfl ?_
              refine SP.nil ?_
              refine QE.atA ?_
              refine DA.phase (fun i => Nat.ble 22 i && Nat.blt i 28) (fun w2 => St w em hV [slP k_api_Value v_m_0_Globals m_0.Globals, slP k_api_Value v_m_0_Pool m_0.Pool, slP k_api_Method v_m_0_Methods m_0.Methods, slP kBool v_ways_2 ways_2, arrP k_arr136 0 tab0] [slO k_types_Row 39 v10 t9.1, boxO b5 [v_m_0_Globals, v_m_0_Pool, v_m_0_Methods, .int .i64 m_0.Migrate] 25] w2) ?_
              refine DT.not 22 rfl rfl rfl rfl (by kernel_rfl) (fun _ _ _ h => h) (fun w2 hw => hw) ?_
              refine DT.not 23 rfl rfl rfl rfl (by kernel_rfl) (fun _ _ _ h => h) (fun w2 hw => hw) ?_
              refine DT.not 24 rfl rfl rfl rfl (by kernel_rfl) (fun _ _ _ h => h) (fun w2 hw => hw) ?_
              refine DT.not 25 rfl rfl rfl rfl (by kernel_rfl) (fun _ _ _ h => h) (fun w2 hw => hw) ?_
              refine DT.not 26 rfl rfl rfl rfl (by kernel_rfl) (fun _ _ _ h => h) (fun w2 hw => hw) ?_
              refine DT.not 27 rfl rfl rfl rfl (by kernel_rfl) (fun _ _ _ h => h) (fun w2 hw => hw) ?_
              refine DT.next (by kernel_rfl) ?_
              refine DA.phase (fun i => Nat.ble 28 i && Nat.blt i 29) (fun w2 => St w em hV [slP k_api_Value v_m_0_Globals m_0.Globals, slP k_api_Value v_m_0_Pool m_0.Pool, slP k_api_Method v_m_0_Methods m_0.Methods, slP kBool v_ways_2 ways_2, arrP k_arr136 0 tab0] [slO k_types_Row 39 v10 t9.1, boxO b5 [v_m_0_Globals, v_m_0_Pool, v_m_0_Methods, .int .i64 m_0.Migrate] 25] w2) ?_
              refine DT.not 28 rfl rfl rfl rfl (by kernel_rfl) (fun _ _ _ h => h) (fun w2 hw => hw) ?_
              refine DT.next (by kernel_rfl) ?_
              refine DA.phase (fun i => Nat.ble 29 i && Nat.blt i 30) (fun w2 => St w em hV [slP k_api_Value v_m_0_Globals m_0.Globals, slP k_api_Value v_m_0_Pool m_0.Pool, slP k_api_Method v_m_0_Methods m_0.Methods, slP kBool v_ways_2 ways_2, arrP k_arr136 0 tab0] [slO k_types_Row 39 v10 t9.1, boxO b5 [v_m_0_Globals, v_m_0_Pool, v_m_0_Methods, .int .i64 m_0.Migrate] 25] w2) ?_
              refine DT.not 29 rfl rfl rfl rfl (by kernel_rfl) (fun _ _ _ h => h) (fun w2 hw => hw) ?_
              refine DT.next (by kernel_rfl) ?_
              refine DA.one 30 rfl (by kernel_rfl) ?_
              refine SP.val (Val.pickT rfl rfl) rfl rfl rfl ?_
              refine SP.nil ?_
              refine QE.atA ?_
              refine DA.done (by kernel_rfl) ?_
              exact QE.meet fun a w2 ha hw => ⟨true, m0, _, (by omega), ho, hr, ha.sub ⟨rfl, rfl, rfl, rfl, rfl, trivial⟩, hw⟩
            · have hg15 := (decide_eq_false hc)
              clear hc
              obtain ⟨x18, hx, ho⟩ := bind_some ho
              have hx := elt_some hx
              refine DA.ghost (fun w2 h => h.elem see 2 rfl hx.1 hx.2) (fun p16 h_p16 => ?_)
              clear hx
              refine DA.ghost (fun w2 h => h.fieldE see 0 rfl k_api_Method.part_Code) (fun p19 h_p19 => ?_)
              refine DA.ghost (fun w2 h => h.openE see 0 rfl (fun (v21 : Value) => [v21]) (fun (v21 : Value) => [slP k_api_Instr v21 x18.Code]) (fun h cs ⟨v21, e, p0⟩ => ⟨v21, e, All.cons p0 (All.nil _)⟩)) (fun z_ _ => ?_)
              rename Value => v21
              refine DA.phase (fun i => Nat.ble 10 i && Nat.blt i 19) (fun w2 => St w em hV [atP p19 [v21], slP k_api_Instr v21 x18.Code, elP (kSl k_api_Instr) p19 x18.Code, elP k_api_Method p16 x18, slP k_api_Value v_m_0_Globals m_0.Globals, slP k_api_Value v_m_0_Pool m_0.Pool, slP k_api_Method v_m_0_Methods m_0.Methods, slP kBool v_ways_2 ways_2, arrP k_arr136 0 tab0] [slO k_types_Row 39 v10 t9.1, boxO b5 [v_m_0_Globals, v_m_0_Pool, v_m_0_Methods, .int .i64 m_0.Migrate] 25] w2) ?_
              refine DT.is (d := 43) (b := false) rfl hg15 ?_
              refine DT.take 10 rfl rfl rfl rfl (by kernel_rfl) (fun _ _ _ h => h) (Val.move rfl) (fun w2 hw => hw) ?_
              refine DT.take 11 rfl rfl rfl rfl (by kernel_rfl) (fun _ _ _ h => h) (Val.lenW (fun w2 hw => slO.whole (St.own 0 rfl see.sub see.dj hw)) Tryd.underlying29 rfl) (fun w2 hw => hw) ?_
              refine DT.take 12 rfl rfl rfl rfl (by kernel_rfl) (fun _ _ _ h => h) (Val.fieldAddr Tryd.underlying25 rfl sz23 rfl) (fun w2 hw => hw) ?_
              refine DT.take 13 rfl rfl rfl rfl (by kernel_rfl) (fun _ _ _ h => h) (Val.load1 1 rfl Tryd.underlying23 rfl rfl rfl) (fun w2 hw => hw) ?_
              refine DT.take 14 rfl rfl rfl rfl (by kernel_rfl) (fun _ _ _ h => h) (Val.move rfl) (fun w2 hw => hw) ?_
              refine DT.take 15 rfl rfl rfl rfl (by kernel_rfl) (fun _ _ _ h => h) (Val.indexE h_p16 Tryd.underlying23 sz36 rfl rfl) (fun w2 hw => hw) ?_
              refine DT.take 16 rfl rfl rfl rfl (by kernel_rfl) (fun _ _ _ h => h) (Val.fieldE h_p19 Tryd.underlying36 rfl rfl sz34 rfl) (fun w2 hw => hw) ?_
              refine DT.take 17 rfl rfl rfl rfl (by kernel_rfl) (fun _ _ _ h => h) (Val.loadAt1 see 0 rfl Tryd.underlying34 rfl rfl) (fun w2 hw => hw) ?_
              refine DT.take 18 rfl rfl rfl rfl (by kernel_rfl) (fun _ _ _ h => h) (Val.lenP see 1 rfl Tryd.underlying34 rfl) (fun w2 hw => hw) ?_
              refine DT.next (by kernel_rfl) ?_
              refine DA.one 19 rfl (by kernel_rfl) ?_
              refine SP.val (Val.neq rfl rfl) rfl rfl rfl ?_
              refine SP.nil ?_
              refine QE.atA ?_
              refine DA.one 20 rfl (by kernel_rfl) ?_
              refine SP.val (Val.pickF rfl rfl) rfl rfl rfl ?_
              refine SP.nil ?_
              refine QE.atA ?_
              refine DA.one 21 rfl (by kernel_rfl) ?_
              refine SP.val (Val.move rfl) rfl rfl rfl ?_
              refine SP.nil ?_
              refine QE.atA ?_
              rcases if_some ho with ⟨hc, ho⟩ | ⟨hc, ho⟩
              · have hg24 := (decide_eq_true hc)
                clear hc
                refine DA.phase (fun i => Nat.ble 22 i && Nat.blt i 28) (fun w2 => St w em hV [atP p19 [v21], slP k_api_Instr v21 x18.Code, elP (kSl k_api_Instr) p19 x18.Code, elP k_api_Method p16 x18, slP k_api_Value v_m_0_Globals m_0.Globals, slP k_api_Value v_m_0_Pool m_0.Pool, slP k_api_Method v_m_0_Methods m_0.Methods, slP kBool v_ways_2 ways_2, arrP k_arr136 0 tab0] [slO k_types_Row 39 v10 t9.1, boxO b5 [v_m_0_Globals, v_m_0_Pool, v_m_0_Methods, .int .i64 m_0.Migrate] 25] w2) ?_
                refine DT.is (d := 55) (b := true) rfl hg24 ?_
                refine DT.not 22 rfl rfl rfl rfl (by kernel_rfl) (fun _ _ _ h => h) (fun w2 hw => hw) ?_
                refine DT.not 23 rfl rfl rfl rfl (by kernel_rfl) (fun _ _ _ h => h) (fun w2 hw => hw) ?_
                refine DT.not 24 rfl rfl rfl rfl (by kernel_rfl) (fun _ _ _ h => h) (fun w2 hw => hw) ?_
                refine DT.not 25 rfl rfl rfl rfl (by kernel_rfl) (fun _ _ _ h => h) (fun w2 hw => hw) ?_
                refine DT.not 26 rfl rfl rfl rfl (by kernel_rfl) (fun _ _ _ h => h) (fun w2 hw => hw) ?_
                refine DT.not 27 rfl rfl rfl rfl (by kernel_rfl) (fun _ _ _ h => h) (fun w2 hw => hw) ?_
                refine DT.next (by kernel_rfl) ?_
                refine DA.phase (fun i => Nat.ble 28 i && Nat.blt i 29) (fun w2 => St w em hV [atP p19 [v21], slP k_api_Instr v21 x18.Code, elP (kSl k_api_Instr) p19 x18.Code, elP k_api_Method p16 x18, slP k_api_Value v_m_0_Globals m_0.Globals, slP k_api_Value v_m_0_Pool m_0.Pool, slP k_api_Method v_m_0_Methods m_0.Methods, slP kBool v_ways_2 ways_2, arrP k_arr136 0 tab0] [slO k_types_Row 39 v10 t9.1, boxO b5 [v_m_0_Globals, v_m_0_Pool, v_m_0_Methods, .int .i64 m_0.Migrate] 25] w2) ?_
                refine DT.not 28 rfl rfl rfl rfl (by kernel_rfl) (fun _ _ _ h => h) (fun w2 hw => hw) ?_
                refine DT.next (by kernel_rfl) ?_
                refine DA.phase (fun i => Nat.ble 29 i && Nat.blt i 30) (fun w2 => St w em hV [atP p19 [v21], slP k_api_Instr v21 x18.Code, elP (kSl k_api_Instr) p19 x18.Code, elP k_api_Method p16 x18, slP k_api_Value v_m_0_Globals m_0.Globals, slP k_api_Value v_m_0_Pool m_0.Pool, slP k_api_Method v_m_0_Methods m_0.Methods, slP kBool v_ways_2 ways_2, arrP k_arr136 0 tab0] [slO k_types_Row 39 v10 t9.1, boxO b5 [v_m_0_Globals, v_m_0_Pool, v_m_0_Methods, .int .i64 m_0.Migrate] 25] w2) ?_
                refine DT.not 29 rfl rfl rfl rfl (by kernel_rfl) (fun _ _ _ h => h) (fun w2 hw => hw) ?_
                refine DT.next (by kernel_rfl) ?_
                refine DA.one 30 rfl (by kernel_rfl) ?_
                refine SP.val (Val.pickT rfl rfl) rfl rfl rfl ?_
                refine SP.nil ?_
                refine QE.atA ?_
                refine DA.done (by kernel_rfl) ?_
                exact QE.meet fun a w2 ha hw => ⟨true, m0, _, (by omega), ho, hr, ha.sub ⟨rfl, rfl, rfl, rfl, rfl, trivial⟩, (St.selP [4, 5, 6, 7, 8] rfl hw)⟩
              · have hg25 := (decide_eq_false hc)
                clear hc
                obtain ⟨x28, hx, ho⟩ := bind_some ho
                have hx := elt_some hx
                refine DA.ghost (fun w2 h => h.elem see 6 rfl hx.1 hx.2) (fun p26 h_p26 => ?_)
                clear hx
                refine DA.ghost (fun w2 h => h.openE see 0 rfl (fun ((v29, v31, v33) : Value × Value × Value) => [v29, v31, .int .u8 x28.Result, .bool x28.Reads, .int .i64 x28.Fuel, .int .i64 x28.Stack, .int .i64 x28.Heap, v33]) (fun ((v29, v31, v33) : Value × Value × Value) => [slP (kInt .u8) v29 x28.Args, slP (kInt .u8) v31 x28.Locals, slP k_api_Instr v33 x28.Code]) (fun h cs ⟨v29, v31, v33, e, p0, p1, p2⟩ => ⟨(v29, v31, v33), e, All.cons p0 (All.cons p1 (All.cons p2 (All.nil _)))⟩)) (fun z_ _ => ?_)
                obtain ⟨v29, v31, v33⟩ := z_
                refine DA.phase (fun i => Nat.ble 22 i && Nat.blt i 28) (fun w2 => St w em hV [atP p26 [v29, v31, .int .u8 x28.Result, .bool x28.Reads, .int .i64 x28.Fuel, .int .i64 x28.Stack, .int .i64 x28.Heap, v33], slP (kInt .u8) v29 x28.Args, slP (kInt .u8) v31 x28.Locals, slP k_api_Instr v33 x28.Code, elP k_api_Method p26 x28, atP p19 [v21], slP k_api_Instr v21 x18.Code, elP (kSl k_api_Instr) p19 x18.Code, elP k_api_Method p16 x18, slP k_api_Value v_m_0_Globals m_0.Globals, slP k_api_Value v_m_0_Pool m_0.Pool, slP k_api_Method v_m_0_Methods m_0.Methods, slP kBool v_ways_2 ways_2, arrP k_arr136 0 tab0] [slO k_types_Row 39 v10 t9.1, boxO b5 [v_m_0_Globals, v_m_0_Pool, v_m_0_Methods, .int .i64 m_0.Migrate] 25] w2) ?_
                refine DT.is (d := 55) (b := false) rfl hg25 ?_
                refine DT.take 22 rfl rfl rfl rfl (by kernel_rfl) (fun _ _ _ h => h) (Val.loadA 1 rfl Tryd.underlying25 rfl sz25 rfl rfl rfl) (fun w2 hw => hw) ?_
                refine DT.take 23 rfl rfl rfl rfl (by kernel_rfl) (fun _ _ _ h => h) (Val.fieldAddr Tryd.underlying25 rfl sz23 rfl) (fun w2 hw => hw) ?_
                refine DT.take 24 rfl rfl rfl rfl (by kernel_rfl) (fun _ _ _ h => h) (Val.load1 1 rfl Tryd.underlying23 rfl rfl rfl) (fun w2 hw => hw) ?_
                refine DT.take 25 rfl rfl rfl rfl (by kernel_rfl) (fun _ _ _ h => h) (Val.move rfl) (fun w2 hw => hw) ?_
                refine DT.take 26 rfl rfl rfl rfl (by kernel_rfl) (fun _ _ _ h => h) (Val.indexE h_p26 Tryd.underlying23 sz36 rfl rfl) (fun w2 hw => hw) ?_
                refine DT.take 27 rfl rfl rfl rfl (by kernel_rfl) (fun _ _ _ h => h) (Val.loadAtA see 0 rfl Tryd.underlying36 rfl sz36 rfl) (fun w2 hw => hw) ?_
                refine DT.next (by kernel_rfl) ?_
                refine DA.one 28 rfl (by kernel_rfl) ?_
                obtain ⟨t36, hc, ho⟩ := bind_some (x := capstanlaw10_named.f m_0 x28) ho
                refine SP.callV see (caps := []) (.bool t36) fn10 rfl rfl rfl rfl (fun w2 hP hs sub ap => capstanlaw10_named.ok m_0 x28 _ _ _ _ _ _ _ hc w2 hP sub (ap.get 9 rfl) (ap.get 10 rfl) (ap.get 11 rfl) (ap.get 1 rfl) (ap.get 2 rfl) (ap.get 3 rfl)) ?_
                clear hc
                refine SP.nil ?_
                refine QE.atA ?_
                refine DA.one 29 rfl (by kernel_rfl) ?_
                refine SP.val (Val.notB rfl) rfl rfl rfl ?_
                refine SP.nil ?_
                refine QE.atA ?_
                refine DA.one 30 rfl (by kernel_rfl) ?_
                refine SP.val (Val.pickF rfl rfl) rfl rfl rfl ?_
                refine SP.nil ?_
                refine QE.atA ?_
                refine DA.done (by kernel_rfl) ?_
                exact QE.meet fun a w2 ha hw => ⟨(!t36), m0, _, (by omega), ho, hr, ha.sub ⟨rfl, rfl, rfl, rfl, rfl, trivial⟩, (St.selP [9, 10, 11, 12, 13] rfl hw)⟩
theorem cl5 : Tryd.prog.cellsOf 5 = 1 := by kernel_rfl
theorem cl2 : Tryd.prog.cellsOf 2 = 1 := by kernel_rfl
theorem cl52 : Tryd.prog.cellsOf 52 = 3 := by kernel_rfl
def wf_api_Value (x : api_Value) : Prop := (Lit.int .u8 x.Kind).wf = true ∧ (Lit.int .i64 x.A).wf = true ∧ (Lit.int .i64 x.B).wf = true
theorem opens_api_Value : Opens Tryd.prog 52 k_api_Value wf_api_Value := by
  intro H enc W fuel cs d ps h
  cases fuel with
  | zero => simp [DataW.trod] at h
  | succ n =>
    obtain ⟨hl, hf⟩ := trod_struct Tryd.underlying52 h
    rw [cl52] at hl
    obtain ⟨c0, c1, c2, rfl⟩ := len3 hl
    obtain ⟨d0, q0, h0⟩ := hf 0 _ rfl
    replace h0 : DataW.trod enc Tryd.prog W 0 (fun _ => true) true n 5 (List.take (Tryd.prog.cellsOf 5) [c0, c1, c2]) = some (d0, q0) := h0
    rw [cl5] at h0
    replace h0 : DataW.trod enc Tryd.prog W 0 (fun _ => true) true n 5 [c0] = some (d0, q0) := h0
    obtain ⟨x0, r0, w0⟩ := (Opens.int Tryd.underlying5) enc W n _ _ _ h0
    obtain ⟨rfl, -⟩ := List.cons.inj r0
    obtain ⟨d1, q1, h1⟩ := hf 1 _ rfl
    replace h1 : DataW.trod enc Tryd.prog W 0 (fun _ => true) true n 2 (List.take (Tryd.prog.cellsOf 2) [c1, c2]) = some (d1, q1) := h1
    rw [cl2] at h1
    replace h1 : DataW.trod enc Tryd.prog W 0 (fun _ => true) true n 2 [c1] = some (d1, q1) := h1
    obtain ⟨x1, r1, w1⟩ := (Opens.int Tryd.underlying2) enc W n _ _ _ h1
    obtain ⟨rfl, -⟩ := List.cons.inj r1
    obtain ⟨d2, q2, h2⟩ := hf 2 _ rfl
    replace h2 : DataW.trod enc Tryd.prog W 0 (fun _ => true) true n 2 (List.take (Tryd.prog.cellsOf 2) [c2]) = some (d2, q2) := h2
    rw [cl2] at h2
    replace h2 : DataW.trod enc Tryd.prog W 0 (fun _ => true) true n 2 [c2] = some (d2, q2) := h2
    obtain ⟨x2, r2, w2⟩ := (Opens.int Tryd.underlying2) enc W n _ _ _ h2
    obtain ⟨rfl, -⟩ := List.cons.inj r2
    exact ⟨⟨x0, x1, x2⟩, rfl, w0, w1, w2⟩
theorem cl3 : Tryd.prog.cellsOf 3 = 1 := by kernel_rfl
theorem cl45 : Tryd.prog.cellsOf 45 = 3 := by kernel_rfl
def wf_api_Instr (x : api_Instr) : Prop := (Lit.int .u8 x.Op).wf = true ∧ (Lit.int .i64 x.A).wf = true ∧ (Lit.int .i64 x.B).wf = true
theorem opens_api_Instr : Opens Tryd.prog 45 k_api_Instr wf_api_Instr := by
  intro H enc W fuel cs d ps h
  cases fuel with
  | zero => simp [DataW.trod] at h
  | succ n =>
    obtain ⟨hl, hf⟩ := trod_struct Tryd.underlying45 h
    rw [cl45] at hl
    obtain ⟨c0, c1, c2, rfl⟩ := len3 hl
    obtain ⟨d0, q0, h0⟩ := hf 0 _ rfl
    replace h0 : DataW.trod enc Tryd.prog W 0 (fun _ => true) true n 5 (List.take (Tryd.prog.cellsOf 5) [c0, c1, c2]) = some (d0, q0) := h0
    rw [cl5] at h0
    replace h0 : DataW.trod enc Tryd.prog W 0 (fun _ => true) true n 5 [c0] = some (d0, q0) := h0
    obtain ⟨x0, r0, w0⟩ := (Opens.int Tryd.underlying5) enc W n _ _ _ h0
    obtain ⟨rfl, -⟩ := List.cons.inj r0
    obtain ⟨d1, q1, h1⟩ := hf 1 _ rfl
    replace h1 : DataW.trod enc Tryd.prog W 0 (fun _ => true) true n 3 (List.take (Tryd.prog.cellsOf 3) [c1, c2]) = some (d1, q1) := h1
    rw [cl3] at h1
    replace h1 : DataW.trod enc Tryd.prog W 0 (fun _ => true) true n 3 [c1] = some (d1, q1) := h1
    obtain ⟨x1, r1, w1⟩ := (Opens.int Tryd.underlying3) enc W n _ _ _ h1
    obtain ⟨rfl, -⟩ := List.cons.inj r1
    obtain ⟨d2, q2, h2⟩ := hf 2 _ rfl
    replace h2 : DataW.trod enc Tryd.prog W 0 (fun _ => true) true n 3 (List.take (Tryd.prog.cellsOf 3) [c2]) = some (d2, q2) := h2
    rw [cl3] at h2
    replace h2 : DataW.trod enc Tryd.prog W 0 (fun _ => true) true n 3 [c2] = some (d2, q2) := h2
    obtain ⟨x2, r2, w2⟩ := (Opens.int Tryd.underlying3) enc W n _ _ _ h2
    obtain ⟨rfl, -⟩ := List.cons.inj r2
    exact ⟨⟨x0, x1, x2⟩, rfl, w0, w1, w2⟩
theorem cl33 : Tryd.prog.cellsOf 33 = 1 := by kernel_rfl
theorem cl4 : Tryd.prog.cellsOf 4 = 1 := by kernel_rfl
theorem cl34 : Tryd.prog.cellsOf 34 = 1 := by kernel_rfl
theorem cl36 : Tryd.prog.cellsOf 36 = 8 := by kernel_rfl
def wf_api_Method (x : api_Method) : Prop := (x.Args.length ≤ maxLen ∧ ∀ y ∈ x.Args, (Lit.int .u8 y).wf = true) ∧ (x.Locals.length ≤ maxLen ∧ ∀ y ∈ x.Locals, (Lit.int .u8 y).wf = true) ∧ (Lit.int .u8 x.Result).wf = true ∧ True ∧ (Lit.int .i64 x.Fuel).wf = true ∧ (Lit.int .i64 x.Stack).wf = true ∧ (Lit.int .i64 x.Heap).wf = true ∧ (x.Code.length ≤ maxLen ∧ ∀ y ∈ x.Code, wf_api_Instr y)
theorem opens_api_Method : Opens Tryd.prog 36 k_api_Method wf_api_Method := by
  intro H enc W fuel cs d ps h
  cases fuel with
  | zero => simp [DataW.trod] at h
  | succ n =>
    obtain ⟨hl, hf⟩ := trod_struct Tryd.underlying36 h
    rw [cl36] at hl
    obtain ⟨c0, c1, c2, c3, c4, c5, c6, c7, rfl⟩ := len8 hl
    obtain ⟨d0, q0, h0⟩ := hf 0 _ rfl
    replace h0 : DataW.trod enc Tryd.prog W 0 (fun _ => true) true n 33 (List.take (Tryd.prog.cellsOf 33) [c0, c1, c2, c3, c4, c5, c6, c7]) = some (d0, q0) := h0
    rw [cl33] at h0
    replace h0 : DataW.trod enc Tryd.prog W 0 (fun _ => true) true n 33 [c0] = some (d0, q0) := h0
    obtain ⟨x0, r0, w0⟩ := (Opens.slice Tryd.underlying33 (Opens.int Tryd.underlying5) cl5 (by decide)) enc W n _ _ _ h0
    obtain ⟨v0, e0, r0⟩ := r0
    obtain ⟨rfl, -⟩ := List.cons.inj e0
    obtain ⟨d1, q1, h1⟩ := hf 1 _ rfl
    replace h1 : DataW.trod enc Tryd.prog W 0 (fun _ => true) true n 33 (List.take (Tryd.prog.cellsOf 33) [c1, c2, c3, c4, c5, c6, c7]) = some (d1, q1) := h1
    rw [cl33] at h1
    replace h1 : DataW.trod enc Tryd.prog W 0 (fun _ => true) true n 33 [c1] = some (d1, q1) := h1
    obtain ⟨x1, r1, w1⟩ := (Opens.slice Tryd.underlying33 (Opens.int Tryd.underlying5) cl5 (by decide)) enc W n _ _ _ h1
    obtain ⟨v1, e1, r1⟩ := r1
    obtain ⟨rfl, -⟩ := List.cons.inj e1
    obtain ⟨d2, q2, h2⟩ := hf 2 _ rfl
    replace h2 : DataW.trod enc Tryd.prog W 0 (fun _ => true) true n 5 (List.take (Tryd.prog.cellsOf 5) [c2, c3, c4, c5, c6, c7]) = some (d2, q2) := h2
    rw [cl5] at h2
    replace h2 : DataW.trod enc Tryd.prog W 0 (fun _ => true) true n 5 [c2] = some (d2, q2) := h2
    obtain ⟨x2, r2, w2⟩ := (Opens.int Tryd.underlying5) enc W n _ _ _ h2
    obtain ⟨rfl, -⟩ := List.cons.inj r2
    obtain ⟨d3, q3, h3⟩ := hf 3 _ rfl
    replace h3 : DataW.trod enc Tryd.prog W 0 (fun _ => true) true n 4 (List.take (Tryd.prog.cellsOf 4) [c3, c4, c5, c6, c7]) = some (d3, q3) := h3
    rw [cl4] at h3
    replace h3 : DataW.trod enc Tryd.prog W 0 (fun _ => true) true n 4 [c3] = some (d3, q3) := h3
    obtain ⟨x3, r3, w3⟩ := (Opens.bool Tryd.underlying4) enc W n _ _ _ h3
    obtain ⟨rfl, -⟩ := List.cons.inj r3
    obtain ⟨d4, q4, h4⟩ := hf 4 _ rfl
    replace h4 : DataW.trod enc Tryd.prog W 0 (fun _ => true) true n 3 (List.take (Tryd.prog.cellsOf 3) [c4, c5, c6, c7]) = some (d4, q4) := h4
    rw [cl3] at h4
    replace h4 : DataW.trod enc Tryd.prog W 0 (fun _ => true) true n 3 [c4] = some (d4, q4) := h4
    obtain ⟨x4, r4, w4⟩ := (Opens.int Tryd.underlying3) enc W n _ _ _ h4
    obtain ⟨rfl, -⟩ := List.cons.inj r4
    obtain ⟨d5, q5, h5⟩ := hf 5 _ rfl
    replace h5 : DataW.trod enc Tryd.prog W 0 (fun _ => true) true n 3 (List.take (Tryd.prog.cellsOf 3) [c5, c6, c7]) = some (d5, q5) := h5
    rw [cl3] at h5
    replace h5 : DataW.trod enc Tryd.prog W 0 (fun _ => true) true n 3 [c5] = some (d5, q5) := h5
    obtain ⟨x5, r5, w5⟩ := (Opens.int Tryd.underlying3) enc W n _ _ _ h5
    obtain ⟨rfl, -⟩ := List.cons.inj r5
    obtain ⟨d6, q6, h6⟩ := hf 6 _ rfl
    replace h6 : DataW.trod enc Tryd.prog W 0 (fun _ => true) true n 3 (List.take (Tryd.prog.cellsOf 3) [c6, c7]) = some (d6, q6) := h6
    rw [cl3] at h6
    replace h6 : DataW.trod enc Tryd.prog W 0 (fun _ => true) true n 3 [c6] = some (d6, q6) := h6
    obtain ⟨x6, r6, w6⟩ := (Opens.int Tryd.underlying3) enc W n _ _ _ h6
    obtain ⟨rfl, -⟩ := List.cons.inj r6
    obtain ⟨d7, q7, h7⟩ := hf 7 _ rfl
    replace h7 : DataW.trod enc Tryd.prog W 0 (fun _ => true) true n 34 (List.take (Tryd.prog.cellsOf 34) [c7]) = some (d7, q7) := h7
    rw [cl34] at h7
    replace h7 : DataW.trod enc Tryd.prog W 0 (fun _ => true) true n 34 [c7] = some (d7, q7) := h7
    obtain ⟨x7, r7, w7⟩ := (Opens.slice Tryd.underlying34 opens_api_Instr cl45 (by decide)) enc W n _ _ _ h7
    obtain ⟨v7, e7, r7⟩ := r7
    obtain ⟨rfl, -⟩ := List.cons.inj e7
    exact ⟨⟨x0, x1, x2, x3, x4, x5, x6, x7⟩, ⟨_, _, _, rfl, r0, r1, r7⟩, w0, w1, w2, w3, w4, w5, w6, w7⟩
theorem cl22 : Tryd.prog.cellsOf 22 = 1 := by kernel_rfl
theorem cl23 : Tryd.prog.cellsOf 23 = 1 := by kernel_rfl
theorem cl25 : Tryd.prog.cellsOf 25 = 4 := by kernel_rfl
def wf_api_Module (x : api_Module) : Prop := (x.Globals.length ≤ maxLen ∧ ∀ y ∈ x.Globals, wf_api_Value y) ∧ (x.Pool.length ≤ maxLen ∧ ∀ y ∈ x.Pool, wf_api_Value y) ∧ (x.Methods.length ≤ maxLen ∧ ∀ y ∈ x.Methods, wf_api_Method y) ∧ (Lit.int .i64 x.Migrate).wf = true
theorem opens_api_Module : Opens Tryd.prog 25 k_api_Module wf_api_Module := by
  intro H enc W fuel cs d ps h
  cases fuel with
  | zero => simp [DataW.trod] at h
  | succ n =>
    obtain ⟨hl, hf⟩ := trod_struct Tryd.underlying25 h
    rw [cl25] at hl
    obtain ⟨c0, c1, c2, c3, rfl⟩ := len4 hl
    obtain ⟨d0, q0, h0⟩ := hf 0 _ rfl
    replace h0 : DataW.trod enc Tryd.prog W 0 (fun _ => true) true n 22 (List.take (Tryd.prog.cellsOf 22) [c0, c1, c2, c3]) = some (d0, q0) := h0
    rw [cl22] at h0
    replace h0 : DataW.trod enc Tryd.prog W 0 (fun _ => true) true n 22 [c0] = some (d0, q0) := h0
    obtain ⟨x0, r0, w0⟩ := (Opens.slice Tryd.underlying22 opens_api_Value cl52 (by decide)) enc W n _ _ _ h0
    obtain ⟨v0, e0, r0⟩ := r0
    obtain ⟨rfl, -⟩ := List.cons.inj e0
    obtain ⟨d1, q1, h1⟩ := hf 1 _ rfl
    replace h1 : DataW.trod enc Tryd.prog W 0 (fun _ => true) true n 22 (List.take (Tryd.prog.cellsOf 22) [c1, c2, c3]) = some (d1, q1) := h1
    rw [cl22] at h1
    replace h1 : DataW.trod enc Tryd.prog W 0 (fun _ => true) true n 22 [c1] = some (d1, q1) := h1
    obtain ⟨x1, r1, w1⟩ := (Opens.slice Tryd.underlying22 opens_api_Value cl52 (by decide)) enc W n _ _ _ h1
    obtain ⟨v1, e1, r1⟩ := r1
    obtain ⟨rfl, -⟩ := List.cons.inj e1
    obtain ⟨d2, q2, h2⟩ := hf 2 _ rfl
    replace h2 : DataW.trod enc Tryd.prog W 0 (fun _ => true) true n 23 (List.take (Tryd.prog.cellsOf 23) [c2, c3]) = some (d2, q2) := h2
    rw [cl23] at h2
    replace h2 : DataW.trod enc Tryd.prog W 0 (fun _ => true) true n 23 [c2] = some (d2, q2) := h2
    obtain ⟨x2, r2, w2⟩ := (Opens.slice Tryd.underlying23 opens_api_Method cl36 (by decide)) enc W n _ _ _ h2
    obtain ⟨v2, e2, r2⟩ := r2
    obtain ⟨rfl, -⟩ := List.cons.inj e2
    obtain ⟨d3, q3, h3⟩ := hf 3 _ rfl
    replace h3 : DataW.trod enc Tryd.prog W 0 (fun _ => true) true n 3 (List.take (Tryd.prog.cellsOf 3) [c3]) = some (d3, q3) := h3
    rw [cl3] at h3
    replace h3 : DataW.trod enc Tryd.prog W 0 (fun _ => true) true n 3 [c3] = some (d3, q3) := h3
    obtain ⟨x3, r3, w3⟩ := (Opens.int Tryd.underlying3) enc W n _ _ _ h3
    obtain ⟨rfl, -⟩ := List.cons.inj r3
    exact ⟨⟨x0, x1, x2, x3⟩, ⟨_, _, _, rfl, r0, r1, r2⟩, w0, w1, w2, w3⟩
/-- What is left to be shown of the law: of plain values alone. -/
def capstanlaw10_TypesWay.Pure : Prop := ∀ (x0 : api_Module) (x1 : Int) (x2 : (List Bool)), wf_api_Module x0 → (Lit.int .i64 x1).wf = true → (x2.length ≤ maxLen ∧ ∀ y ∈ x2, True) → capstanlaw10_TypesWay.f x0 x1 x2 = some true
end Go.Proofs.YtpbmkaenleedoaaDoor
end
