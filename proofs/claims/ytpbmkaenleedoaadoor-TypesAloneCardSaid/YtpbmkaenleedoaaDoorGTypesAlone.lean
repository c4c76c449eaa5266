/- Functions of the program as plain functions, with the proof that the code computes them: printed by gen.py of this session. -/
import Derived.Test.YtpbmkaenleedoaaDoorProg
import Derived.Test.YtpbmkaenleedoaaDoorQ32v539090
import Derived.Ground.Names8Prog
import Derived.Ground.NamesProg
import Derived.Ground.SlgcProg
import Derived.Ground.SlgmProg
import Derived.Ground.SlgnProg
import Derived.Ground.SlsfProg
import Derived.Shelf.Bits.Mul64
import Derived.Shelf.Lay
import Derived.Shelf.SlGeneric
import Derived.Shelf.SlSortCmp.WholeK
import Derived.Shelf.SlicesE.Reverse
import Derived.Shelf.SlicesG.Cmp
import Derived.Shelf.SlicesG.CompactI
import Derived.Shelf.Small.Bits
import Derived.Shelf.SortM.Plain
import Derived.Shelf.SortM.SortNone
import Derived.Shelf.Spec.SlicesGrow
import Derived.Test.YtpbmkaenleedoaaDoorGTypesAlonep3
set_option linter.unusedVariables false
set_option linter.unusedSimpArgs false
set_option maxRecDepth 20000
set_option maxHeartbeats 2000000
noncomputable section
namespace Go.Proofs.YtpbmkaenleedoaaDoor
open Go.Q
/-! ### capstan/capstanlaw10.TypesAlone: function 4 -/
inductive capstanlaw10_TypesAlone.S where
  | start
  | l1 (t8 : api_Module) (l643 : List api_Value) (x645 : Int)
  | l2 (t8 : api_Module) (l643 : List api_Value) (l961 : List api_Value) (x963 : Int)
  | l3 (l643 : List api_Value) (l961 : List api_Value) (l1117 : List api_Method) (x1119 : Int)
  | l4 (t1147 : (List types_Row) × Int) (t1150 : (List types_Row) × Int) (x1230 : Int)

def capstanlaw10_TypesAlone.j1 (m_0 : api_Module) (k_1 : Int) (l643 : List api_Value) (l961 : List api_Value) (x1119 : Int) (l1144 : List api_Method) : Option (capstanlaw10_TypesAlone.S ⊕ Bool) :=
  some (.inl (.l3 l643 l961 l1144 (IntKind.i64.wrap (x1119 + 1))))

def capstanlaw10_TypesAlone.j3 (m_0 : api_Module) (k_1 : Int) (t1147 : (List types_Row) × Int) (t1150 : (List types_Row) × Int) (x1230 : Int) (b1263 : Bool) : Option (capstanlaw10_TypesAlone.S ⊕ Bool) :=
  if b1263 = true then (some (.inr false)) else (some (.inl (.l4 t1147 t1150 (IntKind.i64.wrap (x1230 + 1)))))

def capstanlaw10_TypesAlone.j2 (m_0 : api_Module) (k_1 : Int) (t1147 : (List types_Row) × Int) (t1150 : (List types_Row) × Int) (b1160 : Bool) : Option (capstanlaw10_TypesAlone.S ⊕ Bool) :=
  if b1160 = true then (some (.inr false)) else (some (.inl (.l4 t1147 t1150 0)))

def capstanlaw10_TypesAlone.F (m_0 : api_Module) (k_1 : Int) : capstanlaw10_TypesAlone.S → Option (capstanlaw10_TypesAlone.S ⊕ Bool)
  | .start => (capstanlaw10_awake.f ).bind fun t6 => if (!t6) = true then (some (.inr false)) else ((capstanlaw08_Great.f m_0).bind fun t7 => if t7 = true then (some (.inr true)) else ((capstanref08_Copy.f m_0).bind fun t8 => some (.inl (.l1 t8 t8.Globals 0))))
  | .l1 t8 l643 x645 => if x645 < (l643.length : Int) then ((elt l643 x645).bind fun x648 => (elt l643 x645).bind fun x651 => (elt (l643.set x645.toNat (⟨x651.Kind, IntKind.i64.wrap (Int.tdiv x648.A 2), x651.B⟩ : api_Value)) x645).bind fun x654 => some (.inl (.l1 t8 ((l643.set x645.toNat (⟨x651.Kind, IntKind.i64.wrap (Int.tdiv x648.A 2), x651.B⟩ : api_Value)).set x645.toNat (⟨x654.Kind, x654.A, 7⟩ : api_Value)) (IntKind.i64.wrap (x645 + 1))))) else (some (.inl (.l2 t8 l643 t8.Pool 0)))
  | .l2 t8 l643 l961 x963 => if x963 < (l961.length : Int) then ((elt l961 x963).bind fun x966 => (elt l961 x963).bind fun x969 => some (.inl (.l2 t8 l643 (l961.set x963.toNat (⟨x969.Kind, IntKind.i64.wrap (1 - (IntKind.i64.wrap (Int.tdiv x966.A 2))), x969.B⟩ : api_Value)) (IntKind.i64.wrap (x963 + 1))))) else (some (.inl (.l3 l643 l961 t8.Methods 0)))
  | .l3 l643 l961 l1117 x1119 => if x1119 < (l1117.length : Int) then ((elt l1117 x1119).bind fun x1122 => (elt l1117 x1119).bind fun x1125 => (elt l1117 x1119).bind fun x1128 => (elt ((l1117.set x1119.toNat ({ x1125 with Fuel := 1 } : api_Method)).set x1119.toNat ({ ({ x1125 with Fuel := 1 } : api_Method) with Stack := 2 } : api_Method)) x1119).bind fun x1133 => if x1119 ≠ k_1 then ((elt (((l1117.set x1119.toNat ({ x1125 with Fuel := 1 } : api_Method)).set x1119.toNat ({ ({ x1125 with Fuel := 1 } : api_Method) with Stack := 2 } : api_Method)).set x1119.toNat ({ x1133 with Reads := !x1122.Reads } : api_Method)) x1119).bind fun x1137 => (elt ((((l1117.set x1119.toNat ({ x1125 with Fuel := 1 } : api_Method)).set x1119.toNat ({ ({ x1125 with Fuel := 1 } : api_Method) with Stack := 2 } : api_Method)).set x1119.toNat ({ x1133 with Reads := !x1122.Reads } : api_Method)).set x1119.toNat ({ x1137 with Code := [] } : api_Method)) x1119).bind fun x1141 => capstanlaw10_TypesAlone.j1 m_0 k_1 l643 l961 x1119 (((((l1117.set x1119.toNat ({ x1125 with Fuel := 1 } : api_Method)).set x1119.toNat ({ ({ x1125 with Fuel := 1 } : api_Method) with Stack := 2 } : api_Method)).set x1119.toNat ({ x1133 with Reads := !x1122.Reads } : api_Method)).set x1119.toNat ({ x1137 with Code := [] } : api_Method)).set x1119.toNat ({ x1141 with Locals := [] } : api_Method))) else (capstanlaw10_TypesAlone.j1 m_0 k_1 l643 l961 x1119 (((l1117.set x1119.toNat ({ x1125 with Fuel := 1 } : api_Method)).set x1119.toNat ({ ({ x1125 with Fuel := 1 } : api_Method) with Stack := 2 } : api_Method)).set x1119.toNat ({ x1133 with Reads := !x1122.Reads } : api_Method)))) else ((types_Rows.f m_0 k_1).bind fun t1147 => (types_Rows.f (⟨l643, l961, l1117, 99⟩ : api_Module) k_1).bind fun t1150 => if t1147.2 ≠ t1150.2 then (capstanlaw10_TypesAlone.j2 m_0 k_1 t1147 t1150 true) else (if (t1147.1.length : Int) ≠ (t1150.1.length : Int) then (capstanlaw10_TypesAlone.j2 m_0 k_1 t1147 t1150 true) else ((types_Check.f (⟨l643, l961, l1117, 99⟩ : api_Module) k_1).bind fun t1157 => (types_Check.f m_0 k_1).bind fun t1159 => capstanlaw10_TypesAlone.j2 m_0 k_1 t1147 t1150 (decide (t1157 ≠ t1159)))))
  | .l4 t1147 t1150 x1230 => if x1230 < (t1147.1.length : Int) then ((elt t1147.1 x1230).bind fun x1234 => (elt t1150.1 x1230).bind fun x1240 => if (!(x1234.Reached == x1240.Reached)) = true then (capstanlaw10_TypesAlone.j3 m_0 k_1 t1147 t1150 x1230 true) else ((elt t1147.1 x1230).bind fun x1248 => (elt t1150.1 x1230).bind fun x1256 => (capstanref07_SameKinds.f x1248.Kinds x1256.Kinds).bind fun t1262 => capstanlaw10_TypesAlone.j3 m_0 k_1 t1147 t1150 x1230 (!t1262))) else (some (.inr true))

def capstanlaw10_TypesAlone.f (m_0 : api_Module) (k_1 : Int) : Option Bool := runF (capstanlaw10_TypesAlone.F m_0 k_1) .start
theorem capstanlaw10_TypesAlone.ok (m_0 : api_Module) (k_1 : Int) (v_m_0_Globals : Value) (v_m_0_Pool : Value) (v_m_0_Methods : Value)  (r : Bool) (H : capstanlaw10_TypesAlone.f m_0 k_1 = some r) (w : World) (hV : Hp) (sV : Sub hV (hp w)) (h0 : slR k_api_Value hV v_m_0_Globals m_0.Globals) (h1 : slR k_api_Value hV v_m_0_Pool m_0.Pool) (h2 : slR k_api_Method hV v_m_0_Methods m_0.Methods) (h3 : (arrP k_arr136 0 tab0).p hV) :
    Trip Tryd.prog 4 [.agg #[v_m_0_Globals, v_m_0_Pool, v_m_0_Methods, .int .i64 m_0.Migrate], .int .i64 k_1].toArray em hV w (fun v => HO.pure (v = .bool r)) := by
  have see : Sees w em hV := ⟨sV, Dj.em_right _⟩
  refine Trip.of (P := Tryd.prog) (n := ⟨169, []⟩) Tryd.func4 rfl ⟨rfl, rfl⟩ rfl (St.begin (All.cons (x := slP k_api_Value v_m_0_Globals m_0.Globals) h0 (All.cons (x := slP k_api_Value v_m_0_Pool m_0.Pool) h1 (All.cons (x := slP k_api_Method v_m_0_Methods m_0.Methods) h2 (All.cons (x := arrP k_arr136 0 tab0) h3 (All.nil _)))))) ?_
  obtain ⟨n0, hi⟩ := runF_iff.1 H
  obtain ⟨m0, o, hm0, ho, hr⟩ := iter_some hi
  clear hi
  refine CP.seq ?_
  refine CP.region ?_
  refine SP.box (cs := [v_m_0_Globals, v_m_0_Pool, v_m_0_Methods, .int .i64 m_0.Migrate]) rfl rfl rfl rfl (fun b4 => ?_)
  refine SP.val (Val.assign rfl) rfl rfl rfl ?_
  refine SP.nil ?_
  refine QE.then ?_
  refine CP.seq ?_
  refine CP.seq ?_
  refine CP.region ?_
  obtain ⟨t6, hc, ho⟩ := bind_some (x := capstanlaw10_awake.f ) ho
  refine SP.callV see (caps := []) (.bool t6) fn7 rfl rfl rfl rfl (fun w2 hP hs sub ap => capstanlaw10_awake.ok   _ hc w2 hP sub (ap.get 3 rfl)) ?_
  clear hc
  refine SP.val (Val.notB rfl) rfl rfl rfl ?_
  refine SP.nil ?_
  refine QE.then ?_
  rcases if_some ho with ⟨hc, ho⟩ | ⟨hc, ho⟩
  · refine CP.condT rfl hc ?_
    refine CP.seq ?_
    refine CP.region ?_
    refine SP.val (Val.assign rfl) rfl rfl rfl ?_
    refine SP.nil ?_
    refine QE.then ?_
    refine CP.ret ?_
    refine QE.thru (by intro e; cases e) ?_
    obtain rfl := Option.some.inj ho
    obtain rfl := Option.some.inj hr
    exact QE.rets (rs := [.tmp 4]) (vs := [.bool false]) Tryd.results4 rfl ⟨RVs.tmp rfl, trivial⟩ (fun w2 h => St.done (fun a b p s => rfl) h)
  · refine CP.condF rfl (bf hc) ?_
    refine CP.skip ?_
    refine QE.then ?_
    refine CP.seq ?_
    refine CP.seq ?_
    refine CP.region ?_
    refine SP.val (Val.loadA 0 rfl Tryd.underlying25 rfl sz25 rfl rfl rfl) rfl rfl rfl ?_
    obtain ⟨t7, hc, ho⟩ := bind_some (x := capstanlaw08_Great.f m_0) ho
    refine SP.callV see (caps := []) (.bool t7) fn8 rfl rfl rfl rfl (fun w2 hP hs sub ap => capstanlaw08_Great.ok m_0 _ _ _ _ hc w2 hP sub (ap.get 0 rfl) (ap.get 1 rfl) (ap.get 2 rfl)) ?_
    clear hc
    refine SP.nil ?_
    refine QE.then ?_
    rcases if_some ho with ⟨hc, ho⟩ | ⟨hc, ho⟩
    · refine CP.condT rfl hc ?_
      refine CP.seq ?_
      refine CP.region ?_
      refine SP.val (Val.assign rfl) rfl rfl rfl ?_
      refine SP.nil ?_
      refine QE.then ?_
      refine CP.ret ?_
      refine QE.thru (by intro e; cases e) ?_
      obtain rfl := Option.some.inj ho
      obtain rfl := Option.some.inj hr
      exact QE.rets (rs := [.tmp 4]) (vs := [.bool true]) Tryd.results4 rfl ⟨RVs.tmp rfl, trivial⟩ (fun w2 h => St.done (fun a b p s => rfl) h)
    · refine CP.condF rfl (bf hc) ?_
      refine CP.skip ?_
      refine QE.then ?_
      refine CP.seq ?_
      refine CP.region ?_
      refine SP.val (Val.loadA 0 rfl Tryd.underlying25 rfl sz25 rfl rfl rfl) rfl rfl rfl ?_
      obtain ⟨t8, hc, ho⟩ := bind_some (x := capstanref08_Copy.f m_0) ho
      refine SP.callK see (caps := []) _ fn15 rfl rfl rfl rfl (fun w2 hP hs sub ap => capstanref08_Copy.ok m_0 _ _ _ _ hc w2 hP sub (ap.get 0 rfl) (ap.get 1 rfl) (ap.get 2 rfl)) (fun vr => ?_)
      refine SP.ex (fun w2 h => St.open h) (fun v9 => ?_)
      refine SP.ex (fun w2 h => St.open h) (fun v10 => ?_)
      refine SP.ex (fun w2 h => St.open h) (fun v11 => ?_)
      refine SP.have (fun w2 h => (St.pand h).1.symm) (fun er => ?_)
      subst er
      refine SP.imp (fun w2 h => St.seps (St.pand h).2) ?_
      clear hc
      refine SP.alloc (cs := [(.slice none 0 0), (.slice none 0 0), (.slice none 0 0), .int .i64 0]) inf25 rfl rfl (fun b15 => ?_)
      refine SP.have (fun w2 hw => slO.shape (St.own 1 rfl see.sub see.dj hw)) (fun hs_v9 => ?_)
      refine SP.have (fun w2 hw => slO.shape (St.own 2 rfl see.sub see.dj hw)) (fun hs_v10 => ?_)
      refine SP.have (fun w2 hw => slD.shape (St.own 3 rfl see.sub see.dj hw)) (fun hs_v11 => ?_)
      refine SP.store (v := .agg #[v9, v10, v11, .int .i64 t8.Migrate]) (vs := [v9, v10, v11, .int .i64 t8.Migrate]) 0 (by rfl) sz25 (by rfl) (by rfl) (by rfl) (by rfl) (one_cons hs_v9 (one_cons hs_v10 (one_cons hs_v11 (one_cons rfl (rfl))))) (by rfl) ?_
      refine SP.nil ?_
      refine QE.then ?_
      refine CP.seq ?_
      refine CP.region ?_
      refine SP.val (Val.fieldAddr Tryd.underlying25 rfl sz3 rfl) rfl rfl rfl ?_
      refine SP.store (v := .int .i64 99) (vs := [.int .i64 99]) 0 (by rfl) sz3 (by rfl) (by rfl) (by rfl) (by rfl) (by rfl) (by rfl) ?_
      refine SP.nil ?_
      refine QE.then ?_
      refine CP.seq ?_
      refine CP.seq ?_
      refine CP.region ?_
      refine SP.val (Val.assign rfl) rfl rfl rfl ?_
      refine SP.nil ?_
      refine QE.then ?_
      refine CP.block ?_
      obtain rfl := Option.some.inj ho
      refine CP.loop (fun cl1 a w2 => ∃ l643 : List api_Value, ∃ x645 : Int, ∃ v644 : Value, cl1 ≤ m0 ∧ iter (capstanlaw10_TypesAlone.F m_0 k_1) cl1 (.l1 t8 l643 x645) = some r ∧ Env ⟨169, []⟩ [(1, .int .i64 k_1), (2, .pointer (some ⟨b4, 0, none⟩)), (5, .pointer (some ⟨b15, 0, none⟩)), (6, .int .i64 x645)] a ∧ St w em hV [slP k_api_Value v_m_0_Globals m_0.Globals, slP k_api_Value v_m_0_Pool m_0.Pool, slP k_api_Method v_m_0_Methods m_0.Methods, arrP k_arr136 0 tab0] [boxO b15 [v644, v10, v11, .int .i64 99] 25, slO k_api_Value 52 v644 l643, slO k_api_Value 52 v10 t8.Pool, slD o_api_Method 36 v11 t8.Methods, boxO b4 [v_m_0_Globals, v_m_0_Pool, v_m_0_Methods, .int .i64 m_0.Migrate] 25] w2) m0 (fun a w2 ha hw => ⟨t8.Globals, 0, v9, Nat.le_refl _, hr, ha.sub ⟨rfl, rfl, rfl, rfl, trivial⟩, hw⟩) ?_
      clear hr
      rintro cl1 a w2 ⟨l643, x645, v644, hc_l1, hi, ha, hw⟩
      obtain ⟨m646, o, hm_m646, ho, hr⟩ := iter_some hi
      refine CP.app ha hw ?_
      clear ha hw a w2 hi
      refine CP.seq ?_
      refine CP.seq ?_
      refine CP.region ?_
      refine SP.val (Val.move rfl) rfl rfl rfl ?_
      refine SP.val (Val.fieldAddr Tryd.underlying25 rfl sz22 rfl) rfl rfl rfl ?_
      refine SP.val (Val.load1 0 rfl Tryd.underlying22 rfl rfl rfl) rfl rfl rfl ?_
      refine SP.val (Val.lenW (fun w2 hw => slO.whole (St.own 1 rfl see.sub see.dj hw)) Tryd.underlying22 rfl) rfl rfl rfl ?_
      refine SP.val (Val.lss rfl rfl) rfl rfl rfl ?_
      refine SP.nil ?_
      refine QE.then ?_
      rcases if_some ho with ⟨hc, ho⟩ | ⟨hc, ho⟩
      · refine CP.condT rfl (decide_eq_true hc) ?_
        refine CP.skip ?_
        refine QE.then ?_
        refine CP.seq ?_
        refine CP.block ?_
        refine CP.seq ?_
        refine CP.drawA (by kernel_rfl) (fun w2 k h => h.drawn k) ?_
        obtain ⟨x648, hx_x648, ho⟩ := bind_some ho
        have hx_x648 := elt_some hx_x648
        refine DA.ghost (fun w2 hw => let ⟨z, hz⟩ := ixC ((fun w2 hw => slO.whole (St.own 1 rfl see.sub see.dj hw)) w2 hw) hx_x648.1 hx_x648.2; ⟨z, hz, hw⟩) (fun p647 i_p647 => ?_)
        have h_p647 := i_p647.1
        obtain ⟨p649, h_p649⟩ := PtC.more h_p647 1
        refine DA.phase (fun i => Nat.ble 0 i && Nat.blt i 10) (fun w2 => St w em hV [slP k_api_Value v_m_0_Globals m_0.Globals, slP k_api_Value v_m_0_Pool m_0.Pool, slP k_api_Method v_m_0_Methods m_0.Methods, arrP k_arr136 0 tab0] [boxO b15 [v644, v10, v11, .int .i64 99] 25, slO k_api_Value 52 v644 l643, slO k_api_Value 52 v10 t8.Pool, slD o_api_Method 36 v11 t8.Methods, boxO b4 [v_m_0_Globals, v_m_0_Pool, v_m_0_Methods, .int .i64 m_0.Migrate] 25] w2) ?_
        refine DT.take 0 rfl rfl rfl rfl (by kernel_rfl) (fun _ _ _ h => h) (Val.fieldAddr Tryd.underlying25 rfl sz22 rfl) (fun w2 hw => hw) ?_
        refine DT.take 1 rfl rfl rfl rfl (by kernel_rfl) (fun _ _ _ h => h) (Val.load1 0 rfl Tryd.underlying22 rfl rfl rfl) (fun w2 hw => hw) ?_
        refine DT.take 2 rfl rfl rfl rfl (by kernel_rfl) (fun _ _ _ h => h) (Val.move rfl) (fun w2 hw => hw) ?_
        refine DT.take 3 rfl rfl rfl rfl (by kernel_rfl) (fun _ _ _ h => h) (Val.fieldAddr Tryd.underlying25 rfl sz22 rfl) (fun w2 hw => hw) ?_
        refine DT.take 4 rfl rfl rfl rfl (by kernel_rfl) (fun _ _ _ h => h) (Val.load1 0 rfl Tryd.underlying22 rfl rfl rfl) (fun w2 hw => hw) ?_
        refine DT.take 5 rfl rfl rfl rfl (by kernel_rfl) (fun _ _ _ h => h) (Val.move rfl) (fun w2 hw => hw) ?_
        refine DT.take 6 rfl rfl rfl rfl (by kernel_rfl) (fun _ _ _ h => h) (Val.indexC' i_p647 Tryd.underlying22 sz52 rfl rfl) (fun w2 hw => hw) ?_
        refine DT.take 7 rfl rfl rfl rfl (by kernel_rfl) (fun _ _ _ h => h) (Val.fieldC h_p647 h_p649 Tryd.underlying52 rfl rfl sz2 rfl) (fun w2 hw => hw) ?_
        refine DT.take 8 rfl rfl rfl rfl (by kernel_rfl) (fun _ _ _ h => h) (Val.loadW1 (off := 1) (k := k_api_Value) (fun w2 hw => slO.whole (St.own 1 rfl see.sub see.dj hw)) hx_x648.2 h_p649 (fun _ _ e => by subst e; rfl) Tryd.underlying2 rfl rfl) (fun w2 hw => hw) ?_
        refine DT.take 9 rfl rfl rfl rfl (by kernel_rfl) (fun _ _ _ h => h) (Val.quo rfl rfl (by decide)) (fun w2 hw => hw) ?_
        refine DT.next (by kernel_rfl) ?_
        refine DA.one 10 rfl (by kernel_rfl) ?_
        obtain ⟨x651, hx_x651, ho⟩ := bind_some ho
        have hx_x651 := elt_some hx_x651
        refine SP.indexW (fun w2 hw => slO.whole (St.own 1 rfl see.sub see.dj hw)) Tryd.underlying22 sz52 hx_x651.1 hx_x651.2 rfl rfl rfl rfl (fun p650 h_p650 => ?_)
        refine SP.nil ?_
        refine QE.atA ?_
        refine DA.one 11 rfl (by kernel_rfl) ?_
        refine SP.fieldO h_p650 Tryd.underlying52 rfl sz2 rfl rfl rfl (fun p652 h_p652 => ?_)
        refine SP.nil ?_
        refine QE.atA ?_
        refine DA.one 12 rfl (by kernel_rfl) ?_
        refine SP.storeO (z0 := (⟨x651.Kind, IntKind.i64.wrap (Int.tdiv x648.A 2), x651.B⟩ : api_Value)) (off := 1) (vs := [.int .i64 (IntKind.i64.wrap (Int.tdiv x648.A 2))]) see 1 rfl hx_x651.2 h_p652 rfl rfl sz2 rfl (fun a cs _ e => by subst e; rfl) rfl rfl rfl ?_
        refine SP.nil ?_
        refine QE.atA ?_
        refine DA.done (by kernel_rfl) ?_
        refine QE.then ?_
        refine CP.region ?_
        refine SP.val (Val.fieldAddr Tryd.underlying25 rfl sz22 rfl) rfl rfl rfl ?_
        refine SP.val (Val.load1 0 rfl Tryd.underlying22 rfl rfl rfl) rfl rfl rfl ?_
        refine SP.val (Val.move rfl) rfl rfl rfl ?_
        obtain ⟨x654, hx_x654, ho⟩ := bind_some ho
        have hx_x654 := elt_some hx_x654
        refine SP.indexW (fun w2 hw => slO.whole (St.own 1 rfl see.sub see.dj hw)) Tryd.underlying22 sz52 hx_x654.1 hx_x654.2 rfl rfl rfl rfl (fun p653 h_p653 => ?_)
        refine SP.fieldO h_p653 Tryd.underlying52 rfl sz2 rfl rfl rfl (fun p655 h_p655 => ?_)
        refine SP.storeO (z0 := (⟨x654.Kind, x654.A, 7⟩ : api_Value)) (off := 2) (vs := [.int .i64 7]) see 1 rfl hx_x654.2 h_p655 rfl rfl sz2 rfl (fun a cs _ e => by subst e; rfl) rfl rfl rfl ?_
        refine SP.nil ?_
        refine QE.blockN ?_
        refine QE.then ?_
        refine CP.region ?_
        refine SP.val (Val.move rfl) rfl rfl rfl ?_
        refine SP.val (Val.add rfl rfl) rfl rfl rfl ?_
        refine SP.val (Val.assign rfl) rfl rfl rfl ?_
        refine SP.nil ?_
        obtain rfl := Option.some.inj ho
        exact QE.lower m646 (by omega) fun a w2 ha hw => ⟨((l643.set x645.toNat (⟨x651.Kind, IntKind.i64.wrap (Int.tdiv x648.A 2), x651.B⟩ : api_Value)).set x645.toNat (⟨x654.Kind, x654.A, 7⟩ : api_Value)), (IntKind.i64.wrap (x645 + 1)), v644, (by omega), hr, ha.sub ⟨rfl, rfl, rfl, rfl, trivial⟩, hw⟩
      · refine CP.condF rfl (decide_eq_false hc) ?_
        refine CP.exit ?_
        refine QE.thru (by intro e; cases e) ?_
        refine QE.thru (by intro e; cases e) ?_
        refine QE.blockE ?_
        refine QE.then ?_
        refine CP.seq ?_
        refine CP.seq ?_
        refine CP.region ?_
        refine SP.val (Val.assign rfl) rfl rfl rfl ?_
        refine SP.nil ?_
        refine QE.then ?_
        refine CP.block ?_
        obtain rfl := Option.some.inj ho
        refine CP.loop (fun cl2 a w2 => ∃ l961 : List api_Value, ∃ x963 : Int, ∃ v962 : Value, cl2 ≤ m646 ∧ iter (capstanlaw10_TypesAlone.F m_0 k_1) cl2 (.l2 t8 l643 l961 x963) = some r ∧ Env ⟨169, []⟩ [(1, .int .i64 k_1), (2, .pointer (some ⟨b4, 0, none⟩)), (5, .pointer (some ⟨b15, 0, none⟩)), (7, .int .i64 x963)] a ∧ St w em hV [slP k_api_Value v_m_0_Globals m_0.Globals, slP k_api_Value v_m_0_Pool m_0.Pool, slP k_api_Method v_m_0_Methods m_0.Methods, arrP k_arr136 0 tab0] [boxO b15 [v644, v962, v11, .int .i64 99] 25, slO k_api_Value 52 v644 l643, slO k_api_Value 52 v962 l961, slD o_api_Method 36 v11 t8.Methods, boxO b4 [v_m_0_Globals, v_m_0_Pool, v_m_0_Methods, .int .i64 m_0.Migrate] 25] w2) m646 (fun a w2 ha hw => ⟨t8.Pool, 0, v10, Nat.le_refl _, hr, ha.sub ⟨rfl, rfl, rfl, rfl, trivial⟩, hw⟩) ?_
        clear hr
        rintro cl2 a w2 ⟨l961, x963, v962, hc_l2, hi, ha, hw⟩
        obtain ⟨m964, o, hm_m964, ho, hr⟩ := iter_some hi
        refine CP.app ha hw ?_
        clear ha hw a w2 hi
        refine CP.seq ?_
        refine CP.seq ?_
        refine CP.region ?_
        refine SP.val (Val.move rfl) rfl rfl rfl ?_
        refine SP.val (Val.fieldAddr Tryd.underlying25 rfl sz22 rfl) rfl rfl rfl ?_
        refine SP.val (Val.load1 0 rfl Tryd.underlying22 rfl rfl rfl) rfl rfl rfl ?_
        refine SP.val (Val.lenW (fun w2 hw => slO.whole (St.own 2 rfl see.sub see.dj hw)) Tryd.underlying22 rfl) rfl rfl rfl ?_
        refine SP.val (Val.lss rfl rfl) rfl rfl rfl ?_
        refine SP.nil ?_
        refine QE.then ?_
        rcases if_some ho with ⟨hc, ho⟩ | ⟨hc, ho⟩
        · refine CP.condT rfl (decide_eq_true hc) ?_
          refine CP.skip ?_
          refine QE.then ?_
          refine CP.seq ?_
          refine CP.block ?_
          refine CP.drawA (by kernel_rfl) (fun w2 k h => h.drawn k) ?_
          obtain ⟨x966, hx_x966, ho⟩ := bind_some ho
          have hx_x966 := elt_some hx_x966
          refine DA.ghost (fun w2 hw => let ⟨z, hz⟩ := ixC ((fun w2 hw => slO.whole (St.own 2 rfl see.sub see.dj hw)) w2 hw) hx_x966.1 hx_x966.2; ⟨z, hz, hw⟩) (fun p965 i_p965 => ?_)
          have h_p965 := i_p965.1
          obtain ⟨p967, h_p967⟩ := PtC.more h_p965 1
          refine DA.phase (fun i => Nat.ble 0 i && Nat.blt i 11) (fun w2 => St w em hV [slP k_api_Value v_m_0_Globals m_0.Globals, slP k_api_Value v_m_0_Pool m_0.Pool, slP k_api_Method v_m_0_Methods m_0.Methods, arrP k_arr136 0 tab0] [boxO b15 [v644, v962, v11, .int .i64 99] 25, slO k_api_Value 52 v644 l643, slO k_api_Value 52 v962 l961, slD o_api_Method 36 v11 t8.Methods, boxO b4 [v_m_0_Globals, v_m_0_Pool, v_m_0_Methods, .int .i64 m_0.Migrate] 25] w2) ?_
          refine DT.take 0 rfl rfl rfl rfl (by kernel_rfl) (fun _ _ _ h => h) (Val.fieldAddr Tryd.underlying25 rfl sz22 rfl) (fun w2 hw => hw) ?_
          refine DT.take 1 rfl rfl rfl rfl (by kernel_rfl) (fun _ _ _ h => h) (Val.load1 0 rfl Tryd.underlying22 rfl rfl rfl) (fun w2 hw => hw) ?_
          refine DT.take 2 rfl rfl rfl rfl (by kernel_rfl) (fun _ _ _ h => h) (Val.move rfl) (fun w2 hw => hw) ?_
          refine DT.take 3 rfl rfl rfl rfl (by kernel_rfl) (fun _ _ _ h => h) (Val.fieldAddr Tryd.underlying25 rfl sz22 rfl) (fun w2 hw => hw) ?_
          refine DT.take 4 rfl rfl rfl rfl (by kernel_rfl) (fun _ _ _ h => h) (Val.load1 0 rfl Tryd.underlying22 rfl rfl rfl) (fun w2 hw => hw) ?_
          refine DT.take 5 rfl rfl rfl rfl (by kernel_rfl) (fun _ _ _ h => h) (Val.move rfl) (fun w2 hw => hw) ?_
          refine DT.take 6 rfl rfl rfl rfl (by kernel_rfl) (fun _ _ _ h => h) (Val.indexC' i_p965 Tryd.underlying22 sz52 rfl rfl) (fun w2 hw => hw) ?_
          refine DT.take 7 rfl rfl rfl rfl (by kernel_rfl) (fun _ _ _ h => h) (Val.fieldC h_p965 h_p967 Tryd.underlying52 rfl rfl sz2 rfl) (fun w2 hw => hw) ?_
          refine DT.take 8 rfl rfl rfl rfl (by kernel_rfl) (fun _ _ _ h => h) (Val.loadW1 (off := 1) (k := k_api_Value) (fun w2 hw => slO.whole (St.own 2 rfl see.sub see.dj hw)) hx_x966.2 h_p967 (fun _ _ e => by subst e; rfl) Tryd.underlying2 rfl rfl) (fun w2 hw => hw) ?_
          refine DT.take 9 rfl rfl rfl rfl (by kernel_rfl) (fun _ _ _ h => h) (Val.quo rfl rfl (by decide)) (fun w2 hw => hw) ?_
          refine DT.take 10 rfl rfl rfl rfl (by kernel_rfl) (fun _ _ _ h => h) (Val.sub rfl rfl) (fun w2 hw => hw) ?_
          refine DT.next (by kernel_rfl) ?_
          refine DA.one 11 rfl (by kernel_rfl) ?_
          obtain ⟨x969, hx_x969, ho⟩ := bind_some ho
          have hx_x969 := elt_some hx_x969
          refine SP.indexW (fun w2 hw => slO.whole (St.own 2 rfl see.sub see.dj hw)) Tryd.underlying22 sz52 hx_x969.1 hx_x969.2 rfl rfl rfl rfl (fun p968 h_p968 => ?_)
          refine SP.nil ?_
          refine QE.atA ?_
          refine DA.one 12 rfl (by kernel_rfl) ?_
          refine SP.fieldO h_p968 Tryd.underlying52 rfl sz2 rfl rfl rfl (fun p970 h_p970 => ?_)
          refine SP.nil ?_
          refine QE.atA ?_
          refine DA.one 13 rfl (by kernel_rfl) ?_
          refine SP.storeO (z0 := (⟨x969.Kind, IntKind.i64.wrap (1 - (IntKind.i64.wrap (Int.tdiv x966.A 2))), x969.B⟩ : api_Value)) (off := 1) (vs := [.int .i64 (IntKind.i64.wrap (1 - (IntKind.i64.wrap (Int.tdiv x966.A 2))))]) see 2 rfl hx_x969.2 h_p970 rfl rfl sz2 rfl (fun a cs _ e => by subst e; rfl) rfl rfl rfl ?_
          refine SP.nil ?_
          refine QE.atA ?_
          refine DA.done (by kernel_rfl) ?_
          refine QE.blockN ?_
          refine QE.then ?_
          refine CP.region ?_
          refine SP.val (Val.move rfl) rfl rfl rfl ?_
          refine SP.val (Val.add rfl rfl) rfl rfl rfl ?_
          refine SP.val (Val.assign rfl) rfl rfl rfl ?_
          refine SP.nil ?_
          obtain rfl := Option.some.inj ho
          exact QE.lower m964 (by omega) fun a w2 ha hw => ⟨(l961.set x963.toNat (⟨x969.Kind, IntKind.i64.wrap (1 - (IntKind.i64.wrap (Int.tdiv x966.A 2))), x969.B⟩ : api_Value)), (IntKind.i64.wrap (x963 + 1)), v962, (by omega), hr, ha.sub ⟨rfl, rfl, rfl, rfl, trivial⟩, hw⟩
        · refine CP.condF rfl (decide_eq_false hc) ?_
          refine CP.exit ?_
          refine QE.thru (by intro e; cases e) ?_
          refine QE.thru (by intro e; cases e) ?_
          refine QE.blockE ?_
          refine QE.then ?_
          refine CP.seq ?_
          refine CP.seq ?_
          refine CP.region ?_
          refine SP.val (Val.assign rfl) rfl rfl rfl ?_
          refine SP.nil ?_
          refine QE.then ?_
          refine CP.block ?_
          obtain rfl := Option.some.inj ho
          refine CP.loop (fun cl3 a w2 => ∃ l1117 : List api_Method, ∃ x1119 : Int, ∃ v1118 : Value, cl3 ≤ m964 ∧ iter (capstanlaw10_TypesAlone.F m_0 k_1) cl3 (.l3 l643 l961 l1117 x1119) = some r ∧ Env ⟨169, []⟩ [(1, .int .i64 k_1), (2, .pointer (some ⟨b4, 0, none⟩)), (5, .pointer (some ⟨b15, 0, none⟩)), (8, .int .i64 x1119)] a ∧ St w em hV [slP k_api_Value v_m_0_Globals m_0.Globals, slP k_api_Value v_m_0_Pool m_0.Pool, slP k_api_Method v_m_0_Methods m_0.Methods, arrP k_arr136 0 tab0] [boxO b15 [v644, v962, v1118, .int .i64 99] 25, slO k_api_Value 52 v644 l643, slO k_api_Value 52 v962 l961, slD o_api_Method 36 v1118 l1117, boxO b4 [v_m_0_Globals, v_m_0_Pool, v_m_0_Methods, .int .i64 m_0.Migrate] 25] w2) m964 (fun a w2 ha hw => ⟨t8.Methods, 0, v11, Nat.le_refl _, hr, ha.sub ⟨rfl, rfl, rfl, rfl, trivial⟩, hw⟩) ?_
          clear hr
          rintro cl3 a w2 ⟨l1117, x1119, v1118, hc_l3, hi, ha, hw⟩
          obtain ⟨m1120, o, hm_m1120, ho, hr⟩ := iter_some hi
          refine CP.app ha hw ?_
          clear ha hw a w2 hi
          refine CP.seq ?_
          refine CP.seq ?_
          refine CP.region ?_
          refine SP.val (Val.move rfl) rfl rfl rfl ?_
          refine SP.val (Val.fieldAddr Tryd.underlying25 rfl sz23 rfl) rfl rfl rfl ?_
          refine SP.val (Val.load1 0 rfl Tryd.underlying23 rfl rfl rfl) rfl rfl rfl ?_
          refine SP.val (Val.lenW (fun w2 hw => slD.flat (St.own 3 rfl see.sub see.dj hw) (Sub.refl _) (Sub.refl _)) Tryd.underlying23 rfl) rfl rfl rfl ?_
          refine SP.val (Val.lss rfl rfl) rfl rfl rfl ?_
          refine SP.nil ?_
          refine QE.then ?_
          rcases if_some ho with ⟨hc, ho⟩ | ⟨hc, ho⟩
          · refine CP.condT rfl (decide_eq_true hc) ?_
            refine CP.skip ?_
            refine QE.then ?_
            refine CP.join (fun a w2 => ∃ l1144 : List api_Method, ∃ v1145 : Value, ∃ (m1146 : Nat) (o : (capstanlaw10_TypesAlone.S ⊕ Bool)), m1146 ≤ m1120 ∧ capstanlaw10_TypesAlone.j1 m_0 k_1 l643 l961 x1119 l1144 = some o ∧ next (capstanlaw10_TypesAlone.F m_0 k_1) m1146 o = some r ∧ Env ⟨169, []⟩ [(1, .int .i64 k_1), (2, .pointer (some ⟨b4, 0, none⟩)), (5, .pointer (some ⟨b15, 0, none⟩)), (8, .int .i64 x1119)] a ∧ St w em hV [slP k_api_Value v_m_0_Globals m_0.Globals, slP k_api_Value v_m_0_Pool m_0.Pool, slP k_api_Method v_m_0_Methods m_0.Methods, arrP k_arr136 0 tab0] [slD o_api_Method 36 v1145 l1144, boxO b15 [v644, v962, v1145, .int .i64 99] 25, slO k_api_Value 52 v644 l643, slO k_api_Value 52 v962 l961, boxO b4 [v_m_0_Globals, v_m_0_Pool, v_m_0_Methods, .int .i64 m_0.Migrate] 25] w2) ?_ ?_
            · rintro a w2 ⟨l1144, v1145, m1146, o, hm_m1146, ho, hr, ha, hw⟩
              refine CP.app ha hw ?_
              clear ha hw a w2
              refine CP.region ?_
              refine SP.val (Val.move rfl) rfl rfl rfl ?_
              refine SP.val (Val.add rfl rfl) rfl rfl rfl ?_
              refine SP.val (Val.assign rfl) rfl rfl rfl ?_
              refine SP.nil ?_
              obtain rfl := Option.some.inj ho
              exact QE.lower m1146 (by omega) fun a w2 ha hw => ⟨l1144, (IntKind.i64.wrap (x1119 + 1)), v1145, (by omega), hr, ha.sub ⟨rfl, rfl, rfl, rfl, trivial⟩, (St.selO [1, 2, 3, 0, 4] rfl rfl hw)⟩
            · refine CP.block ?_
              refine CP.seq ?_
              refine CP.drawA (by kernel_rfl) (fun w2 k h => h.drawn k) ?_
              obtain ⟨x1122, hx_x1122, ho⟩ := bind_some ho
              have hx_x1122 := elt_some hx_x1122
              refine DA.ghost (fun w2 hw => let ⟨z, hz⟩ := ixC ((fun w2 hw => slD.flat (St.own 3 rfl see.sub see.dj hw) (Sub.refl _) (Sub.refl _)) w2 hw) hx_x1122.1 hx_x1122.2; ⟨z, hz, hw⟩) (fun p1121 i_p1121 => ?_)
              have h_p1121 := i_p1121.1
              obtain ⟨p1123, h_p1123⟩ := PtC.more h_p1121 3
              obtain ⟨x1125, hx_x1125, ho⟩ := bind_some ho
              have hx_x1125 := elt_some hx_x1125
              refine DA.ghost (fun w2 hw => let ⟨z, hz⟩ := ixC ((fun w2 hw => slD.flat (St.own 3 rfl see.sub see.dj hw) (Sub.refl _) (Sub.refl _)) w2 hw) hx_x1125.1 hx_x1125.2; ⟨z, hz, hw⟩) (fun p1124 i_p1124 => ?_)
              have h_p1124 := i_p1124.1
              obtain ⟨p1126, h_p1126⟩ := PtC.more h_p1124 4
              obtain ⟨x1128, hx_x1128, ho⟩ := bind_some ho
              have hx_x1128 := elt_some hx_x1128
              refine DA.ghost (fun w2 hw => let ⟨z, hz⟩ := ixC ((fun w2 hw => slD.flat (St.own 3 rfl see.sub see.dj hw) (Sub.refl _) (Sub.refl _)) w2 hw) hx_x1128.1 hx_x1128.2; ⟨z, hz, hw⟩) (fun p1127 i_p1127 => ?_)
              have h_p1127 := i_p1127.1
              obtain ⟨p1129, h_p1129⟩ := PtC.more h_p1127 5
              refine DA.phase (fun i => Nat.ble 0 i && Nat.blt i 22) (fun w2 => St w em hV [slP k_api_Value v_m_0_Globals m_0.Globals, slP k_api_Value v_m_0_Pool m_0.Pool, slP k_api_Method v_m_0_Methods m_0.Methods, arrP k_arr136 0 tab0] [boxO b15 [v644, v962, v1118, .int .i64 99] 25, slO k_api_Value 52 v644 l643, slO k_api_Value 52 v962 l961, boxO b4 [v_m_0_Globals, v_m_0_Pool, v_m_0_Methods, .int .i64 m_0.Migrate] 25] w2) ?_
              refine DT.take 0 rfl rfl rfl rfl (by kernel_rfl) (fun _ _ _ h => h) (Val.fieldAddr Tryd.underlying25 rfl sz23 rfl) (fun w2 hw => (St.selO [0, 1, 2, 4] rfl rfl hw)) ?_
              refine DT.take 1 rfl rfl rfl rfl (by kernel_rfl) (fun _ _ _ h => h) (Val.load1 0 rfl Tryd.underlying23 rfl rfl rfl) (fun w2 hw => (St.selO [0, 1, 2, 4] rfl rfl hw)) ?_
              refine DT.take 2 rfl rfl rfl rfl (by kernel_rfl) (fun _ _ _ h => h) (Val.move rfl) (fun w2 hw => (St.selO [0, 1, 2, 4] rfl rfl hw)) ?_
              refine DT.take 3 rfl rfl rfl rfl (by kernel_rfl) (fun _ _ _ h => h) (Val.fieldAddr Tryd.underlying25 rfl sz23 rfl) (fun w2 hw => (St.selO [0, 1, 2, 4] rfl rfl hw)) ?_
              refine DT.take 4 rfl rfl rfl rfl (by kernel_rfl) (fun _ _ _ h => h) (Val.load1 0 rfl Tryd.underlying23 rfl rfl rfl) (fun w2 hw => (St.selO [0, 1, 2, 4] rfl rfl hw)) ?_
              refine DT.take 5 rfl rfl rfl rfl (by kernel_rfl) (fun _ _ _ h => h) (Val.move rfl) (fun w2 hw => (St.selO [0, 1, 2, 4] rfl rfl hw)) ?_
              refine DT.take 6 rfl rfl rfl rfl (by kernel_rfl) (fun _ _ _ h => h) (Val.fieldAddr Tryd.underlying25 rfl sz23 rfl) (fun w2 hw => (St.selO [0, 1, 2, 4] rfl rfl hw)) ?_
              refine DT.take 7 rfl rfl rfl rfl (by kernel_rfl) (fun _ _ _ h => h) (Val.load1 0 rfl Tryd.underlying23 rfl rfl rfl) (fun w2 hw => (St.selO [0, 1, 2, 4] rfl rfl hw)) ?_
              refine DT.take 8 rfl rfl rfl rfl (by kernel_rfl) (fun _ _ _ h => h) (Val.move rfl) (fun w2 hw => (St.selO [0, 1, 2, 4] rfl rfl hw)) ?_
              refine DT.take 9 rfl rfl rfl rfl (by kernel_rfl) (fun _ _ _ h => h) (Val.fieldAddr Tryd.underlying25 rfl sz23 rfl) (fun w2 hw => (St.selO [0, 1, 2, 4] rfl rfl hw)) ?_
              refine DT.take 10 rfl rfl rfl rfl (by kernel_rfl) (fun _ _ _ h => h) (Val.load1 0 rfl Tryd.underlying23 rfl rfl rfl) (fun w2 hw => (St.selO [0, 1, 2, 4] rfl rfl hw)) ?_
              refine DT.take 11 rfl rfl rfl rfl (by kernel_rfl) (fun _ _ _ h => h) (Val.move rfl) (fun w2 hw => (St.selO [0, 1, 2, 4] rfl rfl hw)) ?_
              refine DT.take 12 rfl rfl rfl rfl (by kernel_rfl) (fun _ _ _ h => h) (Val.indexC' i_p1121 Tryd.underlying23 sz36 rfl rfl) (fun w2 hw => (St.selO [0, 1, 2, 4] rfl rfl hw)) ?_
              refine DT.take 13 rfl rfl rfl rfl (by kernel_rfl) (fun _ _ _ h => h) (Val.fieldC h_p1121 h_p1123 Tryd.underlying36 rfl rfl sz4 rfl) (fun w2 hw => (St.selO [0, 1, 2, 4] rfl rfl hw)) ?_
              refine DT.one 14 rfl (by kernel_rfl) rfl ?_
              refine SP.val (Val.loadW1 (off := 3) (k := k_api_Method) (fun w2 hw => slD.flat (St.own 3 rfl see.sub see.dj hw) (Sub.refl _) (Sub.refl _)) hx_x1122.2 h_p1123 (fun _ _ ⟨_, _, _, e, _⟩ => by subst e; rfl) Tryd.underlying4 rfl rfl) rfl rfl rfl ?_
              refine SP.nil ?_
              refine QE.atT (fun w2 hw => (St.selO [0, 1, 2, 4] rfl rfl hw)) ?_
              refine DT.take 15 rfl rfl rfl rfl (by kernel_rfl) (fun _ _ _ h => h) (Val.notB rfl) (fun w2 hw => (St.selO [0, 1, 2, 4] rfl rfl hw)) ?_
              refine DT.take 16 rfl rfl rfl rfl (by kernel_rfl) (fun _ _ _ h => h) (Val.indexC' i_p1124 Tryd.underlying23 sz36 rfl rfl) (fun w2 hw => (St.selO [0, 1, 2, 4] rfl rfl hw)) ?_
              refine DT.take 17 rfl rfl rfl rfl (by kernel_rfl) (fun _ _ _ h => h) (Val.fieldC h_p1124 h_p1126 Tryd.underlying36 rfl rfl sz3 rfl) (fun w2 hw => (St.selO [0, 1, 2, 4] rfl rfl hw)) ?_
              refine DT.one 18 rfl (by kernel_rfl) rfl ?_
              refine SP.imp (fun w2 hw => St.selO [3, 0, 1, 2, 4] rfl rfl hw) ?_
              refine SP.storeD (z0 := ({ x1125 with Fuel := 1 } : api_Method)) (off := 4) (vs := [.int .i64 1]) see hx_x1125.2 h_p1126 rfl rfl sz3 rfl (fun a h c ⟨_, _, _, e, q⟩ => by subst e; exact ⟨_, _, _, rfl, q⟩) rfl rfl rfl ?_
              have hs1130 := set_at ({ x1125 with Fuel := 1 } : api_Method) hx_x1125.2
              refine SP.nil ?_
              refine QE.atT (fun w2 hw => (St.selO [1, 2, 3, 4] rfl rfl hw)) ?_
              refine DT.take 19 rfl rfl rfl rfl (by kernel_rfl) (fun _ _ _ h => h) (Val.indexC' i_p1127 Tryd.underlying23 sz36 rfl rfl) (fun w2 hw => (St.selO [1, 2, 3, 4] rfl rfl hw)) ?_
              refine DT.take 20 rfl rfl rfl rfl (by kernel_rfl) (fun _ _ _ h => h) (Val.fieldC h_p1127 h_p1129 Tryd.underlying36 rfl rfl sz3 rfl) (fun w2 hw => (St.selO [1, 2, 3, 4] rfl rfl hw)) ?_
              refine DT.one 21 rfl (by kernel_rfl) rfl ?_
              refine SP.storeD (z0 := ({ ({ x1125 with Fuel := 1 } : api_Method) with Stack := 2 } : api_Method)) (off := 5) (vs := [.int .i64 2]) see hs1130 h_p1129 rfl rfl sz3 rfl (fun a h c ⟨_, _, _, e, q⟩ => by subst e; exact ⟨_, _, _, rfl, q⟩) rfl rfl rfl ?_
              have hs1131 := set_at ({ ({ x1125 with Fuel := 1 } : api_Method) with Stack := 2 } : api_Method) hs1130
              refine SP.nil ?_
              refine QE.atT (fun w2 hw => (St.selO [1, 2, 3, 4] rfl rfl hw)) ?_
              refine DT.next (by kernel_rfl) ?_
              refine DA.one 22 rfl (by kernel_rfl) ?_
              obtain ⟨x1133, hx_x1133, ho⟩ := bind_some ho
              have hx_x1133 := elt_some hx_x1133
              refine SP.indexW (fun w2 hw => slD.flat (St.own 0 rfl see.sub see.dj hw) (Sub.refl _) (Sub.refl _)) Tryd.underlying23 sz36 hx_x1133.1 hx_x1133.2 rfl rfl rfl rfl (fun p1132 h_p1132 => ?_)
              refine SP.nil ?_
              refine QE.atA ?_
              refine DA.one 23 rfl (by kernel_rfl) ?_
              refine SP.fieldO h_p1132 Tryd.underlying36 rfl sz4 rfl rfl rfl (fun p1134 h_p1134 => ?_)
              refine SP.nil ?_
              refine QE.atA ?_
              refine DA.one 24 rfl (by kernel_rfl) ?_
              refine SP.storeD (z0 := ({ x1133 with Reads := !x1122.Reads } : api_Method)) (off := 3) (vs := [.bool (!x1122.Reads)]) see hx_x1133.2 h_p1134 rfl rfl sz4 rfl (fun a h c ⟨_, _, _, e, q⟩ => by subst e; exact ⟨_, _, _, rfl, q⟩) rfl rfl rfl ?_
              have hs1135 := set_at ({ x1133 with Reads := !x1122.Reads } : api_Method) hx_x1133.2
              refine SP.nil ?_
              refine QE.atA ?_
              refine DA.done (by kernel_rfl) ?_
              refine QE.then ?_
              refine CP.seq ?_
              refine CP.region ?_
              refine SP.val (Val.move rfl) rfl rfl rfl ?_
              refine SP.val (Val.move rfl) rfl rfl rfl ?_
              refine SP.val (Val.neq rfl rfl) rfl rfl rfl ?_
              refine SP.nil ?_
              refine QE.then ?_
              rcases if_some ho with ⟨hc, ho⟩ | ⟨hc, ho⟩
              · refine CP.condT rfl (decide_eq_true hc) ?_
                refine CP.seq ?_
                refine CP.region ?_
                refine SP.val (Val.fieldAddr Tryd.underlying25 rfl sz23 rfl) rfl rfl rfl ?_
                refine SP.val (Val.load1 1 rfl Tryd.underlying23 rfl rfl rfl) rfl rfl rfl ?_
                refine SP.val (Val.move rfl) rfl rfl rfl ?_
                obtain ⟨x1137, hx_x1137, ho⟩ := bind_some ho
                have hx_x1137 := elt_some hx_x1137
                refine SP.indexW (fun w2 hw => slD.flat (St.own 0 rfl see.sub see.dj hw) (Sub.refl _) (Sub.refl _)) Tryd.underlying23 sz36 hx_x1137.1 hx_x1137.2 rfl rfl rfl rfl (fun p1136 h_p1136 => ?_)
                refine SP.fieldO h_p1136 Tryd.underlying36 rfl sz34 rfl rfl rfl (fun p1138 h_p1138 => ?_)
                refine SP.storeD (z0 := ({ x1137 with Code := [] } : api_Method)) (off := 7) (vs := [(.slice none 0 0)]) see hx_x1137.2 h_p1138 rfl rfl sz34 rfl (fun a h c ⟨v0_, v1_, v2_, e, q⟩ => by subst e; exact ⟨v0_, v1_, _, rfl, Sep.nilAt k_api_Instr 45 2 q⟩) rfl rfl rfl ?_
                have hs1139 := set_at ({ x1137 with Code := [] } : api_Method) hx_x1137.2
                refine SP.nil ?_
                refine QE.then ?_
                refine CP.region ?_
                refine SP.val (Val.fieldAddr Tryd.underlying25 rfl sz23 rfl) rfl rfl rfl ?_
                refine SP.val (Val.load1 1 rfl Tryd.underlying23 rfl rfl rfl) rfl rfl rfl ?_
                refine SP.val (Val.move rfl) rfl rfl rfl ?_
                obtain ⟨x1141, hx_x1141, ho⟩ := bind_some ho
                have hx_x1141 := elt_some hx_x1141
                refine SP.indexW (fun w2 hw => slD.flat (St.own 0 rfl see.sub see.dj hw) (Sub.refl _) (Sub.refl _)) Tryd.underlying23 sz36 hx_x1141.1 hx_x1141.2 rfl rfl rfl rfl (fun p1140 h_p1140 => ?_)
                refine SP.fieldO h_p1140 Tryd.underlying36 rfl sz33 rfl rfl rfl (fun p1142 h_p1142 => ?_)
                refine SP.storeD (z0 := ({ x1141 with Locals := [] } : api_Method)) (off := 1) (vs := [(.slice none 0 0)]) see hx_x1141.2 h_p1142 rfl rfl sz33 rfl (fun a h c ⟨v0_, v1_, v2_, e, q⟩ => by subst e; exact ⟨v0_, _, v2_, rfl, Sep.nilAt (kInt .u8) 5 1 q⟩) rfl rfl rfl ?_
                have hs1143 := set_at ({ x1141 with Locals := [] } : api_Method) hx_x1141.2
                refine SP.nil ?_
                refine QE.blockN ?_
                exact QE.meet fun a w2 ha hw => ⟨(((((l1117.set x1119.toNat ({ x1125 with Fuel := 1 } : api_Method)).set x1119.toNat ({ ({ x1125 with Fuel := 1 } : api_Method) with Stack := 2 } : api_Method)).set x1119.toNat ({ x1133 with Reads := !x1122.Reads } : api_Method)).set x1119.toNat ({ x1137 with Code := [] } : api_Method)).set x1119.toNat ({ x1141 with Locals := [] } : api_Method)), v1118, m1120, _, (by omega), ho, hr, ha.sub ⟨rfl, rfl, rfl, rfl, trivial⟩, hw⟩
              · refine CP.condF rfl (decide_eq_false hc) ?_
                refine CP.skip ?_
                refine QE.blockN ?_
                exact QE.meet fun a w2 ha hw => ⟨(((l1117.set x1119.toNat ({ x1125 with Fuel := 1 } : api_Method)).set x1119.toNat ({ ({ x1125 with Fuel := 1 } : api_Method) with Stack := 2 } : api_Method)).set x1119.toNat ({ x1133 with Reads := !x1122.Reads } : api_Method)), v1118, m1120, _, (by omega), ho, hr, ha.sub ⟨rfl, rfl, rfl, rfl, trivial⟩, hw⟩
          · refine CP.condF rfl (decide_eq_false hc) ?_
            refine CP.exit ?_
            refine QE.thru (by intro e; cases e) ?_
            refine QE.thru (by intro e; cases e) ?_
            refine QE.blockE ?_
            refine QE.then ?_
            refine CP.seq ?_
            refine CP.region ?_
            refine SP.val (Val.loadA 4 rfl Tryd.underlying25 rfl sz25 rfl rfl rfl) rfl rfl rfl ?_
            refine SP.val (Val.move rfl) rfl rfl rfl ?_
            obtain ⟨t1147, hc, ho⟩ := bind_some (x := types_Rows.f m_0 k_1) ho
            refine SP.callK see (caps := []) _ fn9 rfl rfl rfl rfl (fun w2 hP hs sub ap => types_Rows.ok m_0 k_1 _ _ _ _ hc w2 hP sub (ap.get 0 rfl) (ap.get 1 rfl) (ap.get 2 rfl) (ap.get 3 rfl)) (fun vr => ?_)
            refine SP.ex (fun w2 h => St.open h) (fun v1148 => ?_)
            refine SP.have (fun w2 h => (St.pand h).1.symm) (fun er => ?_)
            subst er
            refine SP.imp (fun w2 h => St.seps (St.pand h).2) ?_
            clear hc
            refine SP.val (Val.move rfl) rfl rfl rfl ?_
            refine SP.val (Val.extract rfl rfl) rfl rfl rfl ?_
            refine SP.val (Val.extract rfl rfl) rfl rfl rfl ?_
            refine SP.val (Val.assign rfl) rfl rfl rfl ?_
            refine SP.val (Val.assign rfl) rfl rfl rfl ?_
            refine SP.nil ?_
            refine QE.then ?_
            refine CP.seq ?_
            refine CP.region ?_
            refine SP.val (Val.loadA 1 rfl Tryd.underlying25 rfl sz25 rfl rfl rfl) rfl rfl rfl ?_
            refine SP.val (Val.move rfl) rfl rfl rfl ?_
            refine SP.freezeS see 2 rfl ?_
            refine SP.freezeS see 2 rfl ?_
            refine SP.freezeD see 2 rfl ?_
            obtain ⟨t1150, hc, ho⟩ := bind_some (x := types_Rows.f (⟨l643, l961, l1117, 99⟩ : api_Module) k_1) ho
            refine SP.callK see (caps := []) _ fn9 rfl rfl rfl rfl (fun w2 hP hs sub ap => types_Rows.ok (⟨l643, l961, l1117, 99⟩ : api_Module) k_1 _ _ _ _ hc w2 hP sub (ap.get 2 rfl) (ap.get 1 rfl) (ap.get 0 rfl) (ap.get 6 rfl)) (fun vr => ?_)
            refine SP.ex (fun w2 h => St.open h) (fun v1151 => ?_)
            refine SP.have (fun w2 h => (St.pand h).1.symm) (fun er => ?_)
            subst er
            refine SP.imp (fun w2 h => St.seps (St.pand h).2) ?_
            clear hc
            refine SP.val (Val.move rfl) rfl rfl rfl ?_
            refine SP.val (Val.extract rfl rfl) rfl rfl rfl ?_
            refine SP.val (Val.extract rfl rfl) rfl rfl rfl ?_
            refine SP.val (Val.assign rfl) rfl rfl rfl ?_
            refine SP.val (Val.assign rfl) rfl rfl rfl ?_
            refine SP.nil ?_
            refine QE.then ?_
            refine CP.seq ?_
            refine CP.join (fun a w2 => ∃ b1160 : Bool, ∃ (m1161 : Nat) (o : (capstanlaw10_TypesAlone.S ⊕ Bool)), m1161 ≤ m1120 ∧ capstanlaw10_TypesAlone.j2 m_0 k_1 t1147 t1150 b1160 = some o ∧ next (capstanlaw10_TypesAlone.F m_0 k_1) m1161 o = some r ∧ Env ⟨169, []⟩ [(9, v1148), (11, v1151), (137, .bool b1160)] a ∧ St w em hV [arrP k_arr136 0 tab0] [slO k_types_Row 39 v1151 t1150.1, slO k_types_Row 39 v1148 t1147.1] w2) ?_ ?_
            · rintro a w2 ⟨b1160, m1161, o, hm_m1161, ho, hr, ha, hw⟩
              refine CP.app ha hw ?_
              clear ha hw a w2
              rcases if_some ho with ⟨hc, ho⟩ | ⟨hc, ho⟩
              · refine CP.condT rfl hc ?_
                refine CP.seq ?_
                refine CP.region ?_
                refine SP.val (Val.assign rfl) rfl rfl rfl ?_
                refine SP.nil ?_
                refine QE.then ?_
                refine CP.ret ?_
                refine QE.thru (by intro e; cases e) ?_
                obtain rfl := Option.some.inj ho
                obtain rfl := Option.some.inj hr
                exact QE.rets (rs := [.tmp 4]) (vs := [.bool false]) Tryd.results4 rfl ⟨RVs.tmp rfl, trivial⟩ (fun w2 h => St.done (fun a b p s => rfl) h)
              · refine CP.condF rfl (bf hc) ?_
                refine CP.skip ?_
                refine QE.then ?_
                refine CP.seq ?_
                refine CP.seq ?_
                refine CP.region ?_
                refine SP.val (Val.assign rfl) rfl rfl rfl ?_
                refine SP.nil ?_
                refine QE.then ?_
                refine CP.block ?_
                refine CP.freezeS see 0 rfl ?_
                refine CP.freezeS see 0 rfl ?_
                obtain rfl := Option.some.inj ho
                refine CP.loop (fun cl4 a w2 => ∃ x1230 : Int, cl4 ≤ m1161 ∧ iter (capstanlaw10_TypesAlone.F m_0 k_1) cl4 (.l4 t1147 t1150 x1230) = some r ∧ Env ⟨169, []⟩ [(9, v1148), (11, v1151), (13, .int .i64 x1230)] a ∧ St w em hV [slP k_types_Row v1148 t1147.1, slP k_types_Row v1151 t1150.1, arrP k_arr136 0 tab0] [] w2) m1161 (fun a w2 ha hw => ⟨0, Nat.le_refl _, hr, ha.sub ⟨rfl, rfl, rfl, trivial⟩, hw⟩) ?_
                clear hr
                rintro cl4 a w2 ⟨x1230, hc_l4, hi, ha, hw⟩
                obtain ⟨m1231, o, hm_m1231, ho, hr⟩ := iter_some hi
                refine CP.app ha hw ?_
                clear ha hw a w2 hi
                refine CP.seq ?_
                refine CP.seq ?_
                refine CP.region ?_
                refine SP.val (Val.move rfl) rfl rfl rfl ?_
                refine SP.val (Val.move rfl) rfl rfl rfl ?_
                refine SP.val (Val.lenP see 0 rfl Tryd.underlying29 rfl) rfl rfl rfl ?_
                refine SP.val (Val.lss rfl rfl) rfl rfl rfl ?_
                refine SP.nil ?_
                refine QE.then ?_
                rcases if_some ho with ⟨hc, ho⟩ | ⟨hc, ho⟩
                · refine CP.condT rfl (decide_eq_true hc) ?_
                  refine CP.skip ?_
                  refine QE.then ?_
                  refine CP.seq ?_
                  refine CP.block ?_
                  refine CP.join (fun a w2 => ∃ b1263 : Bool, ∃ (m1264 : Nat) (o : (capstanlaw10_TypesAlone.S ⊕ Bool)), m1264 ≤ m1231 ∧ capstanlaw10_TypesAlone.j3 m_0 k_1 t1147 t1150 x1230 b1263 = some o ∧ next (capstanlaw10_TypesAlone.F m_0 k_1) m1264 o = some r ∧ Env ⟨169, []⟩ [(9, v1148), (11, v1151), (13, .int .i64 x1230), (168, .bool b1263)] a ∧ St w em hV [slP k_types_Row v1148 t1147.1, slP k_types_Row v1151 t1150.1, arrP k_arr136 0 tab0] [] w2) ?_ ?_
                  · rintro a w2 ⟨b1263, m1264, o, hm_m1264, ho, hr, ha, hw⟩
                    refine CP.app ha hw ?_
                    clear ha hw a w2
                    rcases if_some ho with ⟨hc, ho⟩ | ⟨hc, ho⟩
                    · refine CP.condT rfl hc ?_
                      refine CP.seq ?_
                      refine CP.region ?_
                      refine SP.val (Val.assign rfl) rfl rfl rfl ?_
                      refine SP.nil ?_
                      refine QE.then ?_
                      refine CP.ret ?_
                      refine QE.blockR ?_
                      refine QE.thru (by intro e; cases e) ?_
                      refine QE.thru (by intro e; cases e) ?_
                      refine QE.blockR ?_
                      refine QE.thru (by intro e; cases e) ?_
                      obtain rfl := Option.some.inj ho
                      obtain rfl := Option.some.inj hr
                      exact QE.rets (rs := [.tmp 4]) (vs := [.bool false]) Tryd.results4 rfl ⟨RVs.tmp rfl, trivial⟩ (fun w2 h => St.done (fun a b p s => rfl) h)
                    · refine CP.condF rfl (bf hc) ?_
                      refine CP.skip ?_
                      refine QE.blockN ?_
                      refine QE.then ?_
                      refine CP.region ?_
                      refine SP.val (Val.move rfl) rfl rfl rfl ?_
                      refine SP.val (Val.add rfl rfl) rfl rfl rfl ?_
                      refine SP.val (Val.assign rfl) rfl rfl rfl ?_
                      refine SP.nil ?_
                      obtain rfl := Option.some.inj ho
                      exact QE.lower m1264 (by omega) fun a w2 ha hw => ⟨(IntKind.i64.wrap (x1230 + 1)), (by omega), hr, ha.sub ⟨rfl, rfl, rfl, trivial⟩, hw⟩
                  · refine CP.drawA (by kernel_rfl) (fun w2 k h => h.drawn k) ?_
                    obtain ⟨x1234, hx, ho⟩ := bind_some ho
                    have hx := elt_some hx
                    refine DA.ghost (fun w2 h => h.elem see 0 rfl hx.1 hx.2) (fun p1232 h_p1232 => ?_)
                    clear hx
                    refine DA.ghost (fun w2 h => h.fieldE see 0 rfl k_types_Row.part_Reached) (fun p1235 h_p1235 => ?_)
                    refine DA.ghost (fun w2 h => h.openE see 0 rfl (fun _ : Unit => [.bool x1234.Reached]) (fun _ => []) (fun h cs e => ⟨(), e, All.nil _⟩)) (fun _ _ => ?_)
                    obtain ⟨x1240, hx, ho⟩ := bind_some ho
                    have hx := elt_some hx
                    refine DA.ghost (fun w2 h => h.elem see 4 rfl hx.1 hx.2) (fun p1238 h_p1238 => ?_)
                    clear hx
                    refine DA.ghost (fun w2 h => h.fieldE see 0 rfl k_types_Row.part_Reached) (fun p1241 h_p1241 => ?_)
                    refine DA.ghost (fun w2 h => h.openE see 0 rfl (fun _ : Unit => [.bool x1240.Reached]) (fun _ => []) (fun h cs e => ⟨(), e, All.nil _⟩)) (fun _ _ => ?_)
                    refine DA.phase (fun i => Nat.ble 0 i && Nat.blt i 10) (fun w2 => St w em hV [atP p1241 [.bool x1240.Reached], elP kBool p1241 x1240.Reached, elP k_types_Row p1238 x1240, atP p1235 [.bool x1234.Reached], elP kBool p1235 x1234.Reached, elP k_types_Row p1232 x1234, slP k_types_Row v1148 t1147.1, slP k_types_Row v1151 t1150.1, arrP k_arr136 0 tab0] [] w2) ?_
                    refine DT.take 0 rfl rfl rfl rfl (by kernel_rfl) (fun _ _ _ h => h) (Val.move rfl) (fun w2 hw => hw) ?_
                    refine DT.take 1 rfl rfl rfl rfl (by kernel_rfl) (fun _ _ _ h => h) (Val.move rfl) (fun w2 hw => hw) ?_
                    refine DT.take 2 rfl rfl rfl rfl (by kernel_rfl) (fun _ _ _ h => h) (Val.indexE h_p1232 Tryd.underlying29 sz39 rfl rfl) (fun w2 hw => hw) ?_
                    refine DT.take 3 rfl rfl rfl rfl (by kernel_rfl) (fun _ _ _ h => h) (Val.fieldE h_p1235 Tryd.underlying39 rfl rfl sz4 rfl) (fun w2 hw => hw) ?_
                    refine DT.take 4 rfl rfl rfl rfl (by kernel_rfl) (fun _ _ _ h => h) (Val.loadAt1 see 3 rfl Tryd.underlying4 rfl rfl) (fun w2 hw => hw) ?_
                    refine DT.take 5 rfl rfl rfl rfl (by kernel_rfl) (fun _ _ _ h => h) (Val.move rfl) (fun w2 hw => hw) ?_
                    refine DT.take 6 rfl rfl rfl rfl (by kernel_rfl) (fun _ _ _ h => h) (Val.move rfl) (fun w2 hw => hw) ?_
                    refine DT.take 7 rfl rfl rfl rfl (by kernel_rfl) (fun _ _ _ h => h) (Val.indexE h_p1238 Tryd.underlying29 sz39 rfl rfl) (fun w2 hw => hw) ?_
                    refine DT.take 8 rfl rfl rfl rfl (by kernel_rfl) (fun _ _ _ h => h) (Val.fieldE h_p1241 Tryd.underlying39 rfl rfl sz4 rfl) (fun w2 hw => hw) ?_
                    refine DT.take 9 rfl rfl rfl rfl (by kernel_rfl) (fun _ _ _ h => h) (Val.loadAt1 see 0 rfl Tryd.underlying4 rfl rfl) (fun w2 hw => hw) ?_
                    refine DT.next (by kernel_rfl) ?_
                    refine DA.one 10 rfl (by kernel_rfl) ?_
                    refine SP.val (Val.neqB Tryd.underlying4 rfl rfl) rfl rfl rfl ?_
                    refine SP.nil ?_
                    refine QE.atA ?_
                    refine DA.one 11 rfl (by kernel_rfl) ?_
                    refine SP.val (Val.move rfl) rfl rfl rfl ?_
                    refine SP.nil ?_
                    refine QE.atA ?_
                    rcases if_some ho with ⟨hc, ho⟩ | ⟨hc, ho⟩
                    · have hg1244 := hc
                      clear hc
                      refine DA.phase (fun i => Nat.ble 12 i && Nat.blt i 22) (fun w2 => St w em hV [atP p1241 [.bool x1240.Reached], elP kBool p1241 x1240.Reached, elP k_types_Row p1238 x1240, atP p1235 [.bool x1234.Reached], elP kBool p1235 x1234.Reached, elP k_types_Row p1232 x1234, slP k_types_Row v1148 t1147.1, slP k_types_Row v1151 t1150.1, arrP k_arr136 0 tab0] [] w2) ?_
                      refine DT.is (d := 155) (b := true) rfl hg1244 ?_
                      refine DT.not 12 rfl rfl rfl rfl (by kernel_rfl) (fun _ _ _ h => h) (fun w2 hw => hw) ?_
                      refine DT.not 13 rfl rfl rfl rfl (by kernel_rfl) (fun _ _ _ h => h) (fun w2 hw => hw) ?_
                      refine DT.not 14 rfl rfl rfl rfl (by kernel_rfl) (fun _ _ _ h => h) (fun w2 hw => hw) ?_
                      refine DT.not 15 rfl rfl rfl rfl (by kernel_rfl) (fun _ _ _ h => h) (fun w2 hw => hw) ?_
                      refine DT.not 16 rfl rfl rfl rfl (by kernel_rfl) (fun _ _ _ h => h) (fun w2 hw => hw) ?_
                      refine DT.not 17 rfl rfl rfl rfl (by kernel_rfl) (fun _ _ _ h => h) (fun w2 hw => hw) ?_
                      refine DT.not 18 rfl rfl rfl rfl (by kernel_rfl) (fun _ _ _ h => h) (fun w2 hw => hw) ?_
                      refine DT.not 19 rfl rfl rfl rfl (by kernel_rfl) (fun _ _ _ h => h) (fun w2 hw => hw) ?_
                      refine DT.not 20 rfl rfl rfl rfl (by kernel_rfl) (fun _ _ _ h => h) (fun w2 hw => hw) ?_
                      refine DT.not 21 rfl rfl rfl rfl (by kernel_rfl) (fun _ _ _ h => h) (fun w2 hw => hw) ?_
                      refine DT.next (by kernel_rfl) ?_
                      refine DA.phase (fun i => Nat.ble 22 i && Nat.blt i 23) (fun w2 => St w em hV [atP p1241 [.bool x1240.Reached], elP kBool p1241 x1240.Reached, elP k_types_Row p1238 x1240, atP p1235 [.bool x1234.Reached], elP kBool p1235 x1234.Reached, elP k_types_Row p1232 x1234, slP k_types_Row v1148 t1147.1, slP k_types_Row v1151 t1150.1, arrP k_arr136 0 tab0] [] w2) ?_
                      refine DT.not 22 rfl rfl rfl rfl (by kernel_rfl) (fun _ _ _ h => h) (fun w2 hw => hw) ?_
                      refine DT.next (by kernel_rfl) ?_
                      refine DA.phase (fun i => Nat.ble 23 i && Nat.blt i 24) (fun w2 => St w em hV [atP p1241 [.bool x1240.Reached], elP kBool p1241 x1240.Reached, elP k_types_Row p1238 x1240, atP p1235 [.bool x1234.Reached], elP kBool p1235 x1234.Reached, elP k_types_Row p1232 x1234, slP k_types_Row v1148 t1147.1, slP k_types_Row v1151 t1150.1, arrP k_arr136 0 tab0] [] w2) ?_
                      refine DT.not 23 rfl rfl rfl rfl (by kernel_rfl) (fun _ _ _ h => h) (fun w2 hw => hw) ?_
                      refine DT.next (by kernel_rfl) ?_
                      refine DA.one 24 rfl (by kernel_rfl) ?_
                      refine SP.val (Val.pickT rfl rfl) rfl rfl rfl ?_
                      refine SP.nil ?_
                      refine QE.atA ?_
                      refine DA.done (by kernel_rfl) ?_
                      exact QE.meet fun a w2 ha hw => ⟨true, m1231, _, (by omega), ho, hr, ha.sub ⟨rfl, rfl, rfl, rfl, trivial⟩, (St.selP [6, 7, 8] rfl hw)⟩
                    · have hg1245 := (bf hc)
                      clear hc
                      obtain ⟨x1248, hx, ho⟩ := bind_some ho
                      have hx := elt_some hx
                      refine DA.ghost (fun w2 h => h.elem see 6 rfl hx.1 hx.2) (fun p1246 h_p1246 => ?_)
                      clear hx
                      refine DA.ghost (fun w2 h => h.fieldE see 0 rfl k_types_Row.part_Kinds) (fun p1249 h_p1249 => ?_)
                      refine DA.ghost (fun w2 h => h.openE see 0 rfl (fun (v1251 : Value) => [v1251]) (fun (v1251 : Value) => [slP (kInt .u8) v1251 x1248.Kinds]) (fun h cs ⟨v1251, e, p0⟩ => ⟨v1251, e, All.cons p0 (All.nil _)⟩)) (fun z_ _ => ?_)
                      rename Value => v1251
                      obtain ⟨x1256, hx, ho⟩ := bind_some ho
                      have hx := elt_some hx
                      refine DA.ghost (fun w2 h => h.elem see 11 rfl hx.1 hx.2) (fun p1254 h_p1254 => ?_)
                      clear hx
                      refine DA.ghost (fun w2 h => h.fieldE see 0 rfl k_types_Row.part_Kinds) (fun p1257 h_p1257 => ?_)
                      refine DA.ghost (fun w2 h => h.openE see 0 rfl (fun (v1259 : Value) => [v1259]) (fun (v1259 : Value) => [slP (kInt .u8) v1259 x1256.Kinds]) (fun h cs ⟨v1259, e, p0⟩ => ⟨v1259, e, All.cons p0 (All.nil _)⟩)) (fun z_ _ => ?_)
                      rename Value => v1259
                      refine DA.phase (fun i => Nat.ble 12 i && Nat.blt i 22) (fun w2 => St w em hV [atP p1257 [v1259], slP (kInt .u8) v1259 x1256.Kinds, elP (kSl (kInt .u8)) p1257 x1256.Kinds, elP k_types_Row p1254 x1256, atP p1249 [v1251], slP (kInt .u8) v1251 x1248.Kinds, elP (kSl (kInt .u8)) p1249 x1248.Kinds, elP k_types_Row p1246 x1248, atP p1241 [.bool x1240.Reached], elP kBool p1241 x1240.Reached, elP k_types_Row p1238 x1240, atP p1235 [.bool x1234.Reached], elP kBool p1235 x1234.Reached, elP k_types_Row p1232 x1234, slP k_types_Row v1148 t1147.1, slP k_types_Row v1151 t1150.1, arrP k_arr136 0 tab0] [] w2) ?_
                      refine DT.is (d := 155) (b := false) rfl hg1245 ?_
                      refine DT.take 12 rfl rfl rfl rfl (by kernel_rfl) (fun _ _ _ h => h) (Val.move rfl) (fun w2 hw => hw) ?_
                      refine DT.take 13 rfl rfl rfl rfl (by kernel_rfl) (fun _ _ _ h => h) (Val.move rfl) (fun w2 hw => hw) ?_
                      refine DT.take 14 rfl rfl rfl rfl (by kernel_rfl) (fun _ _ _ h => h) (Val.indexE h_p1246 Tryd.underlying29 sz39 rfl rfl) (fun w2 hw => hw) ?_
                      refine DT.take 15 rfl rfl rfl rfl (by kernel_rfl) (fun _ _ _ h => h) (Val.fieldE h_p1249 Tryd.underlying39 rfl rfl sz33 rfl) (fun w2 hw => hw) ?_
                      refine DT.take 16 rfl rfl rfl rfl (by kernel_rfl) (fun _ _ _ h => h) (Val.loadAt1 see 4 rfl Tryd.underlying33 rfl rfl) (fun w2 hw => hw) ?_
                      refine DT.take 17 rfl rfl rfl rfl (by kernel_rfl) (fun _ _ _ h => h) (Val.move rfl) (fun w2 hw => hw) ?_
                      refine DT.take 18 rfl rfl rfl rfl (by kernel_rfl) (fun _ _ _ h => h) (Val.move rfl) (fun w2 hw => hw) ?_
                      refine DT.take 19 rfl rfl rfl rfl (by kernel_rfl) (fun _ _ _ h => h) (Val.indexE h_p1254 Tryd.underlying29 sz39 rfl rfl) (fun w2 hw => hw) ?_
                      refine DT.take 20 rfl rfl rfl rfl (by kernel_rfl) (fun _ _ _ h => h) (Val.fieldE h_p1257 Tryd.underlying39 rfl rfl sz33 rfl) (fun w2 hw => hw) ?_
                      refine DT.take 21 rfl rfl rfl rfl (by kernel_rfl) (fun _ _ _ h => h) (Val.loadAt1 see 0 rfl Tryd.underlying33 rfl rfl) (fun w2 hw => hw) ?_
                      refine DT.next (by kernel_rfl) ?_
                      refine DA.one 22 rfl (by kernel_rfl) ?_
                      obtain ⟨t1262, hc, ho⟩ := bind_some (x := capstanref07_SameKinds.f x1248.Kinds x1256.Kinds) ho
                      refine SP.callV see (caps := []) (.bool t1262) fn11 rfl rfl rfl rfl (fun w2 hP hs sub ap => capstanref07_SameKinds.ok x1248.Kinds x1256.Kinds _ _ _ hc w2 hP sub (ap.get 5 rfl) (ap.get 1 rfl)) ?_
                      clear hc
                      refine SP.nil ?_
                      refine QE.atA ?_
                      refine DA.one 23 rfl (by kernel_rfl) ?_
                      refine SP.val (Val.notB rfl) rfl rfl rfl ?_
                      refine SP.nil ?_
                      refine QE.atA ?_
                      refine DA.one 24 rfl (by kernel_rfl) ?_
                      refine SP.val (Val.pickF rfl rfl) rfl rfl rfl ?_
                      refine SP.nil ?_
                      refine QE.atA ?_
                      refine DA.done (by kernel_rfl) ?_
                      exact QE.meet fun a w2 ha hw => ⟨(!t1262), m1231, _, (by omega), ho, hr, ha.sub ⟨rfl, rfl, rfl, rfl, trivial⟩, (St.selP [14, 15, 16] rfl hw)⟩
                · refine CP.condF rfl (decide_eq_false hc) ?_
                  refine CP.exit ?_
                  refine QE.thru (by intro e; cases e) ?_
                  refine QE.thru (by intro e; cases e) ?_
                  refine QE.blockE ?_
                  refine QE.then ?_
                  refine CP.seq ?_
                  refine CP.region ?_
                  refine SP.val (Val.assign rfl) rfl rfl rfl ?_
                  refine SP.nil ?_
                  refine QE.then ?_
                  refine CP.ret ?_
                  obtain rfl := Option.some.inj ho
                  obtain rfl := Option.some.inj hr
                  exact QE.rets (rs := [.tmp 4]) (vs := [.bool true]) Tryd.results4 rfl ⟨RVs.tmp rfl, trivial⟩ (fun w2 h => St.done (fun a b p s => rfl) h)
            · refine CP.drawA (by kernel_rfl) (fun w2 k h => h.drawn k) ?_
              refine DA.phase (fun i => Nat.ble 0 i && Nat.blt i 2) (fun w2 => St w em hV [slP k_api_Method v1118 l1117, slP k_api_Value v962 l961, slP k_api_Value v644 l643, slP k_api_Value v_m_0_Globals m_0.Globals, slP k_api_Value v_m_0_Pool m_0.Pool, slP k_api_Method v_m_0_Methods m_0.Methods, arrP k_arr136 0 tab0] [slO k_types_Row 39 v1151 t1150.1, slO k_types_Row 39 v1148 t1147.1, boxO b15 [v644, v962, v1118, .int .i64 99] 25, boxO b4 [v_m_0_Globals, v_m_0_Pool, v_m_0_Methods, .int .i64 m_0.Migrate] 25] w2) ?_
              refine DT.take 0 rfl rfl rfl rfl (by kernel_rfl) (fun _ _ _ h => h) (Val.move rfl) (fun w2 hw => hw) ?_
              refine DT.take 1 rfl rfl rfl rfl (by kernel_rfl) (fun _ _ _ h => h) (Val.move rfl) (fun w2 hw => hw) ?_
              refine DT.next (by kernel_rfl) ?_
              refine DA.one 2 rfl (by kernel_rfl) ?_
              refine SP.val (Val.neq rfl rfl) rfl rfl rfl ?_
              refine SP.nil ?_
              refine QE.atA ?_
              refine DA.one 3 rfl (by kernel_rfl) ?_
              refine SP.val (Val.move rfl) rfl rfl rfl ?_
              refine SP.nil ?_
              refine QE.atA ?_
              rcases if_some ho with ⟨hc, ho⟩ | ⟨hc, ho⟩
              · have hg1153 := (decide_eq_true hc)
                clear hc
                refine DA.phase (fun i => Nat.ble 4 i && Nat.blt i 8) (fun w2 => St w em hV [slP k_api_Method v1118 l1117, slP k_api_Value v962 l961, slP k_api_Value v644 l643, slP k_api_Value v_m_0_Globals m_0.Globals, slP k_api_Value v_m_0_Pool m_0.Pool, slP k_api_Method v_m_0_Methods m_0.Methods, arrP k_arr136 0 tab0] [slO k_types_Row 39 v1151 t1150.1, slO k_types_Row 39 v1148 t1147.1, boxO b15 [v644, v962, v1118, .int .i64 99] 25, boxO b4 [v_m_0_Globals, v_m_0_Pool, v_m_0_Methods, .int .i64 m_0.Migrate] 25] w2) ?_
                refine DT.is (d := 122) (b := true) rfl hg1153 ?_
                refine DT.not 4 rfl rfl rfl rfl (by kernel_rfl) (fun _ _ _ h => h) (fun w2 hw => hw) ?_
                refine DT.not 5 rfl rfl rfl rfl (by kernel_rfl) (fun _ _ _ h => h) (fun w2 hw => hw) ?_
                refine DT.not 6 rfl rfl rfl rfl (by kernel_rfl) (fun _ _ _ h => h) (fun w2 hw => hw) ?_
                refine DT.not 7 rfl rfl rfl rfl (by kernel_rfl) (fun _ _ _ h => h) (fun w2 hw => hw) ?_
                refine DT.next (by kernel_rfl) ?_
                refine DA.phase (fun i => Nat.ble 8 i && Nat.blt i 9) (fun w2 => St w em hV [slP k_api_Method v1118 l1117, slP k_api_Value v962 l961, slP k_api_Value v644 l643, slP k_api_Value v_m_0_Globals m_0.Globals, slP k_api_Value v_m_0_Pool m_0.Pool, slP k_api_Method v_m_0_Methods m_0.Methods, arrP k_arr136 0 tab0] [slO k_types_Row 39 v1151 t1150.1, slO k_types_Row 39 v1148 t1147.1, boxO b15 [v644, v962, v1118, .int .i64 99] 25, boxO b4 [v_m_0_Globals, v_m_0_Pool, v_m_0_Methods, .int .i64 m_0.Migrate] 25] w2) ?_
                refine DT.not 8 rfl rfl rfl rfl (by kernel_rfl) (fun _ _ _ h => h) (fun w2 hw => hw) ?_
                refine DT.next (by kernel_rfl) ?_
                refine DA.one 9 rfl (by kernel_rfl) ?_
                refine SP.val (Val.pickT rfl rfl) rfl rfl rfl ?_
                refine SP.nil ?_
                refine QE.atA ?_
                refine DA.one 10 rfl (by kernel_rfl) ?_
                refine SP.val (Val.move rfl) rfl rfl rfl ?_
                refine SP.nil ?_
                refine QE.atA ?_
                refine DA.phase (fun i => Nat.ble 11 i && Nat.blt i 16) (fun w2 => St w em hV [slP k_api_Method v1118 l1117, slP k_api_Value v962 l961, slP k_api_Value v644 l643, slP k_api_Value v_m_0_Globals m_0.Globals, slP k_api_Value v_m_0_Pool m_0.Pool, slP k_api_Method v_m_0_Methods m_0.Methods, arrP k_arr136 0 tab0] [slO k_types_Row 39 v1151 t1150.1, slO k_types_Row 39 v1148 t1147.1, boxO b15 [v644, v962, v1118, .int .i64 99] 25, boxO b4 [v_m_0_Globals, v_m_0_Pool, v_m_0_Methods, .int .i64 m_0.Migrate] 25] w2) ?_
                refine DT.not 11 rfl rfl rfl rfl (by kernel_rfl) (fun _ _ _ h => h) (fun w2 hw => hw) ?_
                refine DT.not 12 rfl rfl rfl rfl (by kernel_rfl) (fun _ _ _ h => h) (fun w2 hw => hw) ?_
                refine DT.not 13 rfl rfl rfl rfl (by kernel_rfl) (fun _ _ _ h => h) (fun w2 hw => hw) ?_
                refine DT.not 14 rfl rfl rfl rfl (by kernel_rfl) (fun _ _ _ h => h) (fun w2 hw => hw) ?_
                refine DT.not 15 rfl rfl rfl rfl (by kernel_rfl) (fun _ _ _ h => h) (fun w2 hw => hw) ?_
                refine DT.next (by kernel_rfl) ?_
                refine DA.phase (fun i => Nat.ble 16 i && Nat.blt i 17) (fun w2 => St w em hV [slP k_api_Method v1118 l1117, slP k_api_Value v962 l961, slP k_api_Value v644 l643, slP k_api_Value v_m_0_Globals m_0.Globals, slP k_api_Value v_m_0_Pool m_0.Pool, slP k_api_Method v_m_0_Methods m_0.Methods, arrP k_arr136 0 tab0] [slO k_types_Row 39 v1151 t1150.1, slO k_types_Row 39 v1148 t1147.1, boxO b15 [v644, v962, v1118, .int .i64 99] 25, boxO b4 [v_m_0_Globals, v_m_0_Pool, v_m_0_Methods, .int .i64 m_0.Migrate] 25] w2) ?_
                refine DT.not 16 rfl rfl rfl rfl (by kernel_rfl) (fun _ _ _ h => h) (fun w2 hw => hw) ?_
                refine DT.next (by kernel_rfl) ?_
                refine DA.phase (fun i => Nat.ble 17 i && Nat.blt i 18) (fun w2 => St w em hV [slP k_api_Method v1118 l1117, slP k_api_Value v962 l961, slP k_api_Value v644 l643, slP k_api_Value v_m_0_Globals m_0.Globals, slP k_api_Value v_m_0_Pool m_0.Pool, slP k_api_Method v_m_0_Methods m_0.Methods, arrP k_arr136 0 tab0] [slO k_types_Row 39 v1151 t1150.1, slO k_types_Row 39 v1148 t1147.1, boxO b15 [v644, v962, v1118, .int .i64 99] 25, boxO b4 [v_m_0_Globals, v_m_0_Pool, v_m_0_Methods, .int .i64 m_0.Migrate] 25] w2) ?_
                refine DT.not 17 rfl rfl rfl rfl (by kernel_rfl) (fun _ _ _ h => h) (fun w2 hw => hw) ?_
                refine DT.next (by kernel_rfl) ?_
                refine DA.one 18 rfl (by kernel_rfl) ?_
                refine SP.val (Val.pickT rfl rfl) rfl rfl rfl ?_
                refine SP.nil ?_
                refine QE.atA ?_
                refine DA.done (by kernel_rfl) ?_
                exact QE.meet fun a w2 ha hw => ⟨true, m1120, _, (by omega), ho, hr, ha.sub ⟨rfl, rfl, rfl, trivial⟩, (St.selP [6] rfl (St.selO [0, 1] rfl rfl hw))⟩
              · have hg1154 := (decide_eq_false hc)
                clear hc
                refine DA.phase (fun i => Nat.ble 4 i && Nat.blt i 8) (fun w2 => St w em hV [slP k_api_Method v1118 l1117, slP k_api_Value v962 l961, slP k_api_Value v644 l643, slP k_api_Value v_m_0_Globals m_0.Globals, slP k_api_Value v_m_0_Pool m_0.Pool, slP k_api_Method v_m_0_Methods m_0.Methods, arrP k_arr136 0 tab0] [slO k_types_Row 39 v1151 t1150.1, slO k_types_Row 39 v1148 t1147.1, boxO b15 [v644, v962, v1118, .int .i64 99] 25, boxO b4 [v_m_0_Globals, v_m_0_Pool, v_m_0_Methods, .int .i64 m_0.Migrate] 25] w2) ?_
                refine DT.is (d := 122) (b := false) rfl hg1154 ?_
                refine DT.take 4 rfl rfl rfl rfl (by kernel_rfl) (fun _ _ _ h => h) (Val.move rfl) (fun w2 hw => hw) ?_
                refine DT.take 5 rfl rfl rfl rfl (by kernel_rfl) (fun _ _ _ h => h) (Val.lenW (fun w2 hw => slO.whole (St.own 1 rfl see.sub see.dj hw)) Tryd.underlying29 rfl) (fun w2 hw => hw) ?_
                refine DT.take 6 rfl rfl rfl rfl (by kernel_rfl) (fun _ _ _ h => h) (Val.move rfl) (fun w2 hw => hw) ?_
                refine DT.take 7 rfl rfl rfl rfl (by kernel_rfl) (fun _ _ _ h => h) (Val.lenW (fun w2 hw => slO.whole (St.own 0 rfl see.sub see.dj hw)) Tryd.underlying29 rfl) (fun w2 hw => hw) ?_
                refine DT.next (by kernel_rfl) ?_
                refine DA.one 8 rfl (by kernel_rfl) ?_
                refine SP.val (Val.neq rfl rfl) rfl rfl rfl ?_
                refine SP.nil ?_
                refine QE.atA ?_
                refine DA.one 9 rfl (by kernel_rfl) ?_
                refine SP.val (Val.pickF rfl rfl) rfl rfl rfl ?_
                refine SP.nil ?_
                refine QE.atA ?_
                refine DA.one 10 rfl (by kernel_rfl) ?_
                refine SP.val (Val.move rfl) rfl rfl rfl ?_
                refine SP.nil ?_
                refine QE.atA ?_
                rcases if_some ho with ⟨hc, ho⟩ | ⟨hc, ho⟩
                · have hg1155 := (decide_eq_true hc)
                  clear hc
                  refine DA.phase (fun i => Nat.ble 11 i && Nat.blt i 16) (fun w2 => St w em hV [slP k_api_Method v1118 l1117, slP k_api_Value v962 l961, slP k_api_Value v644 l643, slP k_api_Value v_m_0_Globals m_0.Globals, slP k_api_Value v_m_0_Pool m_0.Pool, slP k_api_Method v_m_0_Methods m_0.Methods, arrP k_arr136 0 tab0] [slO k_types_Row 39 v1151 t1150.1, slO k_types_Row 39 v1148 t1147.1, boxO b15 [v644, v962, v1118, .int .i64 99] 25, boxO b4 [v_m_0_Globals, v_m_0_Pool, v_m_0_Methods, .int .i64 m_0.Migrate] 25] w2) ?_
                  refine DT.is (d := 129) (b := true) rfl hg1155 ?_
                  refine DT.not 11 rfl rfl rfl rfl (by kernel_rfl) (fun _ _ _ h => h) (fun w2 hw => hw) ?_
                  refine DT.not 12 rfl rfl rfl rfl (by kernel_rfl) (fun _ _ _ h => h) (fun w2 hw => hw) ?_
                  refine DT.not 13 rfl rfl rfl rfl (by kernel_rfl) (fun _ _ _ h => h) (fun w2 hw => hw) ?_
                  refine DT.not 14 rfl rfl rfl rfl (by kernel_rfl) (fun _ _ _ h => h) (fun w2 hw => hw) ?_
                  refine DT.not 15 rfl rfl rfl rfl (by kernel_rfl) (fun _ _ _ h => h) (fun w2 hw => hw) ?_
                  refine DT.next (by kernel_rfl) ?_
                  refine DA.phase (fun i => Nat.ble 16 i && Nat.blt i 17) (fun w2 => St w em hV [slP k_api_Method v1118 l1117, slP k_api_Value v962 l961, slP k_api_Value v644 l643, slP k_api_Value v_m_0_Globals m_0.Globals, slP k_api_Value v_m_0_Pool m_0.Pool, slP k_api_Method v_m_0_Methods m_0.Methods, arrP k_arr136 0 tab0] [slO k_types_Row 39 v1151 t1150.1, slO k_types_Row 39 v1148 t1147.1, boxO b15 [v644, v962, v1118, .int .i64 99] 25, boxO b4 [v_m_0_Globals, v_m_0_Pool, v_m_0_Methods, .int .i64 m_0.Migrate] 25] w2) ?_
                  refine DT.not 16 rfl rfl rfl rfl (by kernel_rfl) (fun _ _ _ h => h) (fun w2 hw => hw) ?_
                  refine DT.next (by kernel_rfl) ?_
                  refine DA.phase (fun i => Nat.ble 17 i && Nat.blt i 18) (fun w2 => St w em hV [slP k_api_Method v1118 l1117, slP k_api_Value v962 l961, slP k_api_Value v644 l643, slP k_api_Value v_m_0_Globals m_0.Globals, slP k_api_Value v_m_0_Pool m_0.Pool, slP k_api_Method v_m_0_Methods m_0.Methods, arrP k_arr136 0 tab0] [slO k_types_Row 39 v1151 t1150.1, slO k_types_Row 39 v1148 t1147.1, boxO b15 [v644, v962, v1118, .int .i64 99] 25, boxO b4 [v_m_0_Globals, v_m_0_Pool, v_m_0_Methods, .int .i64 m_0.Migrate] 25] w2) ?_
                  refine DT.not 17 rfl rfl rfl rfl (by kernel_rfl) (fun _ _ _ h => h) (fun w2 hw => hw) ?_
                  refine DT.next (by kernel_rfl) ?_
                  refine DA.one 18 rfl (by kernel_rfl) ?_
                  refine SP.val (Val.pickT rfl rfl) rfl rfl rfl ?_
                  refine SP.nil ?_
                  refine QE.atA ?_
                  refine DA.done (by kernel_rfl) ?_
                  exact QE.meet fun a w2 ha hw => ⟨true, m1120, _, (by omega), ho, hr, ha.sub ⟨rfl, rfl, rfl, trivial⟩, (St.selP [6] rfl (St.selO [0, 1] rfl rfl hw))⟩
                · have hg1156 := (decide_eq_false hc)
                  clear hc
                  obtain ⟨t1157, hc1158, ho⟩ := bind_some ho
                  refine DA.phase (fun i => Nat.ble 11 i && Nat.blt i 16) (fun w2 => St w em hV [slP k_api_Method v1118 l1117, slP k_api_Value v962 l961, slP k_api_Value v644 l643, slP k_api_Value v_m_0_Globals m_0.Globals, slP k_api_Value v_m_0_Pool m_0.Pool, slP k_api_Method v_m_0_Methods m_0.Methods, arrP k_arr136 0 tab0] [slO k_types_Row 39 v1151 t1150.1, slO k_types_Row 39 v1148 t1147.1, boxO b15 [v644, v962, v1118, .int .i64 99] 25, boxO b4 [v_m_0_Globals, v_m_0_Pool, v_m_0_Methods, .int .i64 m_0.Migrate] 25] w2) ?_
                  refine DT.is (d := 129) (b := false) rfl hg1156 ?_
                  refine DT.take 11 rfl rfl rfl rfl (by kernel_rfl) (fun _ _ _ h => h) (Val.loadA 2 rfl Tryd.underlying25 rfl sz25 rfl rfl rfl) (fun w2 hw => hw) ?_
                  refine DT.take 12 rfl rfl rfl rfl (by kernel_rfl) (fun _ _ _ h => h) (Val.move rfl) (fun w2 hw => hw) ?_
                  refine DT.take 14 rfl rfl rfl rfl (by kernel_rfl) (fun _ _ _ h => h) (Val.loadA 3 rfl Tryd.underlying25 rfl sz25 rfl rfl rfl) (fun w2 hw => hw) ?_
                  refine DT.take 15 rfl rfl rfl rfl (by kernel_rfl) (fun _ _ _ h => h) (Val.move rfl) (fun w2 hw => hw) ?_
                  refine DT.one 13 rfl (by kernel_rfl) rfl ?_
                  refine SP.callV see (caps := []) (.int .i64 t1157) fn16 rfl rfl rfl rfl (fun w2 hP hs sub ap => types_Check.ok (⟨l643, l961, l1117, 99⟩ : api_Module) k_1 _ _ _ _ hc1158 w2 hP sub (ap.get 2 rfl) (ap.get 1 rfl) (ap.get 0 rfl) (ap.get 6 rfl)) ?_
                  refine SP.nil ?_
                  refine QE.atT (fun w2 hw => hw) ?_
                  refine DT.next (by kernel_rfl) ?_
                  refine DA.one 16 rfl (by kernel_rfl) ?_
                  obtain ⟨t1159, hc, ho⟩ := bind_some (x := types_Check.f m_0 k_1) ho
                  refine SP.callV see (caps := []) (.int .i64 t1159) fn16 rfl rfl rfl rfl (fun w2 hP hs sub ap => types_Check.ok m_0 k_1 _ _ _ _ hc w2 hP sub (ap.get 3 rfl) (ap.get 4 rfl) (ap.get 5 rfl) (ap.get 6 rfl)) ?_
                  clear hc
                  refine SP.nil ?_
                  refine QE.atA ?_
                  refine DA.one 17 rfl (by kernel_rfl) ?_
                  refine SP.val (Val.neq rfl rfl) rfl rfl rfl ?_
                  refine SP.nil ?_
                  refine QE.atA ?_
                  refine DA.one 18 rfl (by kernel_rfl) ?_
                  refine SP.val (Val.pickF rfl rfl) rfl rfl rfl ?_
                  refine SP.nil ?_
                  refine QE.atA ?_
                  refine DA.done (by kernel_rfl) ?_
                  exact QE.meet fun a w2 ha hw => ⟨(decide (t1157 ≠ t1159)), m1120, _, (by omega), ho, hr, ha.sub ⟨rfl, rfl, rfl, trivial⟩, (St.selP [6] rfl (St.selO [0, 1] rfl rfl hw))⟩
theorem cl5 : Tryd.prog.cellsOf 5 = 1 := by kernel_rfl
theorem cl2 : Tryd.prog.cellsOf 2 = 1 := by kernel_rfl
theorem cl52 : Tryd.prog.cellsOf 52 = 3 := by kernel_rfl
def wf_api_Value (x : api_Value) : Prop := (Lit.int .u8 x.Kind).wf = true ∧ (Lit.int .i64 x.A).wf = true ∧ (Lit.int .i64 x.B).wf = true
theorem opens_api_Value : Opens Tryd.prog 52 k_api_Value wf_api_Value := by
  intro H enc W fuel cs d ps h
  cases fuel with
  | zero => simp [DataW.trod] at h
  | succ n =>
    obtain ⟨hl, hf⟩ := trod_struct Tryd.underlying52 h
    rw [cl52] at hl
    obtain ⟨c0, c1, c2, rfl⟩ := len3 hl
    obtain ⟨d0, q0, h0⟩ := hf 0 _ rfl
    replace h0 : DataW.trod enc Tryd.prog W 0 (fun _ => true) true n 5 (List.take (Tryd.prog.cellsOf 5) [c0, c1, c2]) = some (d0, q0) := h0
    rw [cl5] at h0
    replace h0 : DataW.trod enc Tryd.prog W 0 (fun _ => true) true n 5 [c0] = some (d0, q0) := h0
    obtain ⟨x0, r0, w0⟩ := (Opens.int Tryd.underlying5) enc W n _ _ _ h0
    obtain ⟨rfl, -⟩ := List.cons.inj r0
    obtain ⟨d1, q1, h1⟩ := hf 1 _ rfl
    replace h1 : DataW.trod enc Tryd.prog W 0 (fun _ => true) true n 2 (List.take (Tryd.prog.cellsOf 2) [c1, c2]) = some (d1, q1) := h1
    rw [cl2] at h1
    replace h1 : DataW.trod enc Tryd.prog W 0 (fun _ => true) true n 2 [c1] = some (d1, q1) := h1
    obtain ⟨x1, r1, w1⟩ := (Opens.int Tryd.underlying2) enc W n _ _ _ h1
    obtain ⟨rfl, -⟩ := List.cons.inj r1
    obtain ⟨d2, q2, h2⟩ := hf 2 _ rfl
    replace h2 : DataW.trod enc Tryd.prog W 0 (fun _ => true) true n 2 (List.take (Tryd.prog.cellsOf 2) [c2]) = some (d2, q2) := h2
    rw [cl2] at h2
    replace h2 : DataW.trod enc Tryd.prog W 0 (fun _ => true) true n 2 [c2] = some (d2, q2) := h2
    obtain ⟨x2, r2, w2⟩ := (Opens.int Tryd.underlying2) enc W n _ _ _ h2
    obtain ⟨rfl, -⟩ := List.cons.inj r2
    exact ⟨⟨x0, x1, x2⟩, rfl, w0, w1, w2⟩
theorem cl3 : Tryd.prog.cellsOf 3 = 1 := by kernel_rfl
theorem cl45 : Tryd.prog.cellsOf 45 = 3 := by kernel_rfl
def wf_api_Instr (x : api_Instr) : Prop := (Lit.int .u8 x.Op).wf = true ∧ (Lit.int .i64 x.A).wf = true ∧ (Lit.int .i64 x.B).wf = true
theorem opens_api_Instr : Opens Tryd.prog 45 k_api_Instr wf_api_Instr := by
  intro H enc W fuel cs d ps h
  cases fuel with
  | zero => simp [DataW.trod] at h
  | succ n =>
    obtain ⟨hl, hf⟩ := trod_struct Tryd.underlying45 h
    rw [cl45] at hl
    obtain ⟨c0, c1, c2, rfl⟩ := len3 hl
    obtain ⟨d0, q0, h0⟩ := hf 0 _ rfl
    replace h0 : DataW.trod enc Tryd.prog W 0 (fun _ => true) true n 5 (List.take (Tryd.prog.cellsOf 5) [c0, c1, c2]) = some (d0, q0) := h0
    rw [cl5] at h0
    replace h0 : DataW.trod enc Tryd.prog W 0 (fun _ => true) true n 5 [c0] = some (d0, q0) := h0
    obtain ⟨x0, r0, w0⟩ := (Opens.int Tryd.underlying5) enc W n _ _ _ h0
    obtain ⟨rfl, -⟩ := List.cons.inj r0
    obtain ⟨d1, q1, h1⟩ := hf 1 _ rfl
    replace h1 : DataW.trod enc Tryd.prog W 0 (fun _ => true) true n 3 (List.take (Tryd.prog.cellsOf 3) [c1, c2]) = some (d1, q1) := h1
    rw [cl3] at h1
    replace h1 : DataW.trod enc Tryd.prog W 0 (fun _ => true) true n 3 [c1] = some (d1, q1) := h1
    obtain ⟨x1, r1, w1⟩ := (Opens.int Tryd.underlying3) enc W n _ _ _ h1
    obtain ⟨rfl, -⟩ := List.cons.inj r1
    obtain ⟨d2, q2, h2⟩ := hf 2 _ rfl
    replace h2 : DataW.trod enc Tryd.prog W 0 (fun _ => true) true n 3 (List.take (Tryd.prog.cellsOf 3) [c2]) = some (d2, q2) := h2
    rw [cl3] at h2
    replace h2 : DataW.trod enc Tryd.prog W 0 (fun _ => true) true n 3 [c2] = some (d2, q2) := h2
    obtain ⟨x2, r2, w2⟩ := (Opens.int Tryd.underlying3) enc W n _ _ _ h2
    obtain ⟨rfl, -⟩ := List.cons.inj r2
    exact ⟨⟨x0, x1, x2⟩, rfl, w0, w1, w2⟩
theorem cl33 : Tryd.prog.cellsOf 33 = 1 := by kernel_rfl
theorem cl4 : Tryd.prog.cellsOf 4 = 1 := by kernel_rfl
theorem cl34 : Tryd.prog.cellsOf 34 = 1 := by kernel_rfl
theorem cl36 : Tryd.prog.cellsOf 36 = 8 := by kernel_rfl
def wf_api_Method (x : api_Method) : Prop := (x.Args.length ≤ maxLen ∧ ∀ y ∈ x.Args, (Lit.int .u8 y).wf = true) ∧ (x.Locals.length ≤ maxLen ∧ ∀ y ∈ x.Locals, (Lit.int .u8 y).wf = true) ∧ (Lit.int .u8 x.Result).wf = true ∧ True ∧ (Lit.int .i64 x.Fuel).wf = true ∧ (Lit.int .i64 x.Stack).wf = true ∧ (Lit.int .i64 x.Heap).wf = true ∧ (x.Code.length ≤ maxLen ∧ ∀ y ∈ x.Code, wf_api_Instr y)
theorem opens_api_Method : Opens Tryd.prog 36 k_api_Method wf_api_Method := by
  intro H enc W fuel cs d ps h
  cases fuel with
  | zero => simp [DataW.trod] at h
  | succ n =>
    obtain ⟨hl, hf⟩ := trod_struct Tryd.underlying36 h
    rw [cl36] at hl
    obtain ⟨c0, c1, c2, c3, c4, c5, c6, c7, rfl⟩ := len8 hl
    obtain ⟨d0, q0, h0⟩ := hf 0 _ rfl
    replace h0 : DataW.trod enc Tryd.prog W 0 (fun _ => true) true n 33 (List.take (Tryd.prog.cellsOf 33) [c0, c1, c2, c3, c4, c5, c6, c7]) = some (d0, q0) := h0
    rw [cl33] at h0
    replace h0 : DataW.trod enc Tryd.prog W 0 (fun _ => true) true n 33 [c0] = some (d0, q0) := h0
    obtain ⟨x0, r0, w0⟩ := (Opens.slice Tryd.underlying33 (Opens.int Tryd.underlying5) cl5 (by decide)) enc W n _ _ _ h0
    obtain ⟨v0, e0, r0⟩ := r0
    obtain ⟨rfl, -⟩ := List.cons.inj e0
    obtain ⟨d1, q1, h1⟩ := hf 1 _ rfl
    replace h1 : DataW.trod enc Tryd.prog W 0 (fun _ => true) true n 33 (List.take (Tryd.prog.cellsOf 33) [c1, c2, c3, c4, c5, c6, c7]) = some (d1, q1) := h1
    rw [cl33] at h1
    replace h1 : DataW.trod enc Tryd.prog W 0 (fun _ => true) true n 33 [c1] = some (d1, q1) := h1
    obtain ⟨x1, r1, w1⟩ := (Opens.slice Tryd.underlying33 (Opens.int Tryd.underlying5) cl5 (by decide)) enc W n _ _ _ h1
    obtain ⟨v1, e1, r1⟩ := r1
    obtain ⟨rfl, -⟩ := List.cons.inj e1
    obtain ⟨d2, q2, h2⟩ := hf 2 _ rfl
    replace h2 : DataW.trod enc Tryd.prog W 0 (fun _ => true) true n 5 (List.take (Tryd.prog.cellsOf 5) [c2, c3, c4, c5, c6, c7]) = some (d2, q2) := h2
    rw [cl5] at h2
    replace h2 : DataW.trod enc Tryd.prog W 0 (fun _ => true) true n 5 [c2] = some (d2, q2) := h2
    obtain ⟨x2, r2, w2⟩ := (Opens.int Tryd.underlying5) enc W n _ _ _ h2
    obtain ⟨rfl, -⟩ := List.cons.inj r2
    obtain ⟨d3, q3, h3⟩ := hf 3 _ rfl
    replace h3 : DataW.trod enc Tryd.prog W 0 (fun _ => true) true n 4 (List.take (Tryd.prog.cellsOf 4) [c3, c4, c5, c6, c7]) = some (d3, q3) := h3
    rw [cl4] at h3
    replace h3 : DataW.trod enc Tryd.prog W 0 (fun _ => true) true n 4 [c3] = some (d3, q3) := h3
    obtain ⟨x3, r3, w3⟩ := (Opens.bool Tryd.underlying4) enc W n _ _ _ h3
    obtain ⟨rfl, -⟩ := List.cons.inj r3
    obtain ⟨d4, q4, h4⟩ := hf 4 _ rfl
    replace h4 : DataW.trod enc Tryd.prog W 0 (fun _ => true) true n 3 (List.take (Tryd.prog.cellsOf 3) [c4, c5, c6, c7]) = some (d4, q4) := h4
    rw [cl3] at h4
    replace h4 : DataW.trod enc Tryd.prog W 0 (fun _ => true) true n 3 [c4] = some (d4, q4) := h4
    obtain ⟨x4, r4, w4⟩ := (Opens.int Tryd.underlying3) enc W n _ _ _ h4
    obtain ⟨rfl, -⟩ := List.cons.inj r4
    obtain ⟨d5, q5, h5⟩ := hf 5 _ rfl
    replace h5 : DataW.trod enc Tryd.prog W 0 (fun _ => true) true n 3 (List.take (Tryd.prog.cellsOf 3) [c5, c6, c7]) = some (d5, q5) := h5
    rw [cl3] at h5
    replace h5 : DataW.trod enc Tryd.prog W 0 (fun _ => true) true n 3 [c5] = some (d5, q5) := h5
    obtain ⟨x5, r5, w5⟩ := (Opens.int Tryd.underlying3) enc W n _ _ _ h5
    obtain ⟨rfl, -⟩ := List.cons.inj r5
    obtain ⟨d6, q6, h6⟩ := hf 6 _ rfl
    replace h6 : DataW.trod enc Tryd.prog W 0 (fun _ => true) true n 3 (List.take (Tryd.prog.cellsOf 3) [c6, c7]) = some (d6, q6) := h6
    rw [cl3] at h6
    replace h6 : DataW.trod enc Tryd.prog W 0 (fun _ => true) true n 3 [c6] = some (d6, q6) := h6
    obtain ⟨x6, r6, w6⟩ := (Opens.int Tryd.underlying3) enc W n _ _ _ h6
    obtain ⟨rfl, -⟩ := List.cons.inj r6
    obtain ⟨d7, q7, h7⟩ := hf 7 _ rfl
    replace h7 : DataW.trod enc Tryd.prog W 0 (fun _ => true) true n 34 (List.take (Tryd.prog.cellsOf 34) [c7]) = some (d7, q7) := h7
    rw [cl34] at h7
    replace h7 : DataW.trod enc Tryd.prog W 0 (fun _ => true) true n 34 [c7] = some (d7, q7) := h7
    obtain ⟨x7, r7, w7⟩ := (Opens.slice Tryd.underlying34 opens_api_Instr cl45 (by decide)) enc W n _ _ _ h7
    obtain ⟨v7, e7, r7⟩ := r7
    obtain ⟨rfl, -⟩ := List.cons.inj e7
    exact ⟨⟨x0, x1, x2, x3, x4, x5, x6, x7⟩, ⟨_, _, _, rfl, r0, r1, r7⟩, w0, w1, w2, w3, w4, w5, w6, w7⟩
theorem cl22 : Tryd.prog.cellsOf 22 = 1 := by kernel_rfl
theorem cl23 : Tryd.prog.cellsOf 23 = 1 := by kernel_rfl
theorem cl25 : Tryd.prog.cellsOf 25 = 4 := by kernel_rfl
def wf_api_Module (x : api_Module) : Prop := (x.Globals.length ≤ maxLen ∧ ∀ y ∈ x.Globals, wf_api_Value y) ∧ (x.Pool.length ≤ maxLen ∧ ∀ y ∈ x.Pool, wf_api_Value y) ∧ (x.Methods.length ≤ maxLen ∧ ∀ y ∈ x.Methods, wf_api_Method y) ∧ (Lit.int .i64 x.Migrate).wf = true
theorem opens_api_Module : Opens Tryd.prog 25 k_api_Module wf_api_Module := by
  intro H enc W fuel cs d ps h
  cases fuel with
  | zero => simp [DataW.trod] at h
  | succ n =>
    obtain ⟨hl, hf⟩ := trod_struct Tryd.underlying25 h
    rw [cl25] at hl
    obtain ⟨c0, c1, c2, c3, rfl⟩ := len4 hl
    obtain ⟨d0, q0, h0⟩ := hf 0 _ rfl
    replace h0 : DataW.trod enc Tryd.prog W 0 (fun _ => true) true n 22 (List.take (Tryd.prog.cellsOf 22) [c0, c1, c2, c3]) = some (d0, q0) := h0
    rw [cl22] at h0
    replace h0 : DataW.trod enc Tryd.prog W 0 (fun _ => true) true n 22 [c0] = some (d0, q0) := h0
    obtain ⟨x0, r0, w0⟩ := (Opens.slice Tryd.underlying22 opens_api_Value cl52 (by decide)) enc W n _ _ _ h0
    obtain ⟨v0, e0, r0⟩ := r0
    obtain ⟨rfl, -⟩ := List.cons.inj e0
    obtain ⟨d1, q1, h1⟩ := hf 1 _ rfl
    replace h1 : DataW.trod enc Tryd.prog W 0 (fun _ => true) true n 22 (List.take (Tryd.prog.cellsOf 22) [c1, c2, c3]) = some (d1, q1) := h1
    rw [cl22] at h1
    replace h1 : DataW.trod enc Tryd.prog W 0 (fun _ => true) true n 22 [c1] = some (d1, q1) := h1
    obtain ⟨x1, r1, w1⟩ := (Opens.slice Tryd.underlying22 opens_api_Value cl52 (by decide)) enc W n _ _ _ h1
    obtain ⟨v1, e1, r1⟩ := r1
    obtain ⟨rfl, -⟩ := List.cons.inj e1
    obtain ⟨d2, q2, h2⟩ := hf 2 _ rfl
    replace h2 : DataW.trod enc Tryd.prog W 0 (fun _ => true) true n 23 (List.take (Tryd.prog.cellsOf 23) [c2, c3]) = some (d2, q2) := h2
    rw [cl23] at h2
    replace h2 : DataW.trod enc Tryd.prog W 0 (fun _ => true) true n 23 [c2] = some (d2, q2) := h2
    obtain ⟨x2, r2, w2⟩ := (Opens.slice Tryd.underlying23 opens_api_Method cl36 (by decide)) enc W n _ _ _ h2
    obtain ⟨v2, e2, r2⟩ := r2
    obtain ⟨rfl, -⟩ := List.cons.inj e2
    obtain ⟨d3, q3, h3⟩ := hf 3 _ rfl
    replace h3 : DataW.trod enc Tryd.prog W 0 (fun _ => true) true n 3 (List.take (Tryd.prog.cellsOf 3) [c3]) = some (d3, q3) := h3
    rw [cl3] at h3
    replace h3 : DataW.trod enc Tryd.prog W 0 (fun _ => true) true n 3 [c3] = some (d3, q3) := h3
    obtain ⟨x3, r3, w3⟩ := (Opens.int Tryd.underlying3) enc W n _ _ _ h3
    obtain ⟨rfl, -⟩ := List.cons.inj r3
    exact ⟨⟨x0, x1, x2, x3⟩, ⟨_, _, _, rfl, r0, r1, r2⟩, w0, w1, w2, w3⟩
/-- What is left to be shown of the law: of plain values alone. -/
def capstanlaw10_TypesAlone.Pure : Prop := ∀ (x0 : api_Module) (x1 : Int), wf_api_Module x0 → (Lit.int .i64 x1).wf = true → capstanlaw10_TypesAlone.f x0 x1 = some true
end Go.Proofs.YtpbmkaenleedoaaDoor
end
