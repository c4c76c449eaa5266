/- Functions of the program as plain functions, with the proof that the code computes them: printed by gen.py of this session. -/
import Derived.Test.YtpbmkaenleedoaaDoorProg
import Derived.Test.YtpbmkaenleedoaaDoorQ32v539090
import Derived.Ground.Names8Prog
import Derived.Ground.NamesProg
import Derived.Ground.SlgcProg
import Derived.Ground.SlgmProg
import Derived.Ground.SlgnProg
import Derived.Ground.SlsfProg
import Derived.Shelf.Bits.Mul64
import Derived.Shelf.Lay
import Derived.Shelf.SlGeneric
import Derived.Shelf.SlSortCmp.WholeK
import Derived.Shelf.SlicesE.Reverse
import Derived.Shelf.SlicesG.Cmp
import Derived.Shelf.SlicesG.CompactI
import Derived.Shelf.Small.Bits
import Derived.Shelf.SortM.Plain
import Derived.Shelf.SortM.SortNone
import Derived.Shelf.Spec.SlicesGrow
import Derived.Test.YtpbmkaenleedoaaDoorGTypesUnseenp1
set_option linter.unusedVariables false
set_option linter.unusedSimpArgs false
set_option maxRecDepth 20000
set_option maxHeartbeats 2000000
noncomputable section
namespace Go.Proofs.YtpbmkaenleedoaaDoor
open Go.Q
/-! ### capstan/op.Of: function 31 -/
def op_Of.j1 (op_0 : Int) (l112 : List Int) (l115 : List Int) : Option (op_Shape × Bool) :=
  some ((⟨l112, l115⟩ : op_Shape), true)

def op_Of.j2 (op_0 : Int) (l98 : List Int) (l101 : List Int) : Option (op_Shape × Bool) :=
  (op_Shape_take_s2.f l98 l101 2).bind fun t103 => (op_Shape_give_s2.f t103.1 t103.2 2).bind fun t106 => op_Of.j1 op_0 t106.1 t106.2

def op_Of.j3 (op_0 : Int) (l87 : List Int) (l90 : List Int) : Option (op_Shape × Bool) :=
  (op_Shape_take_s2.f l87 l90 1).bind fun t92 => op_Of.j1 op_0 t92.1 t92.2

def op_Of.j7 (op_0 : Int) (b51 : Bool) : Option (op_Shape × Bool) :=
  if b51 = true then ((op_Shape_take_s2.f ([] : List Int) ([] : List Int) 2).bind fun t52 => op_Of.j2 op_0 t52.1 t52.2) else (if op_0 = 21 then (op_Of.j2 op_0 [] []) else (if op_0 = 22 then ((op_Shape_take_s2.f ([] : List Int) ([] : List Int) 1).bind fun t57 => (op_Shape_give_s2.f t57.1 t57.2 3).bind fun t62 => op_Of.j1 op_0 t62.1 t62.2) else (if op_0 = 23 then ((op_Shape_take_s2.f ([] : List Int) ([] : List Int) 3).bind fun t65 => (op_Shape_take_s2.f t65.1 t65.2 1).bind fun t70 => (op_Shape_give_s2.f t70.1 t70.2 1).bind fun t73 => op_Of.j1 op_0 t73.1 t73.2) else (if op_0 = 25 then ((op_Shape_take_s2.f ([] : List Int) ([] : List Int) 3).bind fun t76 => (op_Shape_give_s2.f t76.1 t76.2 1).bind fun t81 => op_Of.j1 op_0 t81.1 t81.2) else (some ((⟨[], []⟩ : op_Shape), false))))))

def op_Of.j6 (op_0 : Int) (b42 : Bool) : Option (op_Shape × Bool) :=
  if b42 = true then ((op_Shape_give_s2.f ([] : List Int) ([] : List Int) 1).bind fun t43 => (op_Shape_take_s2.f t43.1 t43.2 2).bind fun t48 => op_Of.j1 op_0 t48.1 t48.2) else (if op_0 = 19 then (op_Of.j7 op_0 (decide (op_0 = 19))) else (op_Of.j7 op_0 (decide (op_0 = 20))))

def op_Of.j5 (op_0 : Int) (b19 : Bool) : Option (op_Shape × Bool) :=
  if b19 = true then ((op_Shape_give_s2.f ([] : List Int) ([] : List Int) 1).bind fun t20 => (op_Shape_take_s2.f t20.1 t20.2 1).bind fun t25 => (op_Shape_take_s2.f t25.1 t25.2 1).bind fun t28 => op_Of.j1 op_0 t28.1 t28.2) else (if op_0 = 16 then ((op_Shape_give_s2.f ([] : List Int) ([] : List Int) 2).bind fun t31 => (op_Shape_take_s2.f t31.1 t31.2 1).bind fun t36 => (op_Shape_take_s2.f t36.1 t36.2 1).bind fun t39 => op_Of.j1 op_0 t39.1 t39.2) else (if op_0 = 17 then (op_Of.j6 op_0 (decide (op_0 = 17))) else (op_Of.j6 op_0 (decide (op_0 = 18)))))

def op_Of.j4 (op_0 : Int) (b5 : Bool) : Option (op_Shape × Bool) :=
  if b5 = true then (op_Of.j1 op_0 [] []) else (if op_0 = 6 then ((op_Shape_take_s2.f ([] : List Int) ([] : List Int) 0).bind fun t6 => op_Of.j1 op_0 t6.1 t6.2) else (if op_0 = 24 then ((op_Shape_take_s2.f ([] : List Int) ([] : List Int) 3).bind fun t11 => (op_Shape_take_s2.f t11.1 t11.2 1).bind fun t16 => op_Of.j3 op_0 t16.1 t16.2) else (if op_0 = 27 then (op_Of.j3 op_0 [] []) else (if op_0 = 9 then (op_Of.j5 op_0 (decide (op_0 = 9))) else (if op_0 = 10 then (op_Of.j5 op_0 (decide (op_0 = 10))) else (if op_0 = 11 then (op_Of.j5 op_0 (decide (op_0 = 11))) else (if op_0 = 12 then (op_Of.j5 op_0 (decide (op_0 = 12))) else (if op_0 = 13 then (op_Of.j5 op_0 (decide (op_0 = 13))) else (if op_0 = 14 then (op_Of.j5 op_0 (decide (op_0 = 14))) else (op_Of.j5 op_0 (decide (op_0 = 15))))))))))))

def op_Of.f (op_0 : Int) : Option (op_Shape × Bool) :=
  if op_0 = 0 then (op_Of.j4 op_0 (decide (op_0 = 0))) else (if op_0 = 26 then (op_Of.j4 op_0 (decide (op_0 = 26))) else (if op_0 = 28 then (op_Of.j4 op_0 (decide (op_0 = 28))) else (if op_0 = 29 then (op_Of.j4 op_0 (decide (op_0 = 29))) else (op_Of.j4 op_0 (decide (op_0 = 32))))))
theorem op_Of.ok (op_0 : Int)  (r : op_Shape × Bool) (H : op_Of.f op_0 = some r) (w : World) (hV : Hp) (sV : Sub hV (hp w))  :
    Trip Tryd.prog 31 [.int .u8 op_0].toArray em hV w (fun v => HO.ex fun u0 : Value => HO.ex fun u1 : Value => HO.pand (v = .tuple #[.agg #[u0, u1], .bool r.2]) (HO.seps [slO (kInt .u8) 5 u0 r.1.Takes, slO (kInt .u8) 5 u1 r.1.Gives])) := by
  have see : Sees w em hV := ⟨sV, Dj.em_right _⟩
  refine Trip.of (P := Tryd.prog) (n := ⟨66, []⟩) Tryd.func31 rfl ⟨rfl, rfl⟩ rfl (St.begin (All.nil _)) ?_
  have ho := H
  refine CP.seq ?_
  refine CP.region ?_
  refine SP.alloc (cs := [(.slice none 0 0), (.slice none 0 0)]) inf75 rfl rfl (fun b1 => ?_)
  refine SP.val (Val.assign rfl) rfl rfl rfl ?_
  refine SP.nil ?_
  refine QE.then ?_
  refine CP.seq ?_
  refine CP.region ?_
  refine SP.alloc (cs := [(.slice none 0 0), (.slice none 0 0)]) inf75 rfl rfl (fun b3 => ?_)
  refine SP.nil ?_
  refine QE.then ?_
  refine CP.join (fun a w2 => ∃ l112 : List Int, ∃ l115 : List Int, ∃ v113 : Value, ∃ v116 : Value, op_Of.j1 op_0 l112 l115 = some r ∧ Env ⟨66, []⟩ [(2, .pointer (some ⟨b1, 0, none⟩)), (4, .pointer (some ⟨b3, 0, none⟩))] a ∧ St w em hV [] [slO (kInt .u8) 5 v116 l115, slO (kInt .u8) 5 v113 l112, boxO b3 [v113, v116] 75, boxO b1 [(.slice none 0 0), (.slice none 0 0)] 75] w2) ?_ ?_
  · rintro a w2 ⟨l112, l115, v113, v116, ho, ha, hw⟩
    refine CP.app ha hw ?_
    clear ha hw a w2
    refine CP.seq ?_
    refine CP.region ?_
    refine SP.val (Val.loadA 2 rfl Tryd.underlying75 rfl sz75 rfl rfl rfl) rfl rfl rfl ?_
    refine SP.have (fun w2 hw => slO.shape (St.own 1 rfl see.sub see.dj hw)) (fun hs_v113 => ?_)
    refine SP.have (fun w2 hw => slO.shape (St.own 0 rfl see.sub see.dj hw)) (fun hs_v116 => ?_)
    refine SP.store (v := .agg #[v113, v116]) (vs := [v113, v116]) 3 (by rfl) sz75 (by rfl) (by rfl) (by rfl) (by rfl) (one_cons hs_v113 (one_cons hs_v116 (rfl))) (by rfl) ?_
    refine SP.val (Val.assign rfl) rfl rfl rfl ?_
    refine SP.nil ?_
    refine QE.then ?_
    refine CP.ret ?_
    obtain rfl := Option.some.inj ho
    exact QE.rets (rs := [.cell 2 75, .tmp 3]) (vs := [.agg #[v113, v116], .bool true]) Tryd.results31 rfl ⟨RVs.cellA 3 rfl rfl Tryd.underlying75 rfl sz75, RVs.tmp rfl, trivial⟩ (fun w2 h => St.done (fun a b p s => ⟨_, _, rfl, s⟩) (St.selO [1, 0] rfl rfl h))
  · refine CP.seq ?_
    refine CP.region ?_
    refine SP.val (Val.move rfl) rfl rfl rfl ?_
    refine SP.nil ?_
    refine QE.then ?_
    refine CP.block ?_
    refine CP.seq ?_
    refine CP.block ?_
    refine CP.seq ?_
    refine CP.block ?_
    refine CP.seq ?_
    refine CP.block ?_
    refine CP.seq ?_
    refine CP.block ?_
    refine CP.join (fun a w2 => ∃ l98 : List Int, ∃ l101 : List Int, ∃ v99 : Value, ∃ v102 : Value, op_Of.j2 op_0 l98 l101 = some r ∧ Env ⟨66, []⟩ [(2, .pointer (some ⟨b1, 0, none⟩)), (4, .pointer (some ⟨b3, 0, none⟩))] a ∧ St w em hV [] [slO (kInt .u8) 5 v102 l101, slO (kInt .u8) 5 v99 l98, boxO b3 [v99, v102] 75, boxO b1 [(.slice none 0 0), (.slice none 0 0)] 75] w2) ?_ ?_
    · rintro a w2 ⟨l98, l101, v99, v102, ho, ha, hw⟩
      refine CP.app ha hw ?_
      clear ha hw a w2
      refine CP.seq ?_
      refine CP.seq ?_
      refine CP.region ?_
      refine SP.imp (fun w2 hw => St.selO [2, 1, 0, 3] rfl rfl hw) ?_
      refine SP.imp (fun w2 hw => St.group [boxO b3 [v99, v102] 75, slO (kInt .u8) 5 v99 l98, slO (kInt .u8) 5 v102 l101] hw) ?_
      obtain ⟨t103, hc, ho⟩ := bind_some (x := op_Shape_take_s2.f l98 l101 2) ho
      refine SP.callA see (caps := []) (X := HO.seps [boxO b3 [v99, v102] 75, slO (kInt .u8) 5 v99 l98, slO (kInt .u8) 5 v102 l101]) _ fn44 rfl rfl rfl rfl (fun w2 hP h1 sub s1 d1 ap hI => op_Shape_take_s2.ok l98 l101 2 v99 v102 _ hc w2 hP sub trivial trivial _ h1 s1 d1 hI) (fun vr => ?_)
      refine SP.have (fun w2 h => (St.pand h).1.symm) (fun er => ?_)
      subst er
      refine SP.imp (fun w2 h => St.seps (St.pand h).2) ?_
      refine SP.ex (fun w2 h => St.open h) (fun v104 => ?_)
      refine SP.ex (fun w2 h => St.open h) (fun v105 => ?_)
      refine SP.imp (fun w2 h => St.seps h) ?_
      clear hc
      refine SP.nil ?_
      refine QE.then ?_
      refine CP.region ?_
      refine SP.imp (fun w2 hw => St.group [boxO b3 [v104, v105] 75, slO (kInt .u8) 5 v104 t103.1, slO (kInt .u8) 5 v105 t103.2] hw) ?_
      obtain ⟨t106, hc, ho⟩ := bind_some (x := op_Shape_give_s2.f t103.1 t103.2 2) ho
      refine SP.callA see (caps := []) (X := HO.seps [boxO b3 [v104, v105] 75, slO (kInt .u8) 5 v104 t103.1, slO (kInt .u8) 5 v105 t103.2]) _ fn45 rfl rfl rfl rfl (fun w2 hP h1 sub s1 d1 ap hI => op_Shape_give_s2.ok t103.1 t103.2 2 v104 v105 _ hc w2 hP sub trivial trivial _ h1 s1 d1 hI) (fun vr => ?_)
      refine SP.have (fun w2 h => (St.pand h).1.symm) (fun er => ?_)
      subst er
      refine SP.imp (fun w2 h => St.seps (St.pand h).2) ?_
      refine SP.ex (fun w2 h => St.open h) (fun v107 => ?_)
      refine SP.ex (fun w2 h => St.open h) (fun v108 => ?_)
      refine SP.imp (fun w2 h => St.seps h) ?_
      clear hc
      refine SP.nil ?_
      refine QE.then ?_
      refine CP.exit ?_
      refine QE.blockX rfl ?_
      refine QE.thru (by intro e; cases e) ?_
      refine QE.blockX rfl ?_
      refine QE.thru (by intro e; cases e) ?_
      refine QE.blockX rfl ?_
      refine QE.thru (by intro e; cases e) ?_
      refine QE.blockX rfl ?_
      refine QE.thru (by intro e; cases e) ?_
      refine QE.blockE ?_
      exact QE.meet fun a w2 ha hw => ⟨t106.1, t106.2, v107, v108, ho, ha.sub ⟨rfl, rfl, trivial⟩, (St.selO [2, 1, 0, 3] rfl rfl hw)⟩
    · refine CP.block ?_
      refine CP.seq ?_
      refine CP.block ?_
      refine CP.seq ?_
      refine CP.block ?_
      refine CP.seq ?_
      refine CP.block ?_
      refine CP.seq ?_
      refine CP.block ?_
      refine CP.join (fun a w2 => ∃ l87 : List Int, ∃ l90 : List Int, ∃ v88 : Value, ∃ v91 : Value, op_Of.j3 op_0 l87 l90 = some r ∧ Env ⟨66, []⟩ [(2, .pointer (some ⟨b1, 0, none⟩)), (4, .pointer (some ⟨b3, 0, none⟩))] a ∧ St w em hV [] [slO (kInt .u8) 5 v91 l90, slO (kInt .u8) 5 v88 l87, boxO b3 [v88, v91] 75, boxO b1 [(.slice none 0 0), (.slice none 0 0)] 75] w2) ?_ ?_
      · rintro a w2 ⟨l87, l90, v88, v91, ho, ha, hw⟩
        refine CP.app ha hw ?_
        clear ha hw a w2
        refine CP.seq ?_
        refine CP.region ?_
        refine SP.imp (fun w2 hw => St.selO [2, 1, 0, 3] rfl rfl hw) ?_
        refine SP.imp (fun w2 hw => St.group [boxO b3 [v88, v91] 75, slO (kInt .u8) 5 v88 l87, slO (kInt .u8) 5 v91 l90] hw) ?_
        obtain ⟨t92, hc, ho⟩ := bind_some (x := op_Shape_take_s2.f l87 l90 1) ho
        refine SP.callA see (caps := []) (X := HO.seps [boxO b3 [v88, v91] 75, slO (kInt .u8) 5 v88 l87, slO (kInt .u8) 5 v91 l90]) _ fn44 rfl rfl rfl rfl (fun w2 hP h1 sub s1 d1 ap hI => op_Shape_take_s2.ok l87 l90 1 v88 v91 _ hc w2 hP sub trivial trivial _ h1 s1 d1 hI) (fun vr => ?_)
        refine SP.have (fun w2 h => (St.pand h).1.symm) (fun er => ?_)
        subst er
        refine SP.imp (fun w2 h => St.seps (St.pand h).2) ?_
        refine SP.ex (fun w2 h => St.open h) (fun v93 => ?_)
        refine SP.ex (fun w2 h => St.open h) (fun v94 => ?_)
        refine SP.imp (fun w2 h => St.seps h) ?_
        clear hc
        refine SP.nil ?_
        refine QE.then ?_
        refine CP.exit ?_
        refine QE.blockX rfl ?_
        refine QE.thru (by intro e; cases e) ?_
        refine QE.blockX rfl ?_
        refine QE.thru (by intro e; cases e) ?_
        refine QE.blockX rfl ?_
        refine QE.thru (by intro e; cases e) ?_
        refine QE.blockX rfl ?_
        refine QE.thru (by intro e; cases e) ?_
        refine QE.blockX rfl ?_
        refine QE.thru (by intro e; cases e) ?_
        refine QE.blockX rfl ?_
        refine QE.thru (by intro e; cases e) ?_
        refine QE.blockX rfl ?_
        refine QE.thru (by intro e; cases e) ?_
        refine QE.blockX rfl ?_
        refine QE.thru (by intro e; cases e) ?_
        refine QE.blockX rfl ?_
        refine QE.thru (by intro e; cases e) ?_
        refine QE.blockE ?_
        exact QE.meet fun a w2 ha hw => ⟨t92.1, t92.2, v93, v94, ho, ha.sub ⟨rfl, rfl, trivial⟩, (St.selO [2, 1, 0, 3] rfl rfl hw)⟩
      · refine CP.block ?_
        refine CP.seq ?_
        refine CP.block ?_
        refine CP.seq ?_
        refine CP.block ?_
        refine CP.seq ?_
        refine CP.block ?_
        refine CP.seq ?_
        refine CP.seq ?_
        refine CP.join (fun a w2 => ∃ b5 : Bool, op_Of.j4 op_0 b5 = some r ∧ Env ⟨66, []⟩ [(2, .pointer (some ⟨b1, 0, none⟩)), (4, .pointer (some ⟨b3, 0, none⟩)), (5, .int .u8 op_0), (6, .bool b5)] a ∧ St w em hV [] [boxO b3 [(.slice none 0 0), (.slice none 0 0)] 75, boxO b1 [(.slice none 0 0), (.slice none 0 0)] 75] w2) ?_ ?_
        · rintro a w2 ⟨b5, ho, ha, hw⟩
          refine CP.app ha hw ?_
          clear ha hw a w2
          rcases if_some ho with ⟨hc, ho⟩ | ⟨hc, ho⟩
          · refine CP.condT rfl hc ?_
            refine CP.exit ?_
            refine QE.thru (by intro e; cases e) ?_
            refine QE.thru (by intro e; cases e) ?_
            refine QE.blockE ?_
            refine QE.then ?_
            refine CP.exit ?_
            refine QE.blockX rfl ?_
            refine QE.thru (by intro e; cases e) ?_
            refine QE.blockX rfl ?_
            refine QE.thru (by intro e; cases e) ?_
            refine QE.blockX rfl ?_
            refine QE.thru (by intro e; cases e) ?_
            refine QE.blockX rfl ?_
            refine QE.thru (by intro e; cases e) ?_
            refine QE.blockX rfl ?_
            refine QE.thru (by intro e; cases e) ?_
            refine QE.blockX rfl ?_
            refine QE.thru (by intro e; cases e) ?_
            refine QE.blockX rfl ?_
            refine QE.thru (by intro e; cases e) ?_
            refine QE.blockX rfl ?_
            refine QE.thru (by intro e; cases e) ?_
            refine QE.blockX rfl ?_
            refine QE.thru (by intro e; cases e) ?_
            refine QE.blockX rfl ?_
            refine QE.thru (by intro e; cases e) ?_
            refine QE.blockX rfl ?_
            refine QE.thru (by intro e; cases e) ?_
            refine QE.blockX rfl ?_
            refine QE.thru (by intro e; cases e) ?_
            refine QE.blockE ?_
            exact QE.meet fun a w2 ha hw => ⟨[], [], (.slice none 0 0), (.slice none 0 0), ho, ha.sub ⟨rfl, rfl, trivial⟩, (St.addO (slO.nil (kInt .u8) 5) (St.addO (slO.nil (kInt .u8) 5) hw))⟩
          · refine CP.condF rfl (bf hc) ?_
            refine CP.skip ?_
            refine QE.then ?_
            refine CP.seq ?_
            refine CP.seq ?_
            refine CP.region ?_
            refine SP.val (Val.eql rfl rfl) rfl rfl rfl ?_
            refine SP.val (Val.assign rfl) rfl rfl rfl ?_
            refine SP.nil ?_
            refine QE.then ?_
            rcases if_some ho with ⟨hc, ho⟩ | ⟨hc, ho⟩
            · refine CP.condT rfl (decide_eq_true hc) ?_
              refine CP.exit ?_
              refine QE.thru (by intro e; cases e) ?_
              refine QE.thru (by intro e; cases e) ?_
              refine QE.blockX rfl ?_
              refine QE.thru (by intro e; cases e) ?_
              refine QE.blockE ?_
              refine QE.then ?_
              refine CP.seq ?_
              refine CP.region ?_
              refine SP.imp (fun w2 hw => St.addO (slO.nil (kInt .u8) 5) hw) ?_
              refine SP.imp (fun w2 hw => St.addO (slO.nil (kInt .u8) 5) hw) ?_
              refine SP.imp (fun w2 hw => St.selO [2, 1, 0, 3] rfl rfl hw) ?_
              refine SP.imp (fun w2 hw => St.group [boxO b3 [(.slice none 0 0), (.slice none 0 0)] 75, slO (kInt .u8) 5 (.slice none 0 0) ([] : List Int), slO (kInt .u8) 5 (.slice none 0 0) ([] : List Int)] hw) ?_
              obtain ⟨t6, hc, ho⟩ := bind_some (x := op_Shape_take_s2.f ([] : List Int) ([] : List Int) 0) ho
              refine SP.callA see (caps := []) (X := HO.seps [boxO b3 [(.slice none 0 0), (.slice none 0 0)] 75, slO (kInt .u8) 5 (.slice none 0 0) ([] : List Int), slO (kInt .u8) 5 (.slice none 0 0) ([] : List Int)]) _ fn44 rfl rfl rfl rfl (fun w2 hP h1 sub s1 d1 ap hI => op_Shape_take_s2.ok ([] : List Int) ([] : List Int) 0 (.slice none 0 0) (.slice none 0 0) _ hc w2 hP sub trivial trivial _ h1 s1 d1 hI) (fun vr => ?_)
              refine SP.have (fun w2 h => (St.pand h).1.symm) (fun er => ?_)
              subst er
              refine SP.imp (fun w2 h => St.seps (St.pand h).2) ?_
              refine SP.ex (fun w2 h => St.open h) (fun v9 => ?_)
              refine SP.ex (fun w2 h => St.open h) (fun v10 => ?_)
              refine SP.imp (fun w2 h => St.seps h) ?_
              clear hc
              refine SP.nil ?_
              refine QE.then ?_
              refine CP.exit ?_
              refine QE.blockX rfl ?_
              refine QE.thru (by intro e; cases e) ?_
              refine QE.blockX rfl ?_
              refine QE.thru (by intro e; cases e) ?_
              refine QE.blockX rfl ?_
              refine QE.thru (by intro e; cases e) ?_
              refine QE.blockX rfl ?_
              refine QE.thru (by intro e; cases e) ?_
              refine QE.blockX rfl ?_
              refine QE.thru (by intro e; cases e) ?_
              refine QE.blockX rfl ?_
              refine QE.thru (by intro e; cases e) ?_
              refine QE.blockX rfl ?_
              refine QE.thru (by intro e; cases e) ?_
              refine QE.blockX rfl ?_
              refine QE.thru (by intro e; cases e) ?_
              refine QE.blockX rfl ?_
              refine QE.thru (by intro e; cases e) ?_
              refine QE.blockX rfl ?_
              refine QE.thru (by intro e; cases e) ?_
              refine QE.blockX rfl ?_
              refine QE.thru (by intro e; cases e) ?_
              refine QE.blockE ?_
              exact QE.meet fun a w2 ha hw => ⟨t6.1, t6.2, v9, v10, ho, ha.sub ⟨rfl, rfl, trivial⟩, (St.selO [2, 1, 0, 3] rfl rfl hw)⟩
            · refine CP.condF rfl (decide_eq_false hc) ?_
              refine CP.skip ?_
              refine QE.then ?_
              refine CP.seq ?_
              refine CP.seq ?_
              refine CP.region ?_
              refine SP.val (Val.eql rfl rfl) rfl rfl rfl ?_
              refine SP.val (Val.assign rfl) rfl rfl rfl ?_
              refine SP.nil ?_
              refine QE.then ?_
              rcases if_some ho with ⟨hc, ho⟩ | ⟨hc, ho⟩
              · refine CP.condT rfl (decide_eq_true hc) ?_
                refine CP.exit ?_
                refine QE.thru (by intro e; cases e) ?_
                refine QE.thru (by intro e; cases e) ?_
                refine QE.blockX rfl ?_
                refine QE.thru (by intro e; cases e) ?_
                refine QE.blockX rfl ?_
                refine QE.thru (by intro e; cases e) ?_
                refine QE.blockE ?_
                refine QE.then ?_
                refine CP.seq ?_
                refine CP.region ?_
                refine SP.imp (fun w2 hw => St.addO (slO.nil (kInt .u8) 5) hw) ?_
                refine SP.imp (fun w2 hw => St.addO (slO.nil (kInt .u8) 5) hw) ?_
                refine SP.imp (fun w2 hw => St.selO [2, 1, 0, 3] rfl rfl hw) ?_
                refine SP.imp (fun w2 hw => St.group [boxO b3 [(.slice none 0 0), (.slice none 0 0)] 75, slO (kInt .u8) 5 (.slice none 0 0) ([] : List Int), slO (kInt .u8) 5 (.slice none 0 0) ([] : List Int)] hw) ?_
                obtain ⟨t11, hc, ho⟩ := bind_some (x := op_Shape_take_s2.f ([] : List Int) ([] : List Int) 3) ho
                refine SP.callA see (caps := []) (X := HO.seps [boxO b3 [(.slice none 0 0), (.slice none 0 0)] 75, slO (kInt .u8) 5 (.slice none 0 0) ([] : List Int), slO (kInt .u8) 5 (.slice none 0 0) ([] : List Int)]) _ fn44 rfl rfl rfl rfl (fun w2 hP h1 sub s1 d1 ap hI => op_Shape_take_s2.ok ([] : List Int) ([] : List Int) 3 (.slice none 0 0) (.slice none 0 0) _ hc w2 hP sub trivial trivial _ h1 s1 d1 hI) (fun vr => ?_)
                refine SP.have (fun w2 h => (St.pand h).1.symm) (fun er => ?_)
                subst er
                refine SP.imp (fun w2 h => St.seps (St.pand h).2) ?_
                refine SP.ex (fun w2 h => St.open h) (fun v14 => ?_)
                refine SP.ex (fun w2 h => St.open h) (fun v15 => ?_)
                refine SP.imp (fun w2 h => St.seps h) ?_
                clear hc
                refine SP.nil ?_
                refine QE.then ?_
                refine CP.region ?_
                refine SP.imp (fun w2 hw => St.group [boxO b3 [v14, v15] 75, slO (kInt .u8) 5 v14 t11.1, slO (kInt .u8) 5 v15 t11.2] hw) ?_
                obtain ⟨t16, hc, ho⟩ := bind_some (x := op_Shape_take_s2.f t11.1 t11.2 1) ho
                refine SP.callA see (caps := []) (X := HO.seps [boxO b3 [v14, v15] 75, slO (kInt .u8) 5 v14 t11.1, slO (kInt .u8) 5 v15 t11.2]) _ fn44 rfl rfl rfl rfl (fun w2 hP h1 sub s1 d1 ap hI => op_Shape_take_s2.ok t11.1 t11.2 1 v14 v15 _ hc w2 hP sub trivial trivial _ h1 s1 d1 hI) (fun vr => ?_)
                refine SP.have (fun w2 h => (St.pand h).1.symm) (fun er => ?_)
                subst er
                refine SP.imp (fun w2 h => St.seps (St.pand h).2) ?_
                refine SP.ex (fun w2 h => St.open h) (fun v17 => ?_)
                refine SP.ex (fun w2 h => St.open h) (fun v18 => ?_)
                refine SP.imp (fun w2 h => St.seps h) ?_
                clear hc
                refine SP.nil ?_
                refine QE.blockN ?_
                exact QE.meet fun a w2 ha hw => ⟨t16.1, t16.2, v17, v18, ho, ha.sub ⟨rfl, rfl, trivial⟩, (St.selO [2, 1, 0, 3] rfl rfl hw)⟩
              · refine CP.condF rfl (decide_eq_false hc) ?_
                refine CP.skip ?_
                refine QE.then ?_
                refine CP.seq ?_
                refine CP.seq ?_
                refine CP.region ?_
                refine SP.val (Val.eql rfl rfl) rfl rfl rfl ?_
                refine SP.val (Val.assign rfl) rfl rfl rfl ?_
                refine SP.nil ?_
                refine QE.then ?_
                rcases if_some ho with ⟨hc, ho⟩ | ⟨hc, ho⟩
                · refine CP.condT rfl (decide_eq_true hc) ?_
                  refine CP.exit ?_
                  refine QE.thru (by intro e; cases e) ?_
                  refine QE.thru (by intro e; cases e) ?_
                  refine QE.blockX rfl ?_
                  refine QE.thru (by intro e; cases e) ?_
                  refine QE.blockX rfl ?_
                  refine QE.thru (by intro e; cases e) ?_
                  refine QE.blockX rfl ?_
                  refine QE.thru (by intro e; cases e) ?_
                  refine QE.blockE ?_
                  exact QE.meet fun a w2 ha hw => ⟨[], [], (.slice none 0 0), (.slice none 0 0), ho, ha.sub ⟨rfl, rfl, trivial⟩, (St.addO (slO.nil (kInt .u8) 5) (St.addO (slO.nil (kInt .u8) 5) hw))⟩
                · refine CP.condF rfl (decide_eq_false hc) ?_
                  refine CP.skip ?_
                  refine QE.then ?_
                  refine CP.seq ?_
                  refine CP.join (fun a w2 => ∃ b19 : Bool, op_Of.j5 op_0 b19 = some r ∧ Env ⟨66, []⟩ [(2, .pointer (some ⟨b1, 0, none⟩)), (4, .pointer (some ⟨b3, 0, none⟩)), (5, .int .u8 op_0), (18, .bool b19)] a ∧ St w em hV [] [boxO b3 [(.slice none 0 0), (.slice none 0 0)] 75, boxO b1 [(.slice none 0 0), (.slice none 0 0)] 75] w2) ?_ ?_
                  · rintro a w2 ⟨b19, ho, ha, hw⟩
                    refine CP.app ha hw ?_
                    clear ha hw a w2
                    rcases if_some ho with ⟨hc, ho⟩ | ⟨hc, ho⟩
                    · refine CP.condT rfl hc ?_
                      refine CP.exit ?_
                      refine QE.thru (by intro e; cases e) ?_
                      refine QE.thru (by intro e; cases e) ?_
                      refine QE.blockX rfl ?_
                      refine QE.thru (by intro e; cases e) ?_
                      refine QE.blockX rfl ?_
                      refine QE.thru (by intro e; cases e) ?_
                      refine QE.blockX rfl ?_
                      refine QE.thru (by intro e; cases e) ?_
                      refine QE.blockX rfl ?_
                      refine QE.thru (by intro e; cases e) ?_
                      refine QE.blockE ?_
                      refine QE.then ?_
                      refine CP.seq ?_
                      refine CP.seq ?_
                      refine CP.region ?_
                      refine SP.imp (fun w2 hw => St.addO (slO.nil (kInt .u8) 5) hw) ?_
                      refine SP.imp (fun w2 hw => St.addO (slO.nil (kInt .u8) 5) hw) ?_
                      refine SP.imp (fun w2 hw => St.selO [2, 1, 0, 3] rfl rfl hw) ?_
                      refine SP.imp (fun w2 hw => St.group [boxO b3 [(.slice none 0 0), (.slice none 0 0)] 75, slO (kInt .u8) 5 (.slice none 0 0) ([] : List Int), slO (kInt .u8) 5 (.slice none 0 0) ([] : List Int)] hw) ?_
                      obtain ⟨t20, hc, ho⟩ := bind_some (x := op_Shape_give_s2.f ([] : List Int) ([] : List Int) 1) ho
                      refine SP.callA see (caps := []) (X := HO.seps [boxO b3 [(.slice none 0 0), (.slice none 0 0)] 75, slO (kInt .u8) 5 (.slice none 0 0) ([] : List Int), slO (kInt .u8) 5 (.slice none 0 0) ([] : List Int)]) _ fn45 rfl rfl rfl rfl (fun w2 hP h1 sub s1 d1 ap hI => op_Shape_give_s2.ok ([] : List Int) ([] : List Int) 1 (.slice none 0 0) (.slice none 0 0) _ hc w2 hP sub trivial trivial _ h1 s1 d1 hI) (fun vr => ?_)
                      refine SP.have (fun w2 h => (St.pand h).1.symm) (fun er => ?_)
                      subst er
                      refine SP.imp (fun w2 h => St.seps (St.pand h).2) ?_
                      refine SP.ex (fun w2 h => St.open h) (fun v23 => ?_)
                      refine SP.ex (fun w2 h => St.open h) (fun v24 => ?_)
                      refine SP.imp (fun w2 h => St.seps h) ?_
                      clear hc
                      refine SP.nil ?_
                      refine QE.then ?_
                      refine CP.seq ?_
                      refine CP.region ?_
                      refine SP.imp (fun w2 hw => St.group [boxO b3 [v23, v24] 75, slO (kInt .u8) 5 v23 t20.1, slO (kInt .u8) 5 v24 t20.2] hw) ?_
                      obtain ⟨t25, hc, ho⟩ := bind_some (x := op_Shape_take_s2.f t20.1 t20.2 1) ho
                      refine SP.callA see (caps := []) (X := HO.seps [boxO b3 [v23, v24] 75, slO (kInt .u8) 5 v23 t20.1, slO (kInt .u8) 5 v24 t20.2]) _ fn44 rfl rfl rfl rfl (fun w2 hP h1 sub s1 d1 ap hI => op_Shape_take_s2.ok t20.1 t20.2 1 v23 v24 _ hc w2 hP sub trivial trivial _ h1 s1 d1 hI) (fun vr => ?_)
                      refine SP.have (fun w2 h => (St.pand h).1.symm) (fun er => ?_)
                      subst er
                      refine SP.imp (fun w2 h => St.seps (St.pand h).2) ?_
                      refine SP.ex (fun w2 h => St.open h) (fun v26 => ?_)
                      refine SP.ex (fun w2 h => St.open h) (fun v27 => ?_)
                      refine SP.imp (fun w2 h => St.seps h) ?_
                      clear hc
                      refine SP.nil ?_
                      refine QE.then ?_
                      refine CP.region ?_
                      refine SP.imp (fun w2 hw => St.group [boxO b3 [v26, v27] 75, slO (kInt .u8) 5 v26 t25.1, slO (kInt .u8) 5 v27 t25.2] hw) ?_
                      obtain ⟨t28, hc, ho⟩ := bind_some (x := op_Shape_take_s2.f t25.1 t25.2 1) ho
                      refine SP.callA see (caps := []) (X := HO.seps [boxO b3 [v26, v27] 75, slO (kInt .u8) 5 v26 t25.1, slO (kInt .u8) 5 v27 t25.2]) _ fn44 rfl rfl rfl rfl (fun w2 hP h1 sub s1 d1 ap hI => op_Shape_take_s2.ok t25.1 t25.2 1 v26 v27 _ hc w2 hP sub trivial trivial _ h1 s1 d1 hI) (fun vr => ?_)
                      refine SP.have (fun w2 h => (St.pand h).1.symm) (fun er => ?_)
                      subst er
                      refine SP.imp (fun w2 h => St.seps (St.pand h).2) ?_
                      refine SP.ex (fun w2 h => St.open h) (fun v29 => ?_)
                      refine SP.ex (fun w2 h => St.open h) (fun v30 => ?_)
                      refine SP.imp (fun w2 h => St.seps h) ?_
                      clear hc
                      refine SP.nil ?_
                      refine QE.then ?_
                      refine CP.exit ?_
                      refine QE.blockX rfl ?_
                      refine QE.thru (by intro e; cases e) ?_
                      refine QE.blockX rfl ?_
                      refine QE.thru (by intro e; cases e) ?_
                      refine QE.blockX rfl ?_
                      refine QE.thru (by intro e; cases e) ?_
                      refine QE.blockX rfl ?_
                      refine QE.thru (by intro e; cases e) ?_
                      refine QE.blockX rfl ?_
                      refine QE.thru (by intro e; cases e) ?_
                      refine QE.blockX rfl ?_
                      refine QE.thru (by intro e; cases e) ?_
                      refine QE.blockX rfl ?_
                      refine QE.thru (by intro e; cases e) ?_
                      refine QE.blockX rfl ?_
                      refine QE.thru (by intro e; cases e) ?_
                      refine QE.blockE ?_
                      exact QE.meet fun a w2 ha hw => ⟨t28.1, t28.2, v29, v30, ho, ha.sub ⟨rfl, rfl, trivial⟩, (St.selO [2, 1, 0, 3] rfl rfl hw)⟩
                    · refine CP.condF rfl (bf hc) ?_
                      refine CP.skip ?_
                      refine QE.then ?_
                      refine CP.seq ?_
                      refine CP.seq ?_
                      refine CP.region ?_
                      refine SP.val (Val.eql rfl rfl) rfl rfl rfl ?_
                      refine SP.val (Val.assign rfl) rfl rfl rfl ?_
                      refine SP.nil ?_
                      refine QE.then ?_
                      rcases if_some ho with ⟨hc, ho⟩ | ⟨hc, ho⟩
                      · refine CP.condT rfl (decide_eq_true hc) ?_
                        refine CP.exit ?_
                        refine QE.thru (by intro e; cases e) ?_
                        refine QE.thru (by intro e; cases e) ?_
                        refine QE.blockX rfl ?_
                        refine QE.thru (by intro e; cases e) ?_
                        refine QE.blockX rfl ?_
                        refine QE.thru (by intro e; cases e) ?_
                        refine QE.blockX rfl ?_
                        refine QE.thru (by intro e; cases e) ?_
                        refine QE.blockX rfl ?_
                        refine QE.thru (by intro e; cases e) ?_
                        refine QE.blockX rfl ?_
                        refine QE.thru (by intro e; cases e) ?_
                        refine QE.blockE ?_
                        refine QE.then ?_
                        refine CP.seq ?_
                        refine CP.seq ?_
                        refine CP.region ?_
                        refine SP.imp (fun w2 hw => St.addO (slO.nil (kInt .u8) 5) hw) ?_
                        refine SP.imp (fun w2 hw => St.addO (slO.nil (kInt .u8) 5) hw) ?_
                        refine SP.imp (fun w2 hw => St.selO [2, 1, 0, 3] rfl rfl hw) ?_
                        refine SP.imp (fun w2 hw => St.group [boxO b3 [(.slice none 0 0), (.slice none 0 0)] 75, slO (kInt .u8) 5 (.slice none 0 0) ([] : List Int), slO (kInt .u8) 5 (.slice none 0 0) ([] : List Int)] hw) ?_
                        obtain ⟨t31, hc, ho⟩ := bind_some (x := op_Shape_give_s2.f ([] : List Int) ([] : List Int) 2) ho
                        refine SP.callA see (caps := []) (X := HO.seps [boxO b3 [(.slice none 0 0), (.slice none 0 0)] 75, slO (kInt .u8) 5 (.slice none 0 0) ([] : List Int), slO (kInt .u8) 5 (.slice none 0 0) ([] : List Int)]) _ fn45 rfl rfl rfl rfl (fun w2 hP h1 sub s1 d1 ap hI => op_Shape_give_s2.ok ([] : List Int) ([] : List Int) 2 (.slice none 0 0) (.slice none 0 0) _ hc w2 hP sub trivial trivial _ h1 s1 d1 hI) (fun vr => ?_)
                        refine SP.have (fun w2 h => (St.pand h).1.symm) (fun er => ?_)
                        subst er
                        refine SP.imp (fun w2 h => St.seps (St.pand h).2) ?_
                        refine SP.ex (fun w2 h => St.open h) (fun v34 => ?_)
                        refine SP.ex (fun w2 h => St.open h) (fun v35 => ?_)
                        refine SP.imp (fun w2 h => St.seps h) ?_
                        clear hc
                        refine SP.nil ?_
                        refine QE.then ?_
                        refine CP.seq ?_
                        refine CP.region ?_
                        refine SP.imp (fun w2 hw => St.group [boxO b3 [v34, v35] 75, slO (kInt .u8) 5 v34 t31.1, slO (kInt .u8) 5 v35 t31.2] hw) ?_
                        obtain ⟨t36, hc, ho⟩ := bind_some (x := op_Shape_take_s2.f t31.1 t31.2 1) ho
                        refine SP.callA see (caps := []) (X := HO.seps [boxO b3 [v34, v35] 75, slO (kInt .u8) 5 v34 t31.1, slO (kInt .u8) 5 v35 t31.2]) _ fn44 rfl rfl rfl rfl (fun w2 hP h1 sub s1 d1 ap hI => op_Shape_take_s2.ok t31.1 t31.2 1 v34 v35 _ hc w2 hP sub trivial trivial _ h1 s1 d1 hI) (fun vr => ?_)
                        refine SP.have (fun w2 h => (St.pand h).1.symm) (fun er => ?_)
                        subst er
                        refine SP.imp (fun w2 h => St.seps (St.pand h).2) ?_
                        refine SP.ex (fun w2 h => St.open h) (fun v37 => ?_)
                        refine SP.ex (fun w2 h => St.open h) (fun v38 => ?_)
                        refine SP.imp (fun w2 h => St.seps h) ?_
                        clear hc
                        refine SP.nil ?_
                        refine QE.then ?_
                        refine CP.region ?_
                        refine SP.imp (fun w2 hw => St.group [boxO b3 [v37, v38] 75, slO (kInt .u8) 5 v37 t36.1, slO (kInt .u8) 5 v38 t36.2] hw) ?_
                        obtain ⟨t39, hc, ho⟩ := bind_some (x := op_Shape_take_s2.f t36.1 t36.2 1) ho
                        refine SP.callA see (caps := []) (X := HO.seps [boxO b3 [v37, v38] 75, slO (kInt .u8) 5 v37 t36.1, slO (kInt .u8) 5 v38 t36.2]) _ fn44 rfl rfl rfl rfl (fun w2 hP h1 sub s1 d1 ap hI => op_Shape_take_s2.ok t36.1 t36.2 1 v37 v38 _ hc w2 hP sub trivial trivial _ h1 s1 d1 hI) (fun vr => ?_)
                        refine SP.have (fun w2 h => (St.pand h).1.symm) (fun er => ?_)
                        subst er
                        refine SP.imp (fun w2 h => St.seps (St.pand h).2) ?_
                        refine SP.ex (fun w2 h => St.open h) (fun v40 => ?_)
                        refine SP.ex (fun w2 h => St.open h) (fun v41 => ?_)
                        refine SP.imp (fun w2 h => St.seps h) ?_
                        clear hc
                        refine SP.nil ?_
                        refine QE.then ?_
                        refine CP.exit ?_
                        refine QE.blockX rfl ?_
                        refine QE.thru (by intro e; cases e) ?_
                        refine QE.blockX rfl ?_
                        refine QE.thru (by intro e; cases e) ?_
                        refine QE.blockX rfl ?_
                        refine QE.thru (by intro e; cases e) ?_
                        refine QE.blockX rfl ?_
                        refine QE.thru (by intro e; cases e) ?_
                        refine QE.blockX rfl ?_
                        refine QE.thru (by intro e; cases e) ?_
                        refine QE.blockX rfl ?_
                        refine QE.thru (by intro e; cases e) ?_
                        refine QE.blockX rfl ?_
                        refine QE.thru (by intro e; cases e) ?_
                        refine QE.blockE ?_
                        exact QE.meet fun a w2 ha hw => ⟨t39.1, t39.2, v40, v41, ho, ha.sub ⟨rfl, rfl, trivial⟩, (St.selO [2, 1, 0, 3] rfl rfl hw)⟩
                      · refine CP.condF rfl (decide_eq_false hc) ?_
                        refine CP.skip ?_
                        refine QE.then ?_
                        refine CP.seq ?_
                        refine CP.join (fun a w2 => ∃ b42 : Bool, op_Of.j6 op_0 b42 = some r ∧ Env ⟨66, []⟩ [(2, .pointer (some ⟨b1, 0, none⟩)), (4, .pointer (some ⟨b3, 0, none⟩)), (5, .int .u8 op_0), (28, .bool b42)] a ∧ St w em hV [] [boxO b3 [(.slice none 0 0), (.slice none 0 0)] 75, boxO b1 [(.slice none 0 0), (.slice none 0 0)] 75] w2) ?_ ?_
                        · rintro a w2 ⟨b42, ho, ha, hw⟩
                          refine CP.app ha hw ?_
                          clear ha hw a w2
                          rcases if_some ho with ⟨hc, ho⟩ | ⟨hc, ho⟩
                          · refine CP.condT rfl hc ?_
                            refine CP.exit ?_
                            refine QE.thru (by intro e; cases e) ?_
                            refine QE.thru (by intro e; cases e) ?_
                            refine QE.blockX rfl ?_
                            refine QE.thru (by intro e; cases e) ?_
                            refine QE.blockX rfl ?_
                            refine QE.thru (by intro e; cases e) ?_
                            refine QE.blockX rfl ?_
                            refine QE.thru (by intro e; cases e) ?_
                            refine QE.blockX rfl ?_
                            refine QE.thru (by intro e; cases e) ?_
                            refine QE.blockX rfl ?_
                            refine QE.thru (by intro e; cases e) ?_
                            refine QE.blockX rfl ?_
                            refine QE.thru (by intro e; cases e) ?_
                            refine QE.blockE ?_
                            refine QE.then ?_
                            refine CP.seq ?_
                            refine CP.seq ?_
                            refine CP.region ?_
                            refine SP.imp (fun w2 hw => St.addO (slO.nil (kInt .u8) 5) hw) ?_
                            refine SP.imp (fun w2 hw => St.addO (slO.nil (kInt .u8) 5) hw) ?_
                            refine SP.imp (fun w2 hw => St.selO [2, 1, 0, 3] rfl rfl hw) ?_
                            refine SP.imp (fun w2 hw => St.group [boxO b3 [(.slice none 0 0), (.slice none 0 0)] 75, slO (kInt .u8) 5 (.slice none 0 0) ([] : List Int), slO (kInt .u8) 5 (.slice none 0 0) ([] : List Int)] hw) ?_
                            obtain ⟨t43, hc, ho⟩ := bind_some (x := op_Shape_give_s2.f ([] : List Int) ([] : List Int) 1) ho
                            refine SP.callA see (caps := []) (X := HO.seps [boxO b3 [(.slice none 0 0), (.slice none 0 0)] 75, slO (kInt .u8) 5 (.slice none 0 0) ([] : List Int), slO (kInt .u8) 5 (.slice none 0 0) ([] : List Int)]) _ fn45 rfl rfl rfl rfl (fun w2 hP h1 sub s1 d1 ap hI => op_Shape_give_s2.ok ([] : List Int) ([] : List Int) 1 (.slice none 0 0) (.slice none 0 0) _ hc w2 hP sub trivial trivial _ h1 s1 d1 hI) (fun vr => ?_)
                            refine SP.have (fun w2 h => (St.pand h).1.symm) (fun er => ?_)
                            subst er
                            refine SP.imp (fun w2 h => St.seps (St.pand h).2) ?_
                            refine SP.ex (fun w2 h => St.open h) (fun v46 => ?_)
                            refine SP.ex (fun w2 h => St.open h) (fun v47 => ?_)
                            refine SP.imp (fun w2 h => St.seps h) ?_
                            clear hc
                            refine SP.nil ?_
                            refine QE.then ?_
                            refine CP.region ?_
                            refine SP.imp (fun w2 hw => St.group [boxO b3 [v46, v47] 75, slO (kInt .u8) 5 v46 t43.1, slO (kInt .u8) 5 v47 t43.2] hw) ?_
                            obtain ⟨t48, hc, ho⟩ := bind_some (x := op_Shape_take_s2.f t43.1 t43.2 2) ho
                            refine SP.callA see (caps := []) (X := HO.seps [boxO b3 [v46, v47] 75, slO (kInt .u8) 5 v46 t43.1, slO (kInt .u8) 5 v47 t43.2]) _ fn44 rfl rfl rfl rfl (fun w2 hP h1 sub s1 d1 ap hI => op_Shape_take_s2.ok t43.1 t43.2 2 v46 v47 _ hc w2 hP sub trivial trivial _ h1 s1 d1 hI) (fun vr => ?_)
                            refine SP.have (fun w2 h => (St.pand h).1.symm) (fun er => ?_)
                            subst er
                            refine SP.imp (fun w2 h => St.seps (St.pand h).2) ?_
                            refine SP.ex (fun w2 h => St.open h) (fun v49 => ?_)
                            refine SP.ex (fun w2 h => St.open h) (fun v50 => ?_)
                            refine SP.imp (fun w2 h => St.seps h) ?_
                            clear hc
                            refine SP.nil ?_
                            refine QE.then ?_
                            refine CP.exit ?_
                            refine QE.blockX rfl ?_
                            refine QE.thru (by intro e; cases e) ?_
                            refine QE.blockX rfl ?_
                            refine QE.thru (by intro e; cases e) ?_
                            refine QE.blockX rfl ?_
                            refine QE.thru (by intro e; cases e) ?_
                            refine QE.blockX rfl ?_
                            refine QE.thru (by intro e; cases e) ?_
                            refine QE.blockX rfl ?_
                            refine QE.thru (by intro e; cases e) ?_
                            refine QE.blockX rfl ?_
                            refine QE.thru (by intro e; cases e) ?_
                            refine QE.blockE ?_
                            exact QE.meet fun a w2 ha hw => ⟨t48.1, t48.2, v49, v50, ho, ha.sub ⟨rfl, rfl, trivial⟩, (St.selO [2, 1, 0, 3] rfl rfl hw)⟩
                          · refine CP.condF rfl (bf hc) ?_
                            refine CP.skip ?_
                            refine QE.then ?_
                            refine CP.seq ?_
                            refine CP.join (fun a w2 => ∃ b51 : Bool, op_Of.j7 op_0 b51 = some r ∧ Env ⟨66, []⟩ [(2, .pointer (some ⟨b1, 0, none⟩)), (4, .pointer (some ⟨b3, 0, none⟩)), (5, .int .u8 op_0), (31, .bool b51)] a ∧ St w em hV [] [boxO b3 [(.slice none 0 0), (.slice none 0 0)] 75, boxO b1 [(.slice none 0 0), (.slice none 0 0)] 75] w2) ?_ ?_
                            · rintro a w2 ⟨b51, ho, ha, hw⟩
                              refine CP.app ha hw ?_
                              clear ha hw a w2
                              rcases if_some ho with ⟨hc, ho⟩ | ⟨hc, ho⟩
                              · refine CP.condT rfl hc ?_
                                refine CP.exit ?_
                                refine QE.thru (by intro e; cases e) ?_
                                refine QE.thru (by intro e; cases e) ?_
                                refine QE.blockX rfl ?_
                                refine QE.thru (by intro e; cases e) ?_
                                refine QE.blockX rfl ?_
                                refine QE.thru (by intro e; cases e) ?_
                                refine QE.blockX rfl ?_
                                refine QE.thru (by intro e; cases e) ?_
                                refine QE.blockX rfl ?_
                                refine QE.thru (by intro e; cases e) ?_
                                refine QE.blockX rfl ?_
                                refine QE.thru (by intro e; cases e) ?_
                                refine QE.blockX rfl ?_
                                refine QE.thru (by intro e; cases e) ?_
                                refine QE.blockX rfl ?_
                                refine QE.thru (by intro e; cases e) ?_
                                refine QE.blockE ?_
                                refine QE.then ?_
                                refine CP.region ?_
                                refine SP.imp (fun w2 hw => St.addO (slO.nil (kInt .u8) 5) hw) ?_
                                refine SP.imp (fun w2 hw => St.addO (slO.nil (kInt .u8) 5) hw) ?_
                                refine SP.imp (fun w2 hw => St.selO [2, 1, 0, 3] rfl rfl hw) ?_
                                refine SP.imp (fun w2 hw => St.group [boxO b3 [(.slice none 0 0), (.slice none 0 0)] 75, slO (kInt .u8) 5 (.slice none 0 0) ([] : List Int), slO (kInt .u8) 5 (.slice none 0 0) ([] : List Int)] hw) ?_
                                obtain ⟨t52, hc, ho⟩ := bind_some (x := op_Shape_take_s2.f ([] : List Int) ([] : List Int) 2) ho
                                refine SP.callA see (caps := []) (X := HO.seps [boxO b3 [(.slice none 0 0), (.slice none 0 0)] 75, slO (kInt .u8) 5 (.slice none 0 0) ([] : List Int), slO (kInt .u8) 5 (.slice none 0 0) ([] : List Int)]) _ fn44 rfl rfl rfl rfl (fun w2 hP h1 sub s1 d1 ap hI => op_Shape_take_s2.ok ([] : List Int) ([] : List Int) 2 (.slice none 0 0) (.slice none 0 0) _ hc w2 hP sub trivial trivial _ h1 s1 d1 hI) (fun vr => ?_)
                                refine SP.have (fun w2 h => (St.pand h).1.symm) (fun er => ?_)
                                subst er
                                refine SP.imp (fun w2 h => St.seps (St.pand h).2) ?_
                                refine SP.ex (fun w2 h => St.open h) (fun v55 => ?_)
                                refine SP.ex (fun w2 h => St.open h) (fun v56 => ?_)
                                refine SP.imp (fun w2 h => St.seps h) ?_
                                clear hc
                                refine SP.nil ?_
                                refine QE.blockN ?_
                                exact QE.meet fun a w2 ha hw => ⟨t52.1, t52.2, v55, v56, ho, ha.sub ⟨rfl, rfl, trivial⟩, (St.selO [2, 1, 0, 3] rfl rfl hw)⟩
                              · refine CP.condF rfl (bf hc) ?_
                                refine CP.skip ?_
                                refine QE.then ?_
                                refine CP.seq ?_
                                refine CP.seq ?_
                                refine CP.region ?_
                                refine SP.val (Val.eql rfl rfl) rfl rfl rfl ?_
                                refine SP.val (Val.assign rfl) rfl rfl rfl ?_
                                refine SP.nil ?_
                                refine QE.then ?_
                                rcases if_some ho with ⟨hc, ho⟩ | ⟨hc, ho⟩
                                · refine CP.condT rfl (decide_eq_true hc) ?_
                                  refine CP.exit ?_
                                  refine QE.thru (by intro e; cases e) ?_
                                  refine QE.thru (by intro e; cases e) ?_
                                  refine QE.blockX rfl ?_
                                  refine QE.thru (by intro e; cases e) ?_
                                  refine QE.blockX rfl ?_
                                  refine QE.thru (by intro e; cases e) ?_
                                  refine QE.blockX rfl ?_
                                  refine QE.thru (by intro e; cases e) ?_
                                  refine QE.blockX rfl ?_
                                  refine QE.thru (by intro e; cases e) ?_
                                  refine QE.blockX rfl ?_
                                  refine QE.thru (by intro e; cases e) ?_
                                  refine QE.blockX rfl ?_
                                  refine QE.thru (by intro e; cases e) ?_
                                  refine QE.blockX rfl ?_
                                  refine QE.thru (by intro e; cases e) ?_
                                  refine QE.blockX rfl ?_
                                  refine QE.thru (by intro e; cases e) ?_
                                  refine QE.blockE ?_
                                  exact QE.meet fun a w2 ha hw => ⟨[], [], (.slice none 0 0), (.slice none 0 0), ho, ha.sub ⟨rfl, rfl, trivial⟩, (St.addO (slO.nil (kInt .u8) 5) (St.addO (slO.nil (kInt .u8) 5) hw))⟩
                                · refine CP.condF rfl (decide_eq_false hc) ?_
                                  refine CP.skip ?_
                                  refine QE.then ?_
                                  refine CP.seq ?_
                                  refine CP.seq ?_
                                  refine CP.region ?_
                                  refine SP.val (Val.eql rfl rfl) rfl rfl rfl ?_
                                  refine SP.val (Val.assign rfl) rfl rfl rfl ?_
                                  refine SP.nil ?_
                                  refine QE.then ?_
                                  rcases if_some ho with ⟨hc, ho⟩ | ⟨hc, ho⟩
                                  · refine CP.condT rfl (decide_eq_true hc) ?_
                                    refine CP.exit ?_
                                    refine QE.thru (by intro e; cases e) ?_
                                    refine QE.thru (by intro e; cases e) ?_
                                    refine QE.blockX rfl ?_
                                    refine QE.thru (by intro e; cases e) ?_
                                    refine QE.blockX rfl ?_
                                    refine QE.thru (by intro e; cases e) ?_
                                    refine QE.blockX rfl ?_
                                    refine QE.thru (by intro e; cases e) ?_
                                    refine QE.blockX rfl ?_
                                    refine QE.thru (by intro e; cases e) ?_
                                    refine QE.blockX rfl ?_
                                    refine QE.thru (by intro e; cases e) ?_
                                    refine QE.blockX rfl ?_
                                    refine QE.thru (by intro e; cases e) ?_
                                    refine QE.blockX rfl ?_
                                    refine QE.thru (by intro e; cases e) ?_
                                    refine QE.blockX rfl ?_
                                    refine QE.thru (by intro e; cases e) ?_
                                    refine QE.blockX rfl ?_
                                    refine QE.thru (by intro e; cases e) ?_
                                    refine QE.blockE ?_
                                    refine QE.then ?_
                                    refine CP.seq ?_
                                    refine CP.seq ?_
                                    refine CP.region ?_
                                    refine SP.imp (fun w2 hw => St.addO (slO.nil (kInt .u8) 5) hw) ?_
                                    refine SP.imp (fun w2 hw => St.addO (slO.nil (kInt .u8) 5) hw) ?_
                                    refine SP.imp (fun w2 hw => St.selO [2, 1, 0, 3] rfl rfl hw) ?_
                                    refine SP.imp (fun w2 hw => St.group [boxO b3 [(.slice none 0 0), (.slice none 0 0)] 75, slO (kInt .u8) 5 (.slice none 0 0) ([] : List Int), slO (kInt .u8) 5 (.slice none 0 0) ([] : List Int)] hw) ?_
                                    obtain ⟨t57, hc, ho⟩ := bind_some (x := op_Shape_take_s2.f ([] : List Int) ([] : List Int) 1) ho
                                    refine SP.callA see (caps := []) (X := HO.seps [boxO b3 [(.slice none 0 0), (.slice none 0 0)] 75, slO (kInt .u8) 5 (.slice none 0 0) ([] : List Int), slO (kInt .u8) 5 (.slice none 0 0) ([] : List Int)]) _ fn44 rfl rfl rfl rfl (fun w2 hP h1 sub s1 d1 ap hI => op_Shape_take_s2.ok ([] : List Int) ([] : List Int) 1 (.slice none 0 0) (.slice none 0 0) _ hc w2 hP sub trivial trivial _ h1 s1 d1 hI) (fun vr => ?_)
                                    refine SP.have (fun w2 h => (St.pand h).1.symm) (fun er => ?_)
                                    subst er
                                    refine SP.imp (fun w2 h => St.seps (St.pand h).2) ?_
                                    refine SP.ex (fun w2 h => St.open h) (fun v60 => ?_)
                                    refine SP.ex (fun w2 h => St.open h) (fun v61 => ?_)
                                    refine SP.imp (fun w2 h => St.seps h) ?_
                                    clear hc
                                    refine SP.nil ?_
                                    refine QE.then ?_
                                    refine CP.region ?_
                                    refine SP.imp (fun w2 hw => St.group [boxO b3 [v60, v61] 75, slO (kInt .u8) 5 v60 t57.1, slO (kInt .u8) 5 v61 t57.2] hw) ?_
                                    obtain ⟨t62, hc, ho⟩ := bind_some (x := op_Shape_give_s2.f t57.1 t57.2 3) ho
                                    refine SP.callA see (caps := []) (X := HO.seps [boxO b3 [v60, v61] 75, slO (kInt .u8) 5 v60 t57.1, slO (kInt .u8) 5 v61 t57.2]) _ fn45 rfl rfl rfl rfl (fun w2 hP h1 sub s1 d1 ap hI => op_Shape_give_s2.ok t57.1 t57.2 3 v60 v61 _ hc w2 hP sub trivial trivial _ h1 s1 d1 hI) (fun vr => ?_)
                                    refine SP.have (fun w2 h => (St.pand h).1.symm) (fun er => ?_)
                                    subst er
                                    refine SP.imp (fun w2 h => St.seps (St.pand h).2) ?_
                                    refine SP.ex (fun w2 h => St.open h) (fun v63 => ?_)
                                    refine SP.ex (fun w2 h => St.open h) (fun v64 => ?_)
                                    refine SP.imp (fun w2 h => St.seps h) ?_
                                    clear hc
                                    refine SP.nil ?_
                                    refine QE.then ?_
                                    refine CP.exit ?_
                                    refine QE.blockX rfl ?_
                                    refine QE.thru (by intro e; cases e) ?_
                                    refine QE.blockX rfl ?_
                                    refine QE.thru (by intro e; cases e) ?_
                                    refine QE.blockX rfl ?_
                                    refine QE.thru (by intro e; cases e) ?_
                                    refine QE.blockE ?_
                                    exact QE.meet fun a w2 ha hw => ⟨t62.1, t62.2, v63, v64, ho, ha.sub ⟨rfl, rfl, trivial⟩, (St.selO [2, 1, 0, 3] rfl rfl hw)⟩
                                  · refine CP.condF rfl (decide_eq_false hc) ?_
                                    refine CP.skip ?_
                                    refine QE.then ?_
                                    refine CP.seq ?_
                                    refine CP.seq ?_
                                    refine CP.region ?_
                                    refine SP.val (Val.eql rfl rfl) rfl rfl rfl ?_
                                    refine SP.val (Val.assign rfl) rfl rfl rfl ?_
                                    refine SP.nil ?_
                                    refine QE.then ?_
                                    rcases if_some ho with ⟨hc, ho⟩ | ⟨hc, ho⟩
                                    · refine CP.condT rfl (decide_eq_true hc) ?_
                                      refine CP.exit ?_
                                      refine QE.thru (by intro e; cases e) ?_
                                      refine QE.thru (by intro e; cases e) ?_
                                      refine QE.blockX rfl ?_
                                      refine QE.thru (by intro e; cases e) ?_
                                      refine QE.blockX rfl ?_
                                      refine QE.thru (by intro e; cases e) ?_
                                      refine QE.blockX rfl ?_
                                      refine QE.thru (by intro e; cases e) ?_
                                      refine QE.blockX rfl ?_
                                      refine QE.thru (by intro e; cases e) ?_
                                      refine QE.blockX rfl ?_
                                      refine QE.thru (by intro e; cases e) ?_
                                      refine QE.blockX rfl ?_
                                      refine QE.thru (by intro e; cases e) ?_
                                      refine QE.blockX rfl ?_
                                      refine QE.thru (by intro e; cases e) ?_
                                      refine QE.blockX rfl ?_
                                      refine QE.thru (by intro e; cases e) ?_
                                      refine QE.blockX rfl ?_
                                      refine QE.thru (by intro e; cases e) ?_
                                      refine QE.blockX rfl ?_
                                      refine QE.thru (by intro e; cases e) ?_
                                      refine QE.blockE ?_
                                      refine QE.then ?_
                                      refine CP.seq ?_
                                      refine CP.seq ?_
                                      refine CP.region ?_
                                      refine SP.imp (fun w2 hw => St.addO (slO.nil (kInt .u8) 5) hw) ?_
                                      refine SP.imp (fun w2 hw => St.addO (slO.nil (kInt .u8) 5) hw) ?_
                                      refine SP.imp (fun w2 hw => St.selO [2, 1, 0, 3] rfl rfl hw) ?_
                                      refine SP.imp (fun w2 hw => St.group [boxO b3 [(.slice none 0 0), (.slice none 0 0)] 75, slO (kInt .u8) 5 (.slice none 0 0) ([] : List Int), slO (kInt .u8) 5 (.slice none 0 0) ([] : List Int)] hw) ?_
                                      obtain ⟨t65, hc, ho⟩ := bind_some (x := op_Shape_take_s2.f ([] : List Int) ([] : List Int) 3) ho
                                      refine SP.callA see (caps := []) (X := HO.seps [boxO b3 [(.slice none 0 0), (.slice none 0 0)] 75, slO (kInt .u8) 5 (.slice none 0 0) ([] : List Int), slO (kInt .u8) 5 (.slice none 0 0) ([] : List Int)]) _ fn44 rfl rfl rfl rfl (fun w2 hP h1 sub s1 d1 ap hI => op_Shape_take_s2.ok ([] : List Int) ([] : List Int) 3 (.slice none 0 0) (.slice none 0 0) _ hc w2 hP sub trivial trivial _ h1 s1 d1 hI) (fun vr => ?_)
                                      refine SP.have (fun w2 h => (St.pand h).1.symm) (fun er => ?_)
                                      subst er
                                      refine SP.imp (fun w2 h => St.seps (St.pand h).2) ?_
                                      refine SP.ex (fun w2 h => St.open h) (fun v68 => ?_)
                                      refine SP.ex (fun w2 h => St.open h) (fun v69 => ?_)
                                      refine SP.imp (fun w2 h => St.seps h) ?_
                                      clear hc
                                      refine SP.nil ?_
                                      refine QE.then ?_
                                      refine CP.seq ?_
                                      refine CP.region ?_
                                      refine SP.imp (fun w2 hw => St.group [boxO b3 [v68, v69] 75, slO (kInt .u8) 5 v68 t65.1, slO (kInt .u8) 5 v69 t65.2] hw) ?_
                                      obtain ⟨t70, hc, ho⟩ := bind_some (x := op_Shape_take_s2.f t65.1 t65.2 1) ho
                                      refine SP.callA see (caps := []) (X := HO.seps [boxO b3 [v68, v69] 75, slO (kInt .u8) 5 v68 t65.1, slO (kInt .u8) 5 v69 t65.2]) _ fn44 rfl rfl rfl rfl (fun w2 hP h1 sub s1 d1 ap hI => op_Shape_take_s2.ok t65.1 t65.2 1 v68 v69 _ hc w2 hP sub trivial trivial _ h1 s1 d1 hI) (fun vr => ?_)
                                      refine SP.have (fun w2 h => (St.pand h).1.symm) (fun er => ?_)
                                      subst er
                                      refine SP.imp (fun w2 h => St.seps (St.pand h).2) ?_
                                      refine SP.ex (fun w2 h => St.open h) (fun v71 => ?_)
                                      refine SP.ex (fun w2 h => St.open h) (fun v72 => ?_)
                                      refine SP.imp (fun w2 h => St.seps h) ?_
                                      clear hc
                                      refine SP.nil ?_
                                      refine QE.then ?_
                                      refine CP.region ?_
                                      refine SP.imp (fun w2 hw => St.group [boxO b3 [v71, v72] 75, slO (kInt .u8) 5 v71 t70.1, slO (kInt .u8) 5 v72 t70.2] hw) ?_
                                      obtain ⟨t73, hc, ho⟩ := bind_some (x := op_Shape_give_s2.f t70.1 t70.2 1) ho
                                      refine SP.callA see (caps := []) (X := HO.seps [boxO b3 [v71, v72] 75, slO (kInt .u8) 5 v71 t70.1, slO (kInt .u8) 5 v72 t70.2]) _ fn45 rfl rfl rfl rfl (fun w2 hP h1 sub s1 d1 ap hI => op_Shape_give_s2.ok t70.1 t70.2 1 v71 v72 _ hc w2 hP sub trivial trivial _ h1 s1 d1 hI) (fun vr => ?_)
                                      refine SP.have (fun w2 h => (St.pand h).1.symm) (fun er => ?_)
                                      subst er
                                      refine SP.imp (fun w2 h => St.seps (St.pand h).2) ?_
                                      refine SP.ex (fun w2 h => St.open h) (fun v74 => ?_)
                                      refine SP.ex (fun w2 h => St.open h) (fun v75 => ?_)
                                      refine SP.imp (fun w2 h => St.seps h) ?_
                                      clear hc
                                      refine SP.nil ?_
                                      refine QE.then ?_
                                      refine CP.exit ?_
                                      refine QE.blockX rfl ?_
                                      refine QE.thru (by intro e; cases e) ?_
                                      refine QE.blockX rfl ?_
                                      refine QE.thru (by intro e; cases e) ?_
                                      refine QE.blockE ?_
                                      exact QE.meet fun a w2 ha hw => ⟨t73.1, t73.2, v74, v75, ho, ha.sub ⟨rfl, rfl, trivial⟩, (St.selO [2, 1, 0, 3] rfl rfl hw)⟩
                                    · refine CP.condF rfl (decide_eq_false hc) ?_
                                      refine CP.skip ?_
                                      refine QE.then ?_
                                      refine CP.seq ?_
                                      refine CP.region ?_
                                      refine SP.val (Val.eql rfl rfl) rfl rfl rfl ?_
                                      refine SP.val (Val.assign rfl) rfl rfl rfl ?_
                                      refine SP.nil ?_
                                      refine QE.then ?_
                                      rcases if_some ho with ⟨hc, ho⟩ | ⟨hc, ho⟩
                                      · refine CP.condT rfl (decide_eq_true hc) ?_
                                        refine CP.exit ?_
                                        refine QE.thru (by intro e; cases e) ?_
                                        refine QE.blockX rfl ?_
                                        refine QE.thru (by intro e; cases e) ?_
                                        refine QE.blockX rfl ?_
                                        refine QE.thru (by intro e; cases e) ?_
                                        refine QE.blockX rfl ?_
                                        refine QE.thru (by intro e; cases e) ?_
                                        refine QE.blockX rfl ?_
                                        refine QE.thru (by intro e; cases e) ?_
                                        refine QE.blockX rfl ?_
                                        refine QE.thru (by intro e; cases e) ?_
                                        refine QE.blockX rfl ?_
                                        refine QE.thru (by intro e; cases e) ?_
                                        refine QE.blockX rfl ?_
                                        refine QE.thru (by intro e; cases e) ?_
                                        refine QE.blockX rfl ?_
                                        refine QE.thru (by intro e; cases e) ?_
                                        refine QE.blockX rfl ?_
                                        refine QE.thru (by intro e; cases e) ?_
                                        refine QE.blockX rfl ?_
                                        refine QE.thru (by intro e; cases e) ?_
                                        refine QE.blockX rfl ?_
                                        refine QE.thru (by intro e; cases e) ?_
                                        refine QE.blockE ?_
                                        refine QE.then ?_
                                        refine CP.seq ?_
                                        refine CP.seq ?_
                                        refine CP.region ?_
                                        refine SP.imp (fun w2 hw => St.addO (slO.nil (kInt .u8) 5) hw) ?_
                                        refine SP.imp (fun w2 hw => St.addO (slO.nil (kInt .u8) 5) hw) ?_
                                        refine SP.imp (fun w2 hw => St.selO [2, 1, 0, 3] rfl rfl hw) ?_
                                        refine SP.imp (fun w2 hw => St.group [boxO b3 [(.slice none 0 0), (.slice none 0 0)] 75, slO (kInt .u8) 5 (.slice none 0 0) ([] : List Int), slO (kInt .u8) 5 (.slice none 0 0) ([] : List Int)] hw) ?_
                                        obtain ⟨t76, hc, ho⟩ := bind_some (x := op_Shape_take_s2.f ([] : List Int) ([] : List Int) 3) ho
                                        refine SP.callA see (caps := []) (X := HO.seps [boxO b3 [(.slice none 0 0), (.slice none 0 0)] 75, slO (kInt .u8) 5 (.slice none 0 0) ([] : List Int), slO (kInt .u8) 5 (.slice none 0 0) ([] : List Int)]) _ fn44 rfl rfl rfl rfl (fun w2 hP h1 sub s1 d1 ap hI => op_Shape_take_s2.ok ([] : List Int) ([] : List Int) 3 (.slice none 0 0) (.slice none 0 0) _ hc w2 hP sub trivial trivial _ h1 s1 d1 hI) (fun vr => ?_)
                                        refine SP.have (fun w2 h => (St.pand h).1.symm) (fun er => ?_)
                                        subst er
                                        refine SP.imp (fun w2 h => St.seps (St.pand h).2) ?_
                                        refine SP.ex (fun w2 h => St.open h) (fun v79 => ?_)
                                        refine SP.ex (fun w2 h => St.open h) (fun v80 => ?_)
                                        refine SP.imp (fun w2 h => St.seps h) ?_
                                        clear hc
                                        refine SP.nil ?_
                                        refine QE.then ?_
                                        refine CP.region ?_
                                        refine SP.imp (fun w2 hw => St.group [boxO b3 [v79, v80] 75, slO (kInt .u8) 5 v79 t76.1, slO (kInt .u8) 5 v80 t76.2] hw) ?_
                                        obtain ⟨t81, hc, ho⟩ := bind_some (x := op_Shape_give_s2.f t76.1 t76.2 1) ho
                                        refine SP.callA see (caps := []) (X := HO.seps [boxO b3 [v79, v80] 75, slO (kInt .u8) 5 v79 t76.1, slO (kInt .u8) 5 v80 t76.2]) _ fn45 rfl rfl rfl rfl (fun w2 hP h1 sub s1 d1 ap hI => op_Shape_give_s2.ok t76.1 t76.2 1 v79 v80 _ hc w2 hP sub trivial trivial _ h1 s1 d1 hI) (fun vr => ?_)
                                        refine SP.have (fun w2 h => (St.pand h).1.symm) (fun er => ?_)
                                        subst er
                                        refine SP.imp (fun w2 h => St.seps (St.pand h).2) ?_
                                        refine SP.ex (fun w2 h => St.open h) (fun v82 => ?_)
                                        refine SP.ex (fun w2 h => St.open h) (fun v83 => ?_)
                                        refine SP.imp (fun w2 h => St.seps h) ?_
                                        clear hc
                                        refine SP.nil ?_
                                        refine QE.then ?_
                                        refine CP.exit ?_
                                        refine QE.blockX rfl ?_
                                        refine QE.thru (by intro e; cases e) ?_
                                        refine QE.blockE ?_
                                        exact QE.meet fun a w2 ha hw => ⟨t81.1, t81.2, v82, v83, ho, ha.sub ⟨rfl, rfl, trivial⟩, (St.selO [2, 1, 0, 3] rfl rfl hw)⟩
                                      · refine CP.condF rfl (decide_eq_false hc) ?_
                                        refine CP.skip ?_
                                        refine QE.then ?_
                                        refine CP.exit ?_
                                        refine QE.blockX rfl ?_
                                        refine QE.thru (by intro e; cases e) ?_
                                        refine QE.blockX rfl ?_
                                        refine QE.thru (by intro e; cases e) ?_
                                        refine QE.blockX rfl ?_
                                        refine QE.thru (by intro e; cases e) ?_
                                        refine QE.blockX rfl ?_
                                        refine QE.thru (by intro e; cases e) ?_
                                        refine QE.blockX rfl ?_
                                        refine QE.thru (by intro e; cases e) ?_
                                        refine QE.blockX rfl ?_
                                        refine QE.thru (by intro e; cases e) ?_
                                        refine QE.blockX rfl ?_
                                        refine QE.thru (by intro e; cases e) ?_
                                        refine QE.blockX rfl ?_
                                        refine QE.thru (by intro e; cases e) ?_
                                        refine QE.blockX rfl ?_
                                        refine QE.thru (by intro e; cases e) ?_
                                        refine QE.blockX rfl ?_
                                        refine QE.thru (by intro e; cases e) ?_
                                        refine QE.blockX rfl ?_
                                        refine QE.thru (by intro e; cases e) ?_
                                        refine QE.blockX rfl ?_
                                        refine QE.thru (by intro e; cases e) ?_
                                        refine QE.blockE ?_
                                        refine QE.then ?_
                                        refine CP.seq ?_
                                        refine CP.seq ?_
                                        refine CP.region ?_
                                        refine SP.val (Val.buildC (us := []) (ucs := []) (cs := [(.slice none 0 0), (.slice none 0 0)]) bt75 rfl rfl trivial (by rfl)) rfl rfl rfl ?_
                                        refine SP.store (v := .agg #[(.slice none 0 0), (.slice none 0 0)]) (vs := [(.slice none 0 0), (.slice none 0 0)]) 1 (by rfl) sz75 (by rfl) (by rfl) (by rfl) (by rfl) (by rfl) (by rfl) ?_
                                        refine SP.val (Val.assign rfl) rfl rfl rfl ?_
                                        refine SP.nil ?_
                                        refine QE.then ?_
                                        refine CP.ret ?_
                                        refine QE.thru (by intro e; cases e) ?_
                                        refine QE.blockR ?_
                                        refine QE.thru (by intro e; cases e) ?_
                                        obtain rfl := Option.some.inj ho
                                        exact QE.rets (rs := [.cell 2 75, .tmp 3]) (vs := [.agg #[(.slice none 0 0), (.slice none 0 0)], .bool false]) Tryd.results31 rfl ⟨RVs.cellA 1 rfl rfl Tryd.underlying75 rfl sz75, RVs.tmp rfl, trivial⟩ (fun w2 h => St.done (fun a b p s => ⟨_, _, rfl, s⟩) (St.selO [1, 0] rfl rfl (St.addO (slO.nil (kInt .u8) 5) (St.addO (slO.nil (kInt .u8) 5) h))))
                            · refine CP.seq ?_
                              refine CP.region ?_
                              refine SP.val (Val.eql rfl rfl) rfl rfl rfl ?_
                              refine SP.val (Val.assign rfl) rfl rfl rfl ?_
                              refine SP.nil ?_
                              refine QE.then ?_
                              rcases if_some ho with ⟨hc, ho⟩ | ⟨hc, ho⟩
                              · refine CP.condT rfl (decide_eq_true hc) ?_
                                refine CP.skip ?_
                                exact QE.meet fun a w2 ha hw => ⟨(decide (op_0 = 19)), ho, ha.sub ⟨rfl, rfl, rfl, rfl, trivial⟩, hw⟩
                              · refine CP.condF rfl (decide_eq_false hc) ?_
                                refine CP.region ?_
                                refine SP.val (Val.eql rfl rfl) rfl rfl rfl ?_
                                refine SP.val (Val.assign rfl) rfl rfl rfl ?_
                                refine SP.nil ?_
                                exact QE.meet fun a w2 ha hw => ⟨(decide (op_0 = 20)), ho, ha.sub ⟨rfl, rfl, rfl, rfl, trivial⟩, hw⟩
                        · refine CP.seq ?_
                          refine CP.region ?_
                          refine SP.val (Val.eql rfl rfl) rfl rfl rfl ?_
                          refine SP.val (Val.assign rfl) rfl rfl rfl ?_
                          refine SP.nil ?_
                          refine QE.then ?_
                          rcases if_some ho with ⟨hc, ho⟩ | ⟨hc, ho⟩
                          · refine CP.condT rfl (decide_eq_true hc) ?_
                            refine CP.skip ?_
                            exact QE.meet fun a w2 ha hw => ⟨(decide (op_0 = 17)), ho, ha.sub ⟨rfl, rfl, rfl, rfl, trivial⟩, hw⟩
                          · refine CP.condF rfl (decide_eq_false hc) ?_
                            refine CP.region ?_
                            refine SP.val (Val.eql rfl rfl) rfl rfl rfl ?_
                            refine SP.val (Val.assign rfl) rfl rfl rfl ?_
                            refine SP.nil ?_
                            exact QE.meet fun a w2 ha hw => ⟨(decide (op_0 = 18)), ho, ha.sub ⟨rfl, rfl, rfl, rfl, trivial⟩, hw⟩
                  · refine CP.seq ?_
                    refine CP.region ?_
                    refine SP.val (Val.eql rfl rfl) rfl rfl rfl ?_
                    refine SP.val (Val.assign rfl) rfl rfl rfl ?_
                    refine SP.nil ?_
                    refine QE.then ?_
                    rcases if_some ho with ⟨hc, ho⟩ | ⟨hc, ho⟩
                    · refine CP.condT rfl (decide_eq_true hc) ?_
                      refine CP.skip ?_
                      exact QE.meet fun a w2 ha hw => ⟨(decide (op_0 = 9)), ho, ha.sub ⟨rfl, rfl, rfl, rfl, trivial⟩, hw⟩
                    · refine CP.condF rfl (decide_eq_false hc) ?_
                      refine CP.seq ?_
                      refine CP.region ?_
                      refine SP.val (Val.eql rfl rfl) rfl rfl rfl ?_
                      refine SP.val (Val.assign rfl) rfl rfl rfl ?_
                      refine SP.nil ?_
                      refine QE.then ?_
                      rcases if_some ho with ⟨hc, ho⟩ | ⟨hc, ho⟩
                      · refine CP.condT rfl (decide_eq_true hc) ?_
                        refine CP.skip ?_
                        exact QE.meet fun a w2 ha hw => ⟨(decide (op_0 = 10)), ho, ha.sub ⟨rfl, rfl, rfl, rfl, trivial⟩, hw⟩
                      · refine CP.condF rfl (decide_eq_false hc) ?_
                        refine CP.seq ?_
                        refine CP.region ?_
                        refine SP.val (Val.eql rfl rfl) rfl rfl rfl ?_
                        refine SP.val (Val.assign rfl) rfl rfl rfl ?_
                        refine SP.nil ?_
                        refine QE.then ?_
                        rcases if_some ho with ⟨hc, ho⟩ | ⟨hc, ho⟩
                        · refine CP.condT rfl (decide_eq_true hc) ?_
                          refine CP.skip ?_
                          exact QE.meet fun a w2 ha hw => ⟨(decide (op_0 = 11)), ho, ha.sub ⟨rfl, rfl, rfl, rfl, trivial⟩, hw⟩
                        · refine CP.condF rfl (decide_eq_false hc) ?_
                          refine CP.seq ?_
                          refine CP.region ?_
                          refine SP.val (Val.eql rfl rfl) rfl rfl rfl ?_
                          refine SP.val (Val.assign rfl) rfl rfl rfl ?_
                          refine SP.nil ?_
                          refine QE.then ?_
                          rcases if_some ho with ⟨hc, ho⟩ | ⟨hc, ho⟩
                          · refine CP.condT rfl (decide_eq_true hc) ?_
                            refine CP.skip ?_
                            exact QE.meet fun a w2 ha hw => ⟨(decide (op_0 = 12)), ho, ha.sub ⟨rfl, rfl, rfl, rfl, trivial⟩, hw⟩
                          · refine CP.condF rfl (decide_eq_false hc) ?_
                            refine CP.seq ?_
                            refine CP.region ?_
                            refine SP.val (Val.eql rfl rfl) rfl rfl rfl ?_
                            refine SP.val (Val.assign rfl) rfl rfl rfl ?_
                            refine SP.nil ?_
                            refine QE.then ?_
                            rcases if_some ho with ⟨hc, ho⟩ | ⟨hc, ho⟩
                            · refine CP.condT rfl (decide_eq_true hc) ?_
                              refine CP.skip ?_
                              exact QE.meet fun a w2 ha hw => ⟨(decide (op_0 = 13)), ho, ha.sub ⟨rfl, rfl, rfl, rfl, trivial⟩, hw⟩
                            · refine CP.condF rfl (decide_eq_false hc) ?_
                              refine CP.seq ?_
                              refine CP.region ?_
                              refine SP.val (Val.eql rfl rfl) rfl rfl rfl ?_
                              refine SP.val (Val.assign rfl) rfl rfl rfl ?_
                              refine SP.nil ?_
                              refine QE.then ?_
                              rcases if_some ho with ⟨hc, ho⟩ | ⟨hc, ho⟩
                              · refine CP.condT rfl (decide_eq_true hc) ?_
                                refine CP.skip ?_
                                exact QE.meet fun a w2 ha hw => ⟨(decide (op_0 = 14)), ho, ha.sub ⟨rfl, rfl, rfl, rfl, trivial⟩, hw⟩
                              · refine CP.condF rfl (decide_eq_false hc) ?_
                                refine CP.region ?_
                                refine SP.val (Val.eql rfl rfl) rfl rfl rfl ?_
                                refine SP.val (Val.assign rfl) rfl rfl rfl ?_
                                refine SP.nil ?_
                                exact QE.meet fun a w2 ha hw => ⟨(decide (op_0 = 15)), ho, ha.sub ⟨rfl, rfl, rfl, rfl, trivial⟩, hw⟩
        · refine CP.seq ?_
          refine CP.region ?_
          refine SP.val (Val.eql rfl rfl) rfl rfl rfl ?_
          refine SP.val (Val.assign rfl) rfl rfl rfl ?_
          refine SP.nil ?_
          refine QE.then ?_
          rcases if_some ho with ⟨hc, ho⟩ | ⟨hc, ho⟩
          · refine CP.condT rfl (decide_eq_true hc) ?_
            refine CP.skip ?_
            exact QE.meet fun a w2 ha hw => ⟨(decide (op_0 = 0)), ho, ha.sub ⟨rfl, rfl, rfl, rfl, trivial⟩, hw⟩
          · refine CP.condF rfl (decide_eq_false hc) ?_
            refine CP.seq ?_
            refine CP.region ?_
            refine SP.val (Val.eql rfl rfl) rfl rfl rfl ?_
            refine SP.val (Val.assign rfl) rfl rfl rfl ?_
            refine SP.nil ?_
            refine QE.then ?_
            rcases if_some ho with ⟨hc, ho⟩ | ⟨hc, ho⟩
            · refine CP.condT rfl (decide_eq_true hc) ?_
              refine CP.skip ?_
              exact QE.meet fun a w2 ha hw => ⟨(decide (op_0 = 26)), ho, ha.sub ⟨rfl, rfl, rfl, rfl, trivial⟩, hw⟩
            · refine CP.condF rfl (decide_eq_false hc) ?_
              refine CP.seq ?_
              refine CP.region ?_
              refine SP.val (Val.eql rfl rfl) rfl rfl rfl ?_
              refine SP.val (Val.assign rfl) rfl rfl rfl ?_
              refine SP.nil ?_
              refine QE.then ?_
              rcases if_some ho with ⟨hc, ho⟩ | ⟨hc, ho⟩
              · refine CP.condT rfl (decide_eq_true hc) ?_
                refine CP.skip ?_
                exact QE.meet fun a w2 ha hw => ⟨(decide (op_0 = 28)), ho, ha.sub ⟨rfl, rfl, rfl, rfl, trivial⟩, hw⟩
              · refine CP.condF rfl (decide_eq_false hc) ?_
                refine CP.seq ?_
                refine CP.region ?_
                refine SP.val (Val.eql rfl rfl) rfl rfl rfl ?_
                refine SP.val (Val.assign rfl) rfl rfl rfl ?_
                refine SP.nil ?_
                refine QE.then ?_
                rcases if_some ho with ⟨hc, ho⟩ | ⟨hc, ho⟩
                · refine CP.condT rfl (decide_eq_true hc) ?_
                  refine CP.skip ?_
                  exact QE.meet fun a w2 ha hw => ⟨(decide (op_0 = 29)), ho, ha.sub ⟨rfl, rfl, rfl, rfl, trivial⟩, hw⟩
                · refine CP.condF rfl (decide_eq_false hc) ?_
                  refine CP.region ?_
                  refine SP.val (Val.eql rfl rfl) rfl rfl rfl ?_
                  refine SP.val (Val.assign rfl) rfl rfl rfl ?_
                  refine SP.nil ?_
                  exact QE.meet fun a w2 ha hw => ⟨(decide (op_0 = 32)), ho, ha.sub ⟨rfl, rfl, rfl, rfl, trivial⟩, hw⟩
/-! ### slices.Clone[[]uint8,uint8]: function 27 -/
def slices_Clone_uint8_uint8.f (s_0 : (List Int)) : Option (List Int) :=
  nilOr s_0 (some []) (if (([] : List Int).length + s_0.length) * 1 ≤ 140737488355328 then (some (([] : List Int) ++ s_0)) else none)
theorem slices_Clone_uint8_uint8.ok (s_0 : (List Int)) (v_s_0 : Value) (r : (List Int)) (H : slices_Clone_uint8_uint8.f s_0 = some r) (w : World) (hV : Hp) (sV : Sub hV (hp w)) (h0 : slR (kInt .u8) hV v_s_0 s_0) :
    Trip Tryd.prog 27 [v_s_0].toArray em hV w (fun v => HO.ex fun u0 : Value => HO.pand (v = u0) (HO.seps [slO (kInt .u8) 5 u0 r])) := by
  have see : Sees w em hV := ⟨sV, Dj.em_right _⟩
  refine Trip.of (P := Tryd.prog) (n := ⟨8, []⟩) Tryd.func27 rfl ⟨rfl, rfl⟩ rfl (St.begin (All.cons (x := slP (kInt .u8) v_s_0 s_0) h0 (All.nil _))) ?_
  have ho := H
  refine CP.seq ?_
  refine CP.region ?_
  refine SP.val (Val.assign rfl) rfl rfl rfl ?_
  refine SP.nil ?_
  refine QE.then ?_
  refine CP.seq ?_
  refine CP.seq ?_
  refine CP.region ?_
  refine SP.val (Val.move rfl) rfl rfl rfl ?_
  refine SP.val (Val.eqlNP see 0 rfl Tryd.underlying33 rfl rfl) rfl rfl rfl ?_
  refine SP.nil ?_
  refine QE.then ?_
  refine CP.have (fun w2 hw => slR.isNil (v := v_s_0) (St.pers 0 rfl see.sub see.dj hw)) (fun hnil => ?_)
  rcases Bool.eq_false_or_eq_true (nilB v_s_0) with hc | hc
  · replace ho := nilOr_t ho (hnil hc)
    refine CP.condT rfl hc ?_
    refine CP.seq ?_
    refine CP.region ?_
    refine SP.val (Val.assign rfl) rfl rfl rfl ?_
    refine SP.nil ?_
    refine QE.then ?_
    refine CP.ret ?_
    refine QE.thru (by intro e; cases e) ?_
    obtain rfl := Option.some.inj ho
    exact QE.rets (rs := [.tmp 2]) (vs := [(.slice none 0 0)]) Tryd.results27 rfl ⟨RVs.tmp rfl, trivial⟩ (fun w2 h => St.done (fun a b p s => ⟨_, rfl, s⟩) (St.selO [0] rfl rfl (St.addO (slO.nil (kInt .u8) 5) h)))
  · replace ho := nilOr_f ho
    refine CP.condF rfl hc ?_
    refine CP.skip ?_
    refine QE.then ?_
    refine CP.seq ?_
    refine CP.region ?_
    refine SP.lit0 (k := (kInt .u8)) Tryd.underlying33 inf5 rfl rfl (fun v3 => ?_)
    refine SP.val (Val.move rfl) rfl rfl rfl ?_
    obtain ⟨hb, ho⟩ := must_some ho
    refine SP.append see 0 rfl 0 rfl Tryd.underlying33 inf5 rfl rfl hb rfl rfl rfl rfl rfl (fun v5 => ?_)
    clear hb
    refine SP.val (Val.assign rfl) rfl rfl rfl ?_
    refine SP.nil ?_
    refine QE.then ?_
    refine CP.ret ?_
    obtain rfl := Option.some.inj ho
    exact QE.rets (rs := [.tmp 2]) (vs := [v5]) Tryd.results27 rfl ⟨RVs.tmp rfl, trivial⟩ (fun w2 h => St.done (fun a b p s => ⟨_, rfl, s⟩) (St.selO [0] rfl rfl h))
/-! ### (*capstan/types.look).named: function 76 -/
def types_look_named_s1.j1 (k_0_2 : List api_Value) (k_0_4 : List api_Value) (k_0_6 : List api_Method) (k_0_8 : Int) (k_0_9 : List Int) (k_0_11 : List Int) (k_0_13 : Int) (k_0_14 : Bool) (k_0_15 : Int) (k_0_16 : Int) (k_0_17 : Int) (k_0_18 : List api_Instr) (k_0_20 : List Int) (l22 : List types_Row) (i_1 : api_Instr) (b30 : Bool) : Option (Int × (List types_Row)) :=
  if b30 = true then ((elt k_0_2 i_1.A).bind fun x33 => some (x33.Kind, l22)) else ((elt k_0_20 i_1.A).bind fun x38 => some (x38, l22))

def types_look_named_s1.f (k_0_2 : List api_Value) (k_0_4 : List api_Value) (k_0_6 : List api_Method) (k_0_8 : Int) (k_0_9 : List Int) (k_0_11 : List Int) (k_0_13 : Int) (k_0_14 : Bool) (k_0_15 : Int) (k_0_16 : Int) (k_0_17 : Int) (k_0_18 : List api_Instr) (k_0_20 : List Int) (l22 : List types_Row) (i_1 : api_Instr) : Option (Int × (List types_Row)) :=
  if i_1.Op = 1 then ((elt k_0_4 i_1.A).bind fun x27 => some (x27.Kind, l22)) else (if i_1.Op = 4 then (types_look_named_s1.j1 k_0_2 k_0_4 k_0_6 k_0_8 k_0_9 k_0_11 k_0_13 k_0_14 k_0_15 k_0_16 k_0_17 k_0_18 k_0_20 l22 i_1 (decide (i_1.Op = 4))) else (types_look_named_s1.j1 k_0_2 k_0_4 k_0_6 k_0_8 k_0_9 k_0_11 k_0_13 k_0_14 k_0_15 k_0_16 k_0_17 k_0_18 k_0_20 l22 i_1 (decide (i_1.Op = 5))))
theorem types_look_named_s1.ok (k_0_2 : List api_Value) (k_0_4 : List api_Value) (k_0_6 : List api_Method) (k_0_8 : Int) (k_0_9 : List Int) (k_0_11 : List Int) (k_0_13 : Int) (k_0_14 : Bool) (k_0_15 : Int) (k_0_16 : Int) (k_0_17 : Int) (k_0_18 : List api_Instr) (k_0_20 : List Int) (l22 : List types_Row) (i_1 : api_Instr) (v_k_0_2 : Value) (v_k_0_4 : Value) (v_k_0_6 : Value) (v_k_0_9 : Value) (v_k_0_11 : Value) (v_k_0_18 : Value) (v_k_0_20 : Value) (r : Int × (List types_Row)) (H : types_look_named_s1.f k_0_2 k_0_4 k_0_6 k_0_8 k_0_9 k_0_11 k_0_13 k_0_14 k_0_15 k_0_16 k_0_17 k_0_18 k_0_20 l22 i_1 = some r) (w : World) (hV : Hp) (sV : Sub hV (hp w)) (h0 : slR k_api_Value hV v_k_0_2 k_0_2) (h1 : slR k_api_Value hV v_k_0_4 k_0_4) (h2 : slR k_api_Method hV v_k_0_6 k_0_6) (h3 : slR (kInt .u8) hV v_k_0_9 k_0_9) (h4 : slR (kInt .u8) hV v_k_0_11 k_0_11) (h5 : slR k_api_Instr hV v_k_0_18 k_0_18) (h6 : slR (kInt .u8) hV v_k_0_20 k_0_20) (b1 : Nat) (hA : Hp) (sA : Sub hA (hp w)) (dA : Dj hV hA) (hI : (arrK k_types_Row b1 [v_k_0_2, v_k_0_4, v_k_0_6, .int .i64 k_0_8, v_k_0_9, v_k_0_11, .int .u8 k_0_13, .bool k_0_14, .int .i64 k_0_15, .int .i64 k_0_16, .int .i64 k_0_17, v_k_0_18, v_k_0_20] 200 l22 [] 65).p hV hA) :
    Trip Tryd.prog 76 [.pointer (some ⟨b1, 0, none⟩), .agg #[.int .u8 i_1.Op, .int .i64 i_1.A, .int .i64 i_1.B]].toArray hA hV w (fun v => HO.pand (v = .int .u8 r.1) (HO.seps [arrK k_types_Row b1 [v_k_0_2, v_k_0_4, v_k_0_6, .int .i64 k_0_8, v_k_0_9, v_k_0_11, .int .u8 k_0_13, .bool k_0_14, .int .i64 k_0_15, .int .i64 k_0_16, .int .i64 k_0_17, v_k_0_18, v_k_0_20] 200 r.2 [] 65])) := by
  have see : Sees w hA hV := ⟨sV, dA⟩
  refine Trip.of (P := Tryd.prog) (n := ⟨40, []⟩) Tryd.func76 rfl ⟨rfl, rfl⟩ rfl (St.beginA (os := [arrK k_types_Row b1 [v_k_0_2, v_k_0_4, v_k_0_6, .int .i64 k_0_8, v_k_0_9, v_k_0_11, .int .u8 k_0_13, .bool k_0_14, .int .i64 k_0_15, .int .i64 k_0_16, .int .i64 k_0_17, v_k_0_18, v_k_0_20] 200 l22 [] 65]) sA (All.cons (x := slP k_api_Value v_k_0_2 k_0_2) h0 (All.cons (x := slP k_api_Value v_k_0_4 k_0_4) h1 (All.cons (x := slP k_api_Method v_k_0_6 k_0_6) h2 (All.cons (x := slP (kInt .u8) v_k_0_9 k_0_9) h3 (All.cons (x := slP (kInt .u8) v_k_0_11 k_0_11) h4 (All.cons (x := slP k_api_Instr v_k_0_18 k_0_18) h5 (All.cons (x := slP (kInt .u8) v_k_0_20 k_0_20) h6 (All.nil _)))))))) ⟨hA, em, Dj.em_right _, Sub.refl _, Sub.em _, hI, trivial⟩) ?_
  have ho := H
  refine CP.seq ?_
  refine CP.region ?_
  refine SP.box (cs := [.int .u8 i_1.Op, .int .i64 i_1.A, .int .i64 i_1.B]) rfl rfl rfl rfl (fun b23 => ?_)
  refine SP.val (Val.assign rfl) rfl rfl rfl ?_
  refine SP.nil ?_
  refine QE.then ?_
  refine CP.seq ?_
  refine CP.seq ?_
  refine CP.region ?_
  refine SP.val (Val.fieldAddr Tryd.underlying45 rfl sz5 rfl) rfl rfl rfl ?_
  refine SP.val (Val.load1 0 rfl Tryd.underlying5 rfl rfl rfl) rfl rfl rfl ?_
  refine SP.nil ?_
  refine QE.then ?_
  refine CP.block ?_
  refine CP.seq ?_
  refine CP.region ?_
  refine SP.val (Val.eql rfl rfl) rfl rfl rfl ?_
  refine SP.val (Val.assign rfl) rfl rfl rfl ?_
  refine SP.nil ?_
  refine QE.then ?_
  rcases if_some ho with ⟨hc, ho⟩ | ⟨hc, ho⟩
  · refine CP.condT rfl (decide_eq_true hc) ?_
    refine CP.seq ?_
    refine CP.drawA (by kernel_rfl) (fun w2 k h => h.drawn k) ?_
    refine DA.phase (fun i => Nat.ble 0 i && Nat.blt i 7) (fun w2 => St w hA hV [slP k_api_Value v_k_0_2 k_0_2, slP k_api_Value v_k_0_4 k_0_4, slP k_api_Method v_k_0_6 k_0_6, slP (kInt .u8) v_k_0_9 k_0_9, slP (kInt .u8) v_k_0_11 k_0_11, slP k_api_Instr v_k_0_18 k_0_18, slP (kInt .u8) v_k_0_20 k_0_20] [boxO b23 [.int .u8 i_1.Op, .int .i64 i_1.A, .int .i64 i_1.B] 45, arrK k_types_Row b1 [v_k_0_2, v_k_0_4, v_k_0_6, .int .i64 k_0_8, v_k_0_9, v_k_0_11, .int .u8 k_0_13, .bool k_0_14, .int .i64 k_0_15, .int .i64 k_0_16, .int .i64 k_0_17, v_k_0_18, v_k_0_20] 200 l22 [] 65] w2) ?_
    refine DT.take 0 rfl rfl rfl rfl (by kernel_rfl) (fun _ _ _ h => h) (Val.move rfl) (fun w2 hw => hw) ?_
    refine DT.take 1 rfl rfl rfl rfl (by kernel_rfl) (fun _ _ _ h => h) (Val.nilCheck rfl) (fun w2 hw => hw) ?_
    refine DT.take 2 rfl rfl rfl rfl (by kernel_rfl) (fun _ _ _ h => h) (Val.fieldAddr Tryd.underlying65 rfl sz25 rfl) (fun w2 hw => hw) ?_
    refine DT.take 3 rfl rfl rfl rfl (by kernel_rfl) (fun _ _ _ h => h) (Val.fieldAddr Tryd.underlying25 rfl sz22 rfl) (fun w2 hw => hw) ?_
    refine DT.take 4 rfl rfl rfl rfl (by kernel_rfl) (fun _ _ _ h => h) (Val.loadKPre1 see 1 rfl Tryd.underlying22 rfl rfl rfl) (fun w2 hw => hw) ?_
    refine DT.take 5 rfl rfl rfl rfl (by kernel_rfl) (fun _ _ _ h => h) (Val.fieldAddr Tryd.underlying45 rfl sz3 rfl) (fun w2 hw => hw) ?_
    refine DT.take 6 rfl rfl rfl rfl (by kernel_rfl) (fun _ _ _ h => h) (Val.load1 0 rfl Tryd.underlying3 rfl rfl rfl) (fun w2 hw => hw) ?_
    refine DT.next (by kernel_rfl) ?_
    refine DA.one 7 rfl (by kernel_rfl) ?_
    obtain ⟨x27, hx, ho⟩ := bind_some ho
    have hx := elt_some hx
    refine SP.indexP see 1 rfl Tryd.underlying22 sz52 hx.1 hx.2 rfl rfl rfl rfl (fun p25 => ?_)
    clear hx
    refine SP.nil ?_
    refine QE.atA ?_
    refine DA.one 8 rfl (by kernel_rfl) ?_
    refine SP.fieldP see 0 rfl Tryd.underlying52 rfl sz5 k_api_Value.part_Kind rfl rfl rfl (fun p28 => ?_)
    refine SP.nil ?_
    refine QE.atA ?_
    refine DA.one 9 rfl (by kernel_rfl) ?_
    refine SP.val (Val.loadP1 see 0 rfl (fun _ _ e => e) Tryd.underlying5 rfl rfl) rfl rfl rfl ?_
    refine SP.nil ?_
    refine QE.atA ?_
    refine DA.one 10 rfl (by kernel_rfl) ?_
    refine SP.val (Val.assign rfl) rfl rfl rfl ?_
    refine SP.nil ?_
    refine QE.atA ?_
    refine DA.done (by kernel_rfl) ?_
    refine QE.then ?_
    refine CP.ret ?_
    refine QE.blockR ?_
    refine QE.thru (by intro e; cases e) ?_
    obtain rfl := Option.some.inj ho
    exact QE.rets (rs := [.tmp 4]) (vs := [.int .u8 x27.Kind]) Tryd.results76 rfl ⟨RVs.tmp rfl, trivial⟩ (fun w2 h => St.done (fun a b p s => ⟨rfl, s⟩) (St.selO [1] rfl rfl h))
  · refine CP.condF rfl (decide_eq_false hc) ?_
    refine CP.join (fun a w2 => ∃ b30 : Bool, types_look_named_s1.j1 k_0_2 k_0_4 k_0_6 k_0_8 k_0_9 k_0_11 k_0_13 k_0_14 k_0_15 k_0_16 k_0_17 k_0_18 k_0_20 l22 i_1 b30 = some r ∧ Env ⟨40, []⟩ [(0, .pointer (some ⟨b1, 0, none⟩)), (3, .pointer (some ⟨b23, 0, none⟩)), (19, .bool b30)] a ∧ St w hA hV [slP k_api_Value v_k_0_2 k_0_2, slP k_api_Value v_k_0_4 k_0_4, slP k_api_Method v_k_0_6 k_0_6, slP (kInt .u8) v_k_0_9 k_0_9, slP (kInt .u8) v_k_0_11 k_0_11, slP k_api_Instr v_k_0_18 k_0_18, slP (kInt .u8) v_k_0_20 k_0_20] [boxO b23 [.int .u8 i_1.Op, .int .i64 i_1.A, .int .i64 i_1.B] 45, arrK k_types_Row b1 [v_k_0_2, v_k_0_4, v_k_0_6, .int .i64 k_0_8, v_k_0_9, v_k_0_11, .int .u8 k_0_13, .bool k_0_14, .int .i64 k_0_15, .int .i64 k_0_16, .int .i64 k_0_17, v_k_0_18, v_k_0_20] 200 l22 [] 65] w2) ?_ ?_
    · rintro a w2 ⟨b30, ho, ha, hw⟩
      refine CP.app ha hw ?_
      clear ha hw a w2
      rcases if_some ho with ⟨hc, ho⟩ | ⟨hc, ho⟩
      · refine CP.condT rfl hc ?_
        refine CP.seq ?_
        refine CP.drawA (by kernel_rfl) (fun w2 k h => h.drawn k) ?_
        refine DA.phase (fun i => Nat.ble 0 i && Nat.blt i 7) (fun w2 => St w hA hV [slP k_api_Value v_k_0_2 k_0_2, slP k_api_Value v_k_0_4 k_0_4, slP k_api_Method v_k_0_6 k_0_6, slP (kInt .u8) v_k_0_9 k_0_9, slP (kInt .u8) v_k_0_11 k_0_11, slP k_api_Instr v_k_0_18 k_0_18, slP (kInt .u8) v_k_0_20 k_0_20] [boxO b23 [.int .u8 i_1.Op, .int .i64 i_1.A, .int .i64 i_1.B] 45, arrK k_types_Row b1 [v_k_0_2, v_k_0_4, v_k_0_6, .int .i64 k_0_8, v_k_0_9, v_k_0_11, .int .u8 k_0_13, .bool k_0_14, .int .i64 k_0_15, .int .i64 k_0_16, .int .i64 k_0_17, v_k_0_18, v_k_0_20] 200 l22 [] 65] w2) ?_
        refine DT.take 0 rfl rfl rfl rfl (by kernel_rfl) (fun _ _ _ h => h) (Val.move rfl) (fun w2 hw => hw) ?_
        refine DT.take 1 rfl rfl rfl rfl (by kernel_rfl) (fun _ _ _ h => h) (Val.nilCheck rfl) (fun w2 hw => hw) ?_
        refine DT.take 2 rfl rfl rfl rfl (by kernel_rfl) (fun _ _ _ h => h) (Val.fieldAddr Tryd.underlying65 rfl sz25 rfl) (fun w2 hw => hw) ?_
        refine DT.take 3 rfl rfl rfl rfl (by kernel_rfl) (fun _ _ _ h => h) (Val.fieldAddr Tryd.underlying25 rfl sz22 rfl) (fun w2 hw => hw) ?_
        refine DT.take 4 rfl rfl rfl rfl (by kernel_rfl) (fun _ _ _ h => h) (Val.loadKPre1 see 1 rfl Tryd.underlying22 rfl rfl rfl) (fun w2 hw => hw) ?_
        refine DT.take 5 rfl rfl rfl rfl (by kernel_rfl) (fun _ _ _ h => h) (Val.fieldAddr Tryd.underlying45 rfl sz3 rfl) (fun w2 hw => hw) ?_
        refine DT.take 6 rfl rfl rfl rfl (by kernel_rfl) (fun _ _ _ h => h) (Val.load1 0 rfl Tryd.underlying3 rfl rfl rfl) (fun w2 hw => hw) ?_
        refine DT.next (by kernel_rfl) ?_
        refine DA.one 7 rfl (by kernel_rfl) ?_
        obtain ⟨x33, hx, ho⟩ := bind_some ho
        have hx := elt_some hx
        refine SP.indexP see 0 rfl Tryd.underlying22 sz52 hx.1 hx.2 rfl rfl rfl rfl (fun p31 => ?_)
        clear hx
        refine SP.nil ?_
        refine QE.atA ?_
        refine DA.one 8 rfl (by kernel_rfl) ?_
        refine SP.fieldP see 0 rfl Tryd.underlying52 rfl sz5 k_api_Value.part_Kind rfl rfl rfl (fun p34 => ?_)
        refine SP.nil ?_
        refine QE.atA ?_
        refine DA.one 9 rfl (by kernel_rfl) ?_
        refine SP.val (Val.loadP1 see 0 rfl (fun _ _ e => e) Tryd.underlying5 rfl rfl) rfl rfl rfl ?_
        refine SP.nil ?_
        refine QE.atA ?_
        refine DA.one 10 rfl (by kernel_rfl) ?_
        refine SP.val (Val.assign rfl) rfl rfl rfl ?_
        refine SP.nil ?_
        refine QE.atA ?_
        refine DA.done (by kernel_rfl) ?_
        refine QE.then ?_
        refine CP.ret ?_
        refine QE.blockR ?_
        refine QE.thru (by intro e; cases e) ?_
        obtain rfl := Option.some.inj ho
        exact QE.rets (rs := [.tmp 4]) (vs := [.int .u8 x33.Kind]) Tryd.results76 rfl ⟨RVs.tmp rfl, trivial⟩ (fun w2 h => St.done (fun a b p s => ⟨rfl, s⟩) (St.selO [1] rfl rfl h))
      · refine CP.condF rfl (bf hc) ?_
        refine CP.skip ?_
        refine QE.blockN ?_
        refine QE.then ?_
        refine CP.seq ?_
        refine CP.drawA (by kernel_rfl) (fun w2 k h => h.drawn k) ?_
        refine DA.phase (fun i => Nat.ble 0 i && Nat.blt i 6) (fun w2 => St w hA hV [slP k_api_Value v_k_0_2 k_0_2, slP k_api_Value v_k_0_4 k_0_4, slP k_api_Method v_k_0_6 k_0_6, slP (kInt .u8) v_k_0_9 k_0_9, slP (kInt .u8) v_k_0_11 k_0_11, slP k_api_Instr v_k_0_18 k_0_18, slP (kInt .u8) v_k_0_20 k_0_20] [boxO b23 [.int .u8 i_1.Op, .int .i64 i_1.A, .int .i64 i_1.B] 45, arrK k_types_Row b1 [v_k_0_2, v_k_0_4, v_k_0_6, .int .i64 k_0_8, v_k_0_9, v_k_0_11, .int .u8 k_0_13, .bool k_0_14, .int .i64 k_0_15, .int .i64 k_0_16, .int .i64 k_0_17, v_k_0_18, v_k_0_20] 200 l22 [] 65] w2) ?_
        refine DT.take 0 rfl rfl rfl rfl (by kernel_rfl) (fun _ _ _ h => h) (Val.move rfl) (fun w2 hw => hw) ?_
        refine DT.take 1 rfl rfl rfl rfl (by kernel_rfl) (fun _ _ _ h => h) (Val.nilCheck rfl) (fun w2 hw => hw) ?_
        refine DT.take 2 rfl rfl rfl rfl (by kernel_rfl) (fun _ _ _ h => h) (Val.fieldAddr Tryd.underlying65 rfl sz33 rfl) (fun w2 hw => hw) ?_
        refine DT.take 3 rfl rfl rfl rfl (by kernel_rfl) (fun _ _ _ h => h) (Val.loadKPre1 see 1 rfl Tryd.underlying33 rfl rfl rfl) (fun w2 hw => hw) ?_
        refine DT.take 4 rfl rfl rfl rfl (by kernel_rfl) (fun _ _ _ h => h) (Val.fieldAddr Tryd.underlying45 rfl sz3 rfl) (fun w2 hw => hw) ?_
        refine DT.take 5 rfl rfl rfl rfl (by kernel_rfl) (fun _ _ _ h => h) (Val.load1 0 rfl Tryd.underlying3 rfl rfl rfl) (fun w2 hw => hw) ?_
        refine DT.next (by kernel_rfl) ?_
        refine DA.one 6 rfl (by kernel_rfl) ?_
        obtain ⟨x38, hx, ho⟩ := bind_some ho
        have hx := elt_some hx
        refine SP.indexP see 6 rfl Tryd.underlying33 sz5 hx.1 hx.2 rfl rfl rfl rfl (fun p36 => ?_)
        clear hx
        refine SP.nil ?_
        refine QE.atA ?_
        refine DA.one 7 rfl (by kernel_rfl) ?_
        refine SP.val (Val.loadP1 see 0 rfl (fun _ _ e => e) Tryd.underlying5 rfl rfl) rfl rfl rfl ?_
        refine SP.nil ?_
        refine QE.atA ?_
        refine DA.one 8 rfl (by kernel_rfl) ?_
        refine SP.val (Val.assign rfl) rfl rfl rfl ?_
        refine SP.nil ?_
        refine QE.atA ?_
        refine DA.done (by kernel_rfl) ?_
        refine QE.then ?_
        refine CP.ret ?_
        obtain rfl := Option.some.inj ho
        exact QE.rets (rs := [.tmp 4]) (vs := [.int .u8 x38]) Tryd.results76 rfl ⟨RVs.tmp rfl, trivial⟩ (fun w2 h => St.done (fun a b p s => ⟨rfl, s⟩) (St.selO [1] rfl rfl h))
    · refine CP.seq ?_
      refine CP.region ?_
      refine SP.val (Val.eql rfl rfl) rfl rfl rfl ?_
      refine SP.val (Val.assign rfl) rfl rfl rfl ?_
      refine SP.nil ?_
      refine QE.then ?_
      rcases if_some ho with ⟨hc, ho⟩ | ⟨hc, ho⟩
      · refine CP.condT rfl (decide_eq_true hc) ?_
        refine CP.skip ?_
        exact QE.meet fun a w2 ha hw => ⟨(decide (i_1.Op = 4)), ho, ha.sub ⟨rfl, rfl, rfl, trivial⟩, hw⟩
      · refine CP.condF rfl (decide_eq_false hc) ?_
        refine CP.region ?_
        refine SP.val (Val.eql rfl rfl) rfl rfl rfl ?_
        refine SP.val (Val.assign rfl) rfl rfl rfl ?_
        refine SP.nil ?_
        exact QE.meet fun a w2 ha hw => ⟨(decide (i_1.Op = 5)), ho, ha.sub ⟨rfl, rfl, rfl, trivial⟩, hw⟩
/-! ### slices.Reverse[[]uint8,uint8]: function 77 -/
shelf_lay_g SlLaysE.n35 Slgn 35 at Tryd 77 as Tryd.reverse77
/-- A row of numbers of one's own, turned round where it lies. -/
theorem reverse77_trip {v : Value} {l : List Int} (hll : l.length < 4611686018427387904) {w : World} {hP h1 : Hp} (sub : Sub hP (hp w)) (s1 : Sub h1 (hp w)) (dj : Dj hP h1) (hI : (slO (kInt .u8) 5 v l).p hP h1) :
    Trip Tryd.prog 77 #[v] h1 hP w (fun r => HO.pand (r = .tuple #[]) (HO.seps [slO (kInt .u8) 5 v l.reverse])) := by
  have h := slO.rowTrip (P := Tryd.prog) (f := 77) (fun v => #[v]) (fun _ => .tuple #[]) (fun x => [Value.int .u8 x]) (fun h cs x => Iff.rfl) (fun d : Array Int => d.toList.reverse.toArray) (fun d => by simp) (fun blk cap d w hH hb hsz _ _ => ?_) (fun _ w hV sV => ?_) hll sub s1 dj hI
  · simpa using h
  · have := AnyE.slices_Reverse Tryd.reverse77 (Value.int .u8) (fun _ => rfl) blk 0 cap d.toList w (holdsOne.1 hH) (by simp; omega)
    refine this.mono fun e w' ⟨h1, n, h2⟩ => ⟨h1, n, #[], h2.trans (Eq.trans ?_ (Eq.symm sortOne))⟩
    rw [grow_none]
  · refine (AnyE.slices_Reverse_empty Tryd.reverse77 none 0 w).mono fun e w' ⟨he, hw⟩ => ?_
    subst hw
    exact ⟨_, he, Met.refl _, fun _ _ e _ => e, em, em, fun _ _ _ => rfl, fun _ _ _ => rfl, Dj.em_left _, Sub.em _, Sub.em _, rfl⟩


/-! ### math/bits.Mul: function 93 -/
shelf_lay Lays.n212 Nm 212 at Tryd as Tryd.bitsMul93
def math_bits_Mul.f (x : Int) (y : Int) : Option (Int × Int) := if 0 ≤ x ∧ x < 18446744073709551616 ∧ 0 ≤ y ∧ y < 18446744073709551616 then some (x * y / 18446744073709551616, x * y % 18446744073709551616) else none
theorem math_bits_Mul.ok (x : Int) (y : Int) (r : Int × Int) (H : math_bits_Mul.f x y = some r) (w : World) (hV : Hp) (sV : Sub hV (hp w)) :
    Trip Tryd.prog 93 [.int .u64 x, .int .u64 y].toArray em hV w (fun v => HO.pure (v = .tuple #[.int .u64 r.1, .int .u64 r.2])) := by
  unfold math_bits_Mul.f at H
  obtain ⟨⟨h1, h2, h3, h4⟩, H⟩ := must_some H
  obtain rfl := Option.some.inj H
  obtain ⟨a, rfl⟩ := Int.eq_ofNat_of_zero_le h1
  obtain ⟨b, rfl⟩ := Int.eq_ofNat_of_zero_le h3
  refine (Any.bits_Mul Tryd.bitsMul93 a b (by omega) (by omega) w).mono fun e w' ⟨he, hw⟩ => ?_
  subst hw
  refine ⟨_, he, Met.refl _, fun _ _ e _ => e, em, em, fun _ _ _ => rfl, fun _ _ _ => rfl, Dj.em_left _, Sub.em _, Sub.em _, ?_⟩
  show Value.tuple _ = Value.tuple _
  simp


/-! ### slices.Repeat[[]uint8,uint8]: function 78 -/
inductive slices_Repeat_uint8_uint8.S where
  | start
  | l1 (l12 : List Int) (x14 : Int)

def slices_Repeat_uint8_uint8.j2 (x_0 : (List Int)) (count_1 : Int) (t3 : Int × Int) : Option (slices_Repeat_uint8_uint8.S ⊕ (List Int)) :=
  if (0 : Int) ≤ (IntKind.i64.wrap t3.2) ∧ (1 : Int) * (IntKind.i64.wrap t3.2) ≤ 281474976710656 ∧ ((IntKind.i64.wrap t3.2) : Int) ≤ 9223372036854775807 then (some (.inl (.l1 (x_0.take (List.replicate (IntKind.i64.wrap t3.2 : Int).toNat 0 : List Int).length ++ (List.replicate (IntKind.i64.wrap t3.2 : Int).toNat 0 : List Int).drop x_0.length) ((min x_0.length (List.replicate (IntKind.i64.wrap t3.2 : Int).toNat 0 : List Int).length : Nat) : Int)))) else none

def slices_Repeat_uint8_uint8.j1 (x_0 : (List Int)) (count_1 : Int)  : Option (slices_Repeat_uint8_uint8.S ⊕ (List Int)) :=
  (math_bits_Mul.f (IntKind.u64.wrap (x_0.length : Int)) (IntKind.u64.wrap count_1)).bind fun t3 => if ((decide (t3.1 > 0)) || (decide (t3.2 > 9223372036854775807))) = true then (none) else (slices_Repeat_uint8_uint8.j2 x_0 count_1 t3)

def slices_Repeat_uint8_uint8.F (x_0 : (List Int)) (count_1 : Int) : slices_Repeat_uint8_uint8.S → Option (slices_Repeat_uint8_uint8.S ⊕ (List Int))
  | .start => if count_1 < 0 then (none) else (slices_Repeat_uint8_uint8.j1 x_0 count_1)
  | .l1 l12 x14 => if x14 < (l12.length : Int) then (if (0 : Int) ≤ x14 ∧ x14 ≤ (l12.length : Int) then (if (0 : Int) ≤ x14 ∧ x14 ≤ (l12.length : Int) then (some (.inl (.l1 (l12.take (x14 : Int).toNat ++ l12.take (min (x14 : Int).toNat (l12.length - (x14 : Int).toNat)) ++ l12.drop ((x14 : Int).toNat + min (x14 : Int).toNat (l12.length - (x14 : Int).toNat))) (IntKind.i64.wrap (x14 + ((min (x14 : Int).toNat (l12.length - (x14 : Int).toNat) : Nat) : Int)))))) else none) else none) else (some (.inr l12))

def slices_Repeat_uint8_uint8.f (x_0 : (List Int)) (count_1 : Int) : Option (List Int) := runF (slices_Repeat_uint8_uint8.F x_0 count_1) .start
theorem slices_Repeat_uint8_uint8.ok (x_0 : (List Int)) (count_1 : Int) (v_x_0 : Value) (r : (List Int)) (H : slices_Repeat_uint8_uint8.f x_0 count_1 = some r) (w : World) (hV : Hp) (sV : Sub hV (hp w)) (h0 : slR (kInt .u8) hV v_x_0 x_0) :
    Trip Tryd.prog 78 [v_x_0, .int .i64 count_1].toArray em hV w (fun v => HO.ex fun u0 : Value => HO.pand (v = u0) (HO.seps [slO (kInt .u8) 5 u0 r])) := by
  have see : Sees w em hV := ⟨sV, Dj.em_right _⟩
  refine Trip.of (P := Tryd.prog) (n := ⟨48, []⟩) Tryd.func78 rfl ⟨rfl, rfl⟩ rfl (St.begin (All.cons (x := slP (kInt .u8) v_x_0 x_0) h0 (All.nil _))) ?_
  obtain ⟨n0, hi⟩ := runF_iff.1 H
  obtain ⟨m0, o, hm0, ho, hr⟩ := iter_some hi
  clear hi
  refine CP.seq ?_
  refine CP.region ?_
  refine SP.val (Val.assign rfl) rfl rfl rfl ?_
  refine SP.nil ?_
  refine QE.then ?_
  refine CP.join (fun a w2 => ∃ (m2 : Nat) (o : (slices_Repeat_uint8_uint8.S ⊕ (List Int))), m2 ≤ m0 ∧ slices_Repeat_uint8_uint8.j1 x_0 count_1 = some o ∧ next (slices_Repeat_uint8_uint8.F x_0 count_1) m2 o = some r ∧ Env ⟨48, []⟩ [(0, v_x_0), (1, .int .i64 count_1)] a ∧ St w em hV [slP (kInt .u8) v_x_0 x_0] [] w2) ?_ ?_
  · rintro a w2 ⟨m2, o, hm_m2, ho, hr, ha, hw⟩
    refine CP.app ha hw ?_
    clear ha hw a w2
    refine CP.seq ?_
    refine CP.region ?_
    refine SP.val (Val.move rfl) rfl rfl rfl ?_
    refine SP.val (Val.lenP see 0 rfl Tryd.underlying33 rfl) rfl rfl rfl ?_
    refine SP.val (Val.conv (by rw [Tryd.underlying3]; rfl) Tryd.underlying96 rfl) rfl rfl rfl ?_
    refine SP.val (Val.move rfl) rfl rfl rfl ?_
    refine SP.val (Val.conv (by rw [Tryd.underlying3]; rfl) Tryd.underlying96 rfl) rfl rfl rfl ?_
    obtain ⟨t3, hc, ho⟩ := bind_some (x := math_bits_Mul.f (IntKind.u64.wrap (x_0.length : Int)) (IntKind.u64.wrap count_1)) ho
    refine SP.callV see (caps := []) (.tuple #[.int .u64 t3.1, .int .u64 t3.2]) fn93 rfl rfl rfl rfl (fun w2 hP hs sub ap => math_bits_Mul.ok (IntKind.u64.wrap (x_0.length : Int)) (IntKind.u64.wrap count_1)  _ hc w2 hP sub ) ?_
    clear hc
    refine SP.val (Val.move rfl) rfl rfl rfl ?_
    refine SP.val (Val.extract rfl rfl) rfl rfl rfl ?_
    refine SP.val (Val.extract rfl rfl) rfl rfl rfl ?_
    refine SP.val (Val.assign rfl) rfl rfl rfl ?_
    refine SP.val (Val.assign rfl) rfl rfl rfl ?_
    refine SP.nil ?_
    refine QE.then ?_
    refine CP.join (fun a w2 => ∃ (m6 : Nat) (o : (slices_Repeat_uint8_uint8.S ⊕ (List Int))), m6 ≤ m2 ∧ slices_Repeat_uint8_uint8.j2 x_0 count_1 t3 = some o ∧ next (slices_Repeat_uint8_uint8.F x_0 count_1) m6 o = some r ∧ Env ⟨48, []⟩ [(0, v_x_0), (6, .int .u64 t3.2)] a ∧ St w em hV [slP (kInt .u8) v_x_0 x_0] [] w2) ?_ ?_
    · rintro a w2 ⟨m6, o, hm_m6, ho, hr, ha, hw⟩
      refine CP.app ha hw ?_
      clear ha hw a w2
      refine CP.seq ?_
      refine CP.region ?_
      refine SP.val (Val.move rfl) rfl rfl rfl ?_
      refine SP.val (Val.conv (by rw [Tryd.underlying96]; rfl) Tryd.underlying3 rfl) rfl rfl rfl ?_
      obtain ⟨hb, ho⟩ := must_some ho
      refine SP.makeO (k := (kInt .u8)) (z := 0) Tryd.underlying33 inf5 rfl (fun _ => rfl) rfl rfl rfl rfl hb (fun v7 => ?_)
      clear hb
      refine SP.val (Val.assign rfl) rfl rfl rfl ?_
      refine SP.nil ?_
      refine QE.then ?_
      refine CP.seq ?_
      refine CP.region ?_
      refine SP.val (Val.move rfl) rfl rfl rfl ?_
      refine SP.val (Val.move rfl) rfl rfl rfl ?_
      refine SP.copyIn see 0 rfl 0 rfl Tryd.underlying33 sz5 rfl rfl rfl rfl rfl ?_
      refine SP.val (Val.assign rfl) rfl rfl rfl ?_
      refine SP.nil ?_
      refine QE.then ?_
      refine CP.seq ?_
      refine CP.block ?_
      obtain rfl := Option.some.inj ho
      refine CP.loop (fun cl1 a w2 => ∃ l12 : List Int, ∃ x14 : Int, ∃ v13 : Value, cl1 ≤ m6 ∧ iter (slices_Repeat_uint8_uint8.F x_0 count_1) cl1 (.l1 l12 x14) = some r ∧ Env ⟨48, []⟩ [(7, v13), (8, .int .i64 x14)] a ∧ St w em hV [] [slO (kInt .u8) 5 v13 l12] w2) m6 (fun a w2 ha hw => ⟨(x_0.take (List.replicate (IntKind.i64.wrap t3.2 : Int).toNat 0 : List Int).length ++ (List.replicate (IntKind.i64.wrap t3.2 : Int).toNat 0 : List Int).drop x_0.length), ((min x_0.length (List.replicate (IntKind.i64.wrap t3.2 : Int).toNat 0 : List Int).length : Nat) : Int), v7, Nat.le_refl _, hr, ha.sub ⟨rfl, rfl, trivial⟩, (St.selP [] rfl hw)⟩) ?_
      clear hr
      rintro cl1 a w2 ⟨l12, x14, v13, hc_l1, hi, ha, hw⟩
      obtain ⟨m15, o, hm_m15, ho, hr⟩ := iter_some hi
      refine CP.app ha hw ?_
      clear ha hw a w2 hi
      refine CP.seq ?_
      refine CP.seq ?_
      refine CP.region ?_
      refine SP.val (Val.move rfl) rfl rfl rfl ?_
      refine SP.val (Val.move rfl) rfl rfl rfl ?_
      refine SP.val (Val.lenW (fun w2 hw => slO.whole (St.own 0 rfl see.sub see.dj hw)) Tryd.underlying33 rfl) rfl rfl rfl ?_
      refine SP.val (Val.lss rfl rfl) rfl rfl rfl ?_
      refine SP.nil ?_
      refine QE.then ?_
      rcases if_some ho with ⟨hc, ho⟩ | ⟨hc, ho⟩
      · refine CP.condT rfl (decide_eq_true hc) ?_
        refine CP.skip ?_
        refine QE.then ?_
        refine CP.block ?_
        refine CP.drawA (by kernel_rfl) (fun w2 k h => h.drawn k) ?_
        refine DA.phase (fun _ => true) (fun _ => True) ?_
        refine DT.take 0 rfl rfl rfl rfl (by kernel_rfl) (fun _ _ _ h => h) (Val.move rfl) (fun _ _ => trivial) ?_
        refine DT.take 1 rfl rfl rfl rfl (by kernel_rfl) (fun _ _ _ h => h) (Val.move rfl) (fun _ _ => trivial) ?_
        refine DT.take 2 rfl rfl rfl rfl (by kernel_rfl) (fun _ _ _ h => h) (Val.move rfl) (fun _ _ => trivial) ?_
        refine DT.take 4 rfl rfl rfl rfl (by kernel_rfl) (fun _ _ _ h => h) (Val.move rfl) (fun _ _ => trivial) ?_
        refine DT.take 5 rfl rfl rfl rfl (by kernel_rfl) (fun _ _ _ h => h) (Val.move rfl) (fun _ _ => trivial) ?_
        refine DT.list (l2 := #[true, true, true, false, true, true, false, false, false, false]) (by kernel_rfl) ?_
        refine DT.free ?_
        obtain ⟨hz16, ho⟩ := must_some ho
        obtain ⟨hz17, ho⟩ := must_some ho
        refine DA.phase (fun i => Nat.ble 0 i && Nat.blt i 7) (fun w2 => St w em hV [] [slO (kInt .u8) 5 v13 l12] w2) ?_
        refine DT.take 3 rfl rfl rfl rfl (by kernel_rfl) (fun _ _ _ h => h) (Val.sliceFrom see 0 rfl Tryd.underlying33 sz5 rfl rfl hz16) (fun w2 hw => hw) ?_
        refine DT.take 6 rfl rfl rfl rfl (by kernel_rfl) (fun _ _ _ h => h) (Val.sliceTo see 0 rfl Tryd.underlying33 sz5 rfl rfl hz17) (fun w2 hw => hw) ?_
        refine DT.next (by kernel_rfl) ?_
        refine DA.one 7 rfl (by kernel_rfl) ?_
        refine SP.copyOver see 0 rfl Tryd.underlying33 sz5 rfl (by omega) rfl rfl rfl rfl ?_
        refine SP.nil ?_
        refine QE.atA ?_
        refine DA.one 8 rfl (by kernel_rfl) ?_
        refine SP.val (Val.add rfl rfl) rfl rfl rfl ?_
        refine SP.nil ?_
        refine QE.atA ?_
        refine DA.one 9 rfl (by kernel_rfl) ?_
        refine SP.val (Val.assign rfl) rfl rfl rfl ?_
        refine SP.nil ?_
        refine QE.atA ?_
        refine DA.done (by kernel_rfl) ?_
        refine QE.blockN ?_
        obtain rfl := Option.some.inj ho
        exact QE.lower m15 (by omega) fun a w2 ha hw => ⟨(l12.take (x14 : Int).toNat ++ l12.take (min (x14 : Int).toNat (l12.length - (x14 : Int).toNat)) ++ l12.drop ((x14 : Int).toNat + min (x14 : Int).toNat (l12.length - (x14 : Int).toNat))), (IntKind.i64.wrap (x14 + ((min (x14 : Int).toNat (l12.length - (x14 : Int).toNat) : Nat) : Int))), v13, (by omega), hr, ha.sub ⟨rfl, rfl, trivial⟩, hw⟩
      · refine CP.condF rfl (decide_eq_false hc) ?_
        refine CP.exit ?_
        refine QE.thru (by intro e; cases e) ?_
        refine QE.thru (by intro e; cases e) ?_
        refine QE.blockE ?_
        refine QE.then ?_
        refine CP.seq ?_
        refine CP.region ?_
        refine SP.val (Val.move rfl) rfl rfl rfl ?_
        refine SP.val (Val.assign rfl) rfl rfl rfl ?_
        refine SP.nil ?_
        refine QE.then ?_
        refine CP.ret ?_
        obtain rfl := Option.some.inj ho
        obtain rfl := Option.some.inj hr
        exact QE.rets (rs := [.tmp 4]) (vs := [v13]) Tryd.results78 rfl ⟨RVs.tmp rfl, trivial⟩ (fun w2 h => St.done (fun a b p s => ⟨_, rfl, s⟩) (St.selO [0] rfl rfl h))
    · refine CP.seq ?_
      refine CP.region ?_
      refine SP.val (Val.move rfl) rfl rfl rfl ?_
      refine SP.val (Val.gtr rfl rfl) rfl rfl rfl ?_
      refine SP.val (Val.move rfl) rfl rfl rfl ?_
      refine SP.join 3 (fun a w2 => Env ⟨48, []⟩ [(0, v_x_0), (6, .int .u64 t3.2), (26, .bool ((decide (t3.1 > 0)) || (decide (t3.2 > 9223372036854775807))))] a ∧ St w em hV [slP (kInt .u8) v_x_0 x_0] [] w2) ?_ ?_
      · rintro a w2 ⟨ha, hw⟩
        refine SP.app ha hw ?_
        clear ha hw a w2
        refine SP.nil ?_
        refine QE.then ?_
        rcases if_some ho with ⟨hc, ho⟩ | ⟨hc, ho⟩
        · refine CP.condT rfl hc ?_
          cases ho
        · refine CP.condF rfl (bf hc) ?_
          refine CP.skip ?_
          exact QE.meet fun a w2 ha hw => ⟨m2, _, (by omega), ho, hr, ha.sub ⟨rfl, rfl, trivial⟩, hw⟩
      · intro J
        by_cases hc : t3.1 > 0
        · have hq5 := (decide_eq_true hc)
          refine SP.isT (d := 23) rfl hq5 ?_
          refine SP.not rfl rfl rfl ?_
          refine SP.not rfl rfl rfl ?_
          refine SP.val (Val.pickT rfl rfl) rfl rfl rfl ?_
          exact J fun a w2 ha hw => ⟨ha.sub ⟨rfl, rfl, congrArg (fun z => some (Value.bool z)) (or_t hq5), trivial⟩, hw⟩
        · have hq5 := (decide_eq_false hc)
          refine SP.isF (d := 23) rfl hq5 ?_
          refine SP.val (Val.move rfl) rfl rfl rfl ?_
          refine SP.val (Val.gtr rfl rfl) rfl rfl rfl ?_
          refine SP.val (Val.pickF rfl rfl) rfl rfl rfl ?_
          exact J fun a w2 ha hw => ⟨ha.sub ⟨rfl, rfl, congrArg (fun z => some (Value.bool z)) (or_f hq5 rfl), trivial⟩, hw⟩
  · refine CP.seq ?_
    refine CP.region ?_
    refine SP.val (Val.move rfl) rfl rfl rfl ?_
    refine SP.val (Val.lss rfl rfl) rfl rfl rfl ?_
    refine SP.nil ?_
    refine QE.then ?_
    rcases if_some ho with ⟨hc, ho⟩ | ⟨hc, ho⟩
    · refine CP.condT rfl (decide_eq_true hc) ?_
      cases ho
    · refine CP.condF rfl (decide_eq_false hc) ?_
      refine CP.skip ?_
      exact QE.meet fun a w2 ha hw => ⟨m0, _, (by omega), ho, hr, ha.sub ⟨rfl, rfl, trivial⟩, hw⟩
/-! ### (*capstan/types.look).shape: function 58 -/
def types_look_shape_s1.j1 (k_0_2 : List api_Value) (k_0_4 : List api_Value) (k_0_6 : List api_Method) (k_0_8 : Int) (k_0_9 : List Int) (k_0_11 : List Int) (k_0_13 : Int) (k_0_14 : Bool) (k_0_15 : Int) (k_0_16 : Int) (k_0_17 : Int) (k_0_18 : List api_Instr) (k_0_20 : List Int) (l22 : List types_Row) (i_1 : api_Instr) (row_2 : (List Int)) (l5302 : List types_Row) (l5304 : List Int) (l5307 : List Int) : Option (op_Shape × (List types_Row)) :=
  some ((⟨l5304, l5307⟩ : op_Shape), l5302)

def types_look_shape_s1.j2 (k_0_2 : List api_Value) (k_0_4 : List api_Value) (k_0_6 : List api_Method) (k_0_8 : Int) (k_0_9 : List Int) (k_0_11 : List Int) (k_0_13 : Int) (k_0_14 : Bool) (k_0_15 : Int) (k_0_16 : Int) (k_0_17 : Int) (k_0_18 : List api_Instr) (k_0_20 : List Int) (l22 : List types_Row) (i_1 : api_Instr) (row_2 : (List Int)) (t28 : op_Shape × Bool) (l5300 : List Int) : Option (op_Shape × (List types_Row)) :=
  types_look_shape_s1.j1 k_0_2 k_0_4 k_0_6 k_0_8 k_0_9 k_0_11 k_0_13 k_0_14 k_0_15 k_0_16 k_0_17 k_0_18 k_0_20 l22 i_1 row_2 l22 [0] l5300

def types_look_shape_s1.j4 (k_0_2 : List api_Value) (k_0_4 : List api_Value) (k_0_6 : List api_Method) (k_0_8 : Int) (k_0_9 : List Int) (k_0_11 : List Int) (k_0_13 : Int) (k_0_14 : Bool) (k_0_15 : Int) (k_0_16 : Int) (k_0_17 : Int) (k_0_18 : List api_Instr) (k_0_20 : List Int) (l22 : List types_Row) (i_1 : api_Instr) (row_2 : (List Int)) (t28 : op_Shape × Bool) (t37 : (List Int)) (b46 : Bool) : Option (op_Shape × (List types_Row)) :=
  if b46 = true then ((types_look_named_s1.f k_0_2 k_0_4 k_0_6 k_0_8 k_0_9 k_0_11 k_0_13 k_0_14 k_0_15 k_0_16 k_0_17 k_0_18 k_0_20 l22 i_1).bind fun t47 => types_look_shape_s1.j1 k_0_2 k_0_4 k_0_6 k_0_8 k_0_9 k_0_11 k_0_13 k_0_14 k_0_15 k_0_16 k_0_17 k_0_18 k_0_20 l22 i_1 row_2 t47.2 [t47.1] t28.1.Gives) else (if i_1.Op = 30 then ((elt k_0_6 i_1.A).bind fun x52 => (elt k_0_6 i_1.A).bind fun x60 => types_look_shape_s1.j1 k_0_2 k_0_4 k_0_6 k_0_8 k_0_9 k_0_11 k_0_13 k_0_14 k_0_15 k_0_16 k_0_17 k_0_18 k_0_20 l22 i_1 row_2 l22 x52.Args [x60.Result]) else (if i_1.Op = 31 then (types_look_shape_s1.j1 k_0_2 k_0_4 k_0_6 k_0_8 k_0_9 k_0_11 k_0_13 k_0_14 k_0_15 k_0_16 k_0_17 k_0_18 k_0_20 l22 i_1 row_2 l22 [k_0_13] t28.1.Gives) else (if i_1.Op = 8 then (if t37.length < 4611686018427387904 then (if ([0].length + [0].length) * 1 ≤ 140737488355328 then (types_look_shape_s1.j1 k_0_2 k_0_4 k_0_6 k_0_8 k_0_9 k_0_11 k_0_13 k_0_14 k_0_15 k_0_16 k_0_17 k_0_18 k_0_20 l22 i_1 row_2 l22 ([0] ++ [0]) t37.reverse) else none) else none) else (if i_1.Op = 7 then (if (t37.length : Int) > 0 then (if (0 : Int) ≤ (IntKind.i64.wrap ((t37.length : Int) - 1)) ∧ (IntKind.i64.wrap ((t37.length : Int) - 1)) ≤ (t37.length : Int) then ((slices_Repeat_uint8_uint8.f (t37.drop (IntKind.i64.wrap ((t37.length : Int) - 1) : Int).toNat) 2).bind fun t5296 => types_look_shape_s1.j2 k_0_2 k_0_4 k_0_6 k_0_8 k_0_9 k_0_11 k_0_13 k_0_14 k_0_15 k_0_16 k_0_17 k_0_18 k_0_20 l22 i_1 row_2 t28 t5296) else none) else (types_look_shape_s1.j2 k_0_2 k_0_4 k_0_6 k_0_8 k_0_9 k_0_11 k_0_13 k_0_14 k_0_15 k_0_16 k_0_17 k_0_18 k_0_20 l22 i_1 row_2 t28 t28.1.Gives)) else (types_look_shape_s1.j2 k_0_2 k_0_4 k_0_6 k_0_8 k_0_9 k_0_11 k_0_13 k_0_14 k_0_15 k_0_16 k_0_17 k_0_18 k_0_20 l22 i_1 row_2 t28 t28.1.Gives)))))

def types_look_shape_s1.j3 (k_0_2 : List api_Value) (k_0_4 : List api_Value) (k_0_6 : List api_Method) (k_0_8 : Int) (k_0_9 : List Int) (k_0_11 : List Int) (k_0_13 : Int) (k_0_14 : Bool) (k_0_15 : Int) (k_0_16 : Int) (k_0_17 : Int) (k_0_18 : List api_Instr) (k_0_20 : List Int) (l22 : List types_Row) (i_1 : api_Instr) (row_2 : (List Int)) (t28 : op_Shape × Bool) (t37 : (List Int)) (b42 : Bool) : Option (op_Shape × (List types_Row)) :=
  if b42 = true then ((types_look_named_s1.f k_0_2 k_0_4 k_0_6 k_0_8 k_0_9 k_0_11 k_0_13 k_0_14 k_0_15 k_0_16 k_0_17 k_0_18 k_0_20 l22 i_1).bind fun t43 => types_look_shape_s1.j1 k_0_2 k_0_4 k_0_6 k_0_8 k_0_9 k_0_11 k_0_13 k_0_14 k_0_15 k_0_16 k_0_17 k_0_18 k_0_20 l22 i_1 row_2 t43.2 t28.1.Takes [t43.1]) else (if i_1.Op = 3 then (types_look_shape_s1.j4 k_0_2 k_0_4 k_0_6 k_0_8 k_0_9 k_0_11 k_0_13 k_0_14 k_0_15 k_0_16 k_0_17 k_0_18 k_0_20 l22 i_1 row_2 t28 t37 (decide (i_1.Op = 3))) else (types_look_shape_s1.j4 k_0_2 k_0_4 k_0_6 k_0_8 k_0_9 k_0_11 k_0_13 k_0_14 k_0_15 k_0_16 k_0_17 k_0_18 k_0_20 l22 i_1 row_2 t28 t37 (decide (i_1.Op = 5))))

def types_look_shape_s1.f (k_0_2 : List api_Value) (k_0_4 : List api_Value) (k_0_6 : List api_Method) (k_0_8 : Int) (k_0_9 : List Int) (k_0_11 : List Int) (k_0_13 : Int) (k_0_14 : Bool) (k_0_15 : Int) (k_0_16 : Int) (k_0_17 : Int) (k_0_18 : List api_Instr) (k_0_20 : List Int) (l22 : List types_Row) (i_1 : api_Instr) (row_2 : (List Int)) : Option (op_Shape × (List types_Row)) :=
  (op_Of.f i_1.Op).bind fun t28 => if t28.2 = true then (some (t28.1, l22)) else (if (0 : Int) ≤ (if (IntKind.i64.wrap ((row_2.length : Int) - 2)) > 0 then IntKind.i64.wrap ((row_2.length : Int) - 2) else 0) ∧ (if (IntKind.i64.wrap ((row_2.length : Int) - 2)) > 0 then IntKind.i64.wrap ((row_2.length : Int) - 2) else 0) ≤ (row_2.length : Int) then ((slices_Clone_uint8_uint8.f (row_2.drop (if (IntKind.i64.wrap ((row_2.length : Int) - 2)) > 0 then IntKind.i64.wrap ((row_2.length : Int) - 2) else 0 : Int).toNat)).bind fun t37 => if i_1.Op = 1 then (types_look_shape_s1.j3 k_0_2 k_0_4 k_0_6 k_0_8 k_0_9 k_0_11 k_0_13 k_0_14 k_0_15 k_0_16 k_0_17 k_0_18 k_0_20 l22 i_1 row_2 t28 t37 (decide (i_1.Op = 1))) else (if i_1.Op = 2 then (types_look_shape_s1.j3 k_0_2 k_0_4 k_0_6 k_0_8 k_0_9 k_0_11 k_0_13 k_0_14 k_0_15 k_0_16 k_0_17 k_0_18 k_0_20 l22 i_1 row_2 t28 t37 (decide (i_1.Op = 2))) else (types_look_shape_s1.j3 k_0_2 k_0_4 k_0_6 k_0_8 k_0_9 k_0_11 k_0_13 k_0_14 k_0_15 k_0_16 k_0_17 k_0_18 k_0_20 l22 i_1 row_2 t28 t37 (decide (i_1.Op = 4))))) else none)
theorem types_look_shape_s1.ok (k_0_2 : List api_Value) (k_0_4 : List api_Value) (k_0_6 : List api_Method) (k_0_8 : Int) (k_0_9 : List Int) (k_0_11 : List Int) (k_0_13 : Int) (k_0_14 : Bool) (k_0_15 : Int) (k_0_16 : Int) (k_0_17 : Int) (k_0_18 : List api_Instr) (k_0_20 : List Int) (l22 : List types_Row) (i_1 : api_Instr) (row_2 : (List Int)) (v_k_0_2 : Value) (v_k_0_4 : Value) (v_k_0_6 : Value) (v_k_0_9 : Value) (v_k_0_11 : Value) (v_k_0_18 : Value) (v_k_0_20 : Value) (v_row_2 : Value) (r : op_Shape × (List types_Row)) (H : types_look_shape_s1.f k_0_2 k_0_4 k_0_6 k_0_8 k_0_9 k_0_11 k_0_13 k_0_14 k_0_15 k_0_16 k_0_17 k_0_18 k_0_20 l22 i_1 row_2 = some r) (w : World) (hV : Hp) (sV : Sub hV (hp w)) (h0 : slR k_api_Value hV v_k_0_2 k_0_2) (h1 : slR k_api_Value hV v_k_0_4 k_0_4) (h2 : slR k_api_Method hV v_k_0_6 k_0_6) (h3 : slR (kInt .u8) hV v_k_0_9 k_0_9) (h4 : slR (kInt .u8) hV v_k_0_11 k_0_11) (h5 : slR k_api_Instr hV v_k_0_18 k_0_18) (h6 : slR (kInt .u8) hV v_k_0_20 k_0_20) (h7 : slR (kInt .u8) hV v_row_2 row_2) (b1 : Nat) (hA : Hp) (sA : Sub hA (hp w)) (dA : Dj hV hA) (hI : (arrK k_types_Row b1 [v_k_0_2, v_k_0_4, v_k_0_6, .int .i64 k_0_8, v_k_0_9, v_k_0_11, .int .u8 k_0_13, .bool k_0_14, .int .i64 k_0_15, .int .i64 k_0_16, .int .i64 k_0_17, v_k_0_18, v_k_0_20] 200 l22 [] 65).p hV hA) :
    Trip Tryd.prog 58 [.pointer (some ⟨b1, 0, none⟩), .agg #[.int .u8 i_1.Op, .int .i64 i_1.A, .int .i64 i_1.B], v_row_2].toArray hA hV w (fun v => HO.ex fun u0 : Value => HO.ex fun u1 : Value => HO.pand (v = .agg #[u0, u1]) (HO.seps [HO.ofP (slP (kInt .u8) u0 r.1.Takes), slO (kInt .u8) 5 u1 r.1.Gives, arrK k_types_Row b1 [v_k_0_2, v_k_0_4, v_k_0_6, .int .i64 k_0_8, v_k_0_9, v_k_0_11, .int .u8 k_0_13, .bool k_0_14, .int .i64 k_0_15, .int .i64 k_0_16, .int .i64 k_0_17, v_k_0_18, v_k_0_20] 200 r.2 [] 65])) := by
  have see : Sees w hA hV := ⟨sV, dA⟩
  refine Trip.of (P := Tryd.prog) (n := ⟨106, []⟩) Tryd.func58 rfl ⟨rfl, rfl⟩ rfl (St.beginA (os := [arrK k_types_Row b1 [v_k_0_2, v_k_0_4, v_k_0_6, .int .i64 k_0_8, v_k_0_9, v_k_0_11, .int .u8 k_0_13, .bool k_0_14, .int .i64 k_0_15, .int .i64 k_0_16, .int .i64 k_0_17, v_k_0_18, v_k_0_20] 200 l22 [] 65]) sA (All.cons (x := slP k_api_Value v_k_0_2 k_0_2) h0 (All.cons (x := slP k_api_Value v_k_0_4 k_0_4) h1 (All.cons (x := slP k_api_Method v_k_0_6 k_0_6) h2 (All.cons (x := slP (kInt .u8) v_k_0_9 k_0_9) h3 (All.cons (x := slP (kInt .u8) v_k_0_11 k_0_11) h4 (All.cons (x := slP k_api_Instr v_k_0_18 k_0_18) h5 (All.cons (x := slP (kInt .u8) v_k_0_20 k_0_20) h6 (All.cons (x := slP (kInt .u8) v_row_2 row_2) h7 (All.nil _))))))))) ⟨hA, em, Dj.em_right _, Sub.refl _, Sub.em _, hI, trivial⟩) ?_
  have ho := H
  refine CP.seq ?_
  refine CP.region ?_
  refine SP.box (cs := [.int .u8 i_1.Op, .int .i64 i_1.A, .int .i64 i_1.B]) rfl rfl rfl rfl (fun b24 => ?_)
  refine SP.alloc (cs := [(.slice none 0 0), (.slice none 0 0)]) inf75 rfl rfl (fun b26 => ?_)
  refine SP.nil ?_
  refine QE.then ?_
  refine CP.seq ?_
  refine CP.region ?_
  refine SP.val (Val.fieldAddr Tryd.underlying45 rfl sz5 rfl) rfl rfl rfl ?_
  refine SP.val (Val.load1 1 rfl Tryd.underlying5 rfl rfl rfl) rfl rfl rfl ?_
  obtain ⟨t28, hc, ho⟩ := bind_some (x := op_Of.f i_1.Op) ho
  refine SP.callK see (caps := []) _ fn31 rfl rfl rfl rfl (fun w2 hP hs sub ap => op_Of.ok i_1.Op  _ hc w2 hP sub ) (fun vr => ?_)
  refine SP.ex (fun w2 h => St.open h) (fun v29 => ?_)
  refine SP.ex (fun w2 h => St.open h) (fun v30 => ?_)
  refine SP.have (fun w2 h => (St.pand h).1.symm) (fun er => ?_)
  subst er
  refine SP.imp (fun w2 h => St.seps (St.pand h).2) ?_
  clear hc
  refine SP.val (Val.move rfl) rfl rfl rfl ?_
  refine SP.val (Val.extract rfl rfl) rfl rfl rfl ?_
  refine SP.val (Val.extract rfl rfl) rfl rfl rfl ?_
  refine SP.alloc (cs := [(.slice none 0 0), (.slice none 0 0)]) inf75 rfl rfl (fun b33 => ?_)
  refine SP.have (fun w2 hw => slO.shape (St.own 1 rfl see.sub see.dj hw)) (fun hs_v29 => ?_)
  refine SP.have (fun w2 hw => slO.shape (St.own 2 rfl see.sub see.dj hw)) (fun hs_v30 => ?_)
  refine SP.store (v := .agg #[v29, v30]) (vs := [v29, v30]) 0 (by rfl) sz75 (by rfl) (by rfl) (by rfl) (by rfl) (one_cons hs_v29 (one_cons hs_v30 (rfl))) (by rfl) ?_
  refine SP.val (Val.assign rfl) rfl rfl rfl ?_
  refine SP.nil ?_
  refine QE.then ?_
  refine CP.seq ?_
  refine CP.seq ?_
  refine CP.region ?_
  refine SP.val (Val.move rfl) rfl rfl rfl ?_
  refine SP.nil ?_
  refine QE.then ?_
  rcases if_some ho with ⟨hc, ho⟩ | ⟨hc, ho⟩
  · refine CP.condT rfl hc ?_
    refine CP.seq ?_
    refine CP.region ?_
    refine SP.val (Val.loadA 0 rfl Tryd.underlying75 rfl sz75 rfl rfl rfl) rfl rfl rfl ?_
    refine SP.have (fun w2 hw => slO.shape (St.own 1 rfl see.sub see.dj hw)) (fun hs_v29 => ?_)
    refine SP.have (fun w2 hw => slO.shape (St.own 2 rfl see.sub see.dj hw)) (fun hs_v30 => ?_)
    refine SP.store (v := .agg #[v29, v30]) (vs := [v29, v30]) 3 (by rfl) sz75 (by rfl) (by rfl) (by rfl) (by rfl) (one_cons hs_v29 (one_cons hs_v30 (rfl))) (by rfl) ?_
    refine SP.nil ?_
    refine QE.then ?_
    refine CP.ret ?_
    refine QE.thru (by intro e; cases e) ?_
    obtain rfl := Option.some.inj ho
    exact QE.rets (rs := [.cell 6 75]) (vs := [.agg #[v29, v30]]) Tryd.results58 rfl ⟨RVs.cellA 3 rfl rfl Tryd.underlying75 rfl sz75, trivial⟩ (fun w2 h => St.done (fun a b p s => ⟨_, _, rfl, ⟨em, _, Dj.em_left _, Sub.em _, Sub.refl _, p.get 0 rfl, s⟩⟩) (St.selO [1, 4] rfl rfl (St.freezeS h 1 rfl see)))
  · refine CP.condF rfl (bf hc) ?_
    refine CP.skip ?_
    refine QE.then ?_
    refine CP.seq ?_
    refine CP.region ?_
    refine SP.val (Val.move rfl) rfl rfl rfl ?_
    refine SP.val (Val.move rfl) rfl rfl rfl ?_
    refine SP.val (Val.lenP see 7 rfl Tryd.underlying33 rfl) rfl rfl rfl ?_
    refine SP.val (Val.sub rfl rfl) rfl rfl rfl ?_
    refine SP.val (Val.max2 rfl rfl) rfl rfl rfl ?_
    obtain ⟨hz, ho⟩ := must_some ho
    refine SP.sliceFromP see 7 rfl Tryd.underlying33 sz5 rfl rfl hz rfl rfl (fun v35 => ?_)
    clear hz
    obtain ⟨t37, hc, ho⟩ := bind_some (x := slices_Clone_uint8_uint8.f (row_2.drop (if (IntKind.i64.wrap ((row_2.length : Int) - 2)) > 0 then IntKind.i64.wrap ((row_2.length : Int) - 2) else 0 : Int).toNat)) ho
    refine SP.callK see (caps := []) _ fn27 rfl rfl rfl rfl (fun w2 hP hs sub ap => slices_Clone_uint8_uint8.ok (row_2.drop (if (IntKind.i64.wrap ((row_2.length : Int) - 2)) > 0 then IntKind.i64.wrap ((row_2.length : Int) - 2) else 0 : Int).toNat) _ _ hc w2 hP sub (ap.get 0 rfl)) (fun vr => ?_)
    refine SP.ex (fun w2 h => St.open h) (fun v38 => ?_)
    refine SP.have (fun w2 h => (St.pand h).1.symm) (fun er => ?_)
    subst er
    refine SP.imp (fun w2 h => St.seps (St.pand h).2) ?_
    clear hc
    refine SP.val (Val.assign rfl) rfl rfl rfl ?_
    refine SP.nil ?_
    refine QE.then ?_
    refine CP.seq ?_
    refine CP.region ?_
    refine SP.lit (k := (kInt .u8)) (xs := [0]) (vs := [.int .u8 0]) (cells := [.int .u8 0]) Tryd.underlying33 inf5 rfl rfl rfl rfl rfl rfl rfl rfl (fun _ ap => ⟨[.int .u8 0], _, rfl, rfl, rfl⟩) rfl rfl rfl (fun v40 => ?_)
    refine SP.val (Val.assign rfl) rfl rfl rfl ?_
    refine SP.nil ?_
    refine QE.then ?_
    refine CP.join (fun a w2 => ∃ l5302 : List types_Row, ∃ l5304 : List Int, ∃ l5307 : List Int, ∃ v5305 : Value, ∃ v5308 : Value, types_look_shape_s1.j1 k_0_2 k_0_4 k_0_6 k_0_8 k_0_9 k_0_11 k_0_13 k_0_14 k_0_15 k_0_16 k_0_17 k_0_18 k_0_20 l22 i_1 row_2 l5302 l5304 l5307 = some r ∧ Env ⟨106, []⟩ [(6, .pointer (some ⟨b26, 0, none⟩)), (7, .pointer (some ⟨b33, 0, none⟩))] a ∧ St w hA hV [slP (kInt .u8) v5305 l5304, slP k_api_Value v_k_0_2 k_0_2, slP k_api_Value v_k_0_4 k_0_4, slP k_api_Method v_k_0_6 k_0_6, slP (kInt .u8) v_k_0_9 k_0_9, slP (kInt .u8) v_k_0_11 k_0_11, slP k_api_Instr v_k_0_18 k_0_18, slP (kInt .u8) v_k_0_20 k_0_20] [slO (kInt .u8) 5 v5308 l5307, arrK k_types_Row b1 [v_k_0_2, v_k_0_4, v_k_0_6, .int .i64 k_0_8, v_k_0_9, v_k_0_11, .int .u8 k_0_13, .bool k_0_14, .int .i64 k_0_15, .int .i64 k_0_16, .int .i64 k_0_17, v_k_0_18, v_k_0_20] 200 l5302 [] 65, boxO b33 [v5305, v5308] 75, boxO b26 [(.slice none 0 0), (.slice none 0 0)] 75] w2) ?_ ?_
    · rintro a w2 ⟨l5302, l5304, l5307, v5305, v5308, ho, ha, hw⟩
      refine CP.app ha hw ?_
      clear ha hw a w2
      refine CP.seq ?_
      refine CP.region ?_
      refine SP.val (Val.loadA 2 rfl Tryd.underlying75 rfl sz75 rfl rfl rfl) rfl rfl rfl ?_
      refine SP.have (fun w2 hw => slR.shape (St.pers 0 rfl see.sub see.dj hw)) (fun hs_v5305 => ?_)
      refine SP.have (fun w2 hw => slO.shape (St.own 0 rfl see.sub see.dj hw)) (fun hs_v5308 => ?_)
      refine SP.store (v := .agg #[v5305, v5308]) (vs := [v5305, v5308]) 3 (by rfl) sz75 (by rfl) (by rfl) (by rfl) (by rfl) (one_cons hs_v5305 (one_cons hs_v5308 (rfl))) (by rfl) ?_
      refine SP.nil ?_
      refine QE.then ?_
      refine CP.ret ?_
      obtain rfl := Option.some.inj ho
      exact QE.rets (rs := [.cell 6 75]) (vs := [.agg #[v5305, v5308]]) Tryd.results58 rfl ⟨RVs.cellA 3 rfl rfl Tryd.underlying75 rfl sz75, trivial⟩ (fun w2 h => St.done (fun a b p s => ⟨_, _, rfl, ⟨em, _, Dj.em_left _, Sub.em _, Sub.refl _, p.get 0 rfl, s⟩⟩) (St.selO [0, 1] rfl rfl h))
    · refine CP.seq ?_
      refine CP.region ?_
      refine SP.val (Val.fieldAddr Tryd.underlying45 rfl sz5 rfl) rfl rfl rfl ?_
      refine SP.val (Val.load1 6 rfl Tryd.underlying5 rfl rfl rfl) rfl rfl rfl ?_
      refine SP.nil ?_
      refine QE.then ?_
      refine CP.block ?_
      refine CP.join (fun a w2 => ∃ l5300 : List Int, ∃ v5301 : Value, types_look_shape_s1.j2 k_0_2 k_0_4 k_0_6 k_0_8 k_0_9 k_0_11 k_0_13 k_0_14 k_0_15 k_0_16 k_0_17 k_0_18 k_0_20 l22 i_1 row_2 t28 l5300 = some r ∧ Env ⟨106, []⟩ [(6, .pointer (some ⟨b26, 0, none⟩)), (7, .pointer (some ⟨b33, 0, none⟩)), (10, v40)] a ∧ St w hA hV [slP k_api_Value v_k_0_2 k_0_2, slP k_api_Value v_k_0_4 k_0_4, slP k_api_Method v_k_0_6 k_0_6, slP (kInt .u8) v_k_0_9 k_0_9, slP (kInt .u8) v_k_0_11 k_0_11, slP k_api_Instr v_k_0_18 k_0_18, slP (kInt .u8) v_k_0_20 k_0_20] [slO (kInt .u8) 5 v5301 l5300, slO (kInt .u8) 5 v40 [0], boxO b33 [v29, v5301] 75, slO (kInt .u8) 5 v29 t28.1.Takes, boxO b26 [(.slice none 0 0), (.slice none 0 0)] 75, arrK k_types_Row b1 [v_k_0_2, v_k_0_4, v_k_0_6, .int .i64 k_0_8, v_k_0_9, v_k_0_11, .int .u8 k_0_13, .bool k_0_14, .int .i64 k_0_15, .int .i64 k_0_16, .int .i64 k_0_17, v_k_0_18, v_k_0_20] 200 l22 [] 65] w2) ?_ ?_
      · rintro a w2 ⟨l5300, v5301, ho, ha, hw⟩
        refine CP.app ha hw ?_
        clear ha hw a w2
        refine CP.seq ?_
        refine CP.region ?_
        refine SP.val (Val.move rfl) rfl rfl rfl ?_
        refine SP.val (Val.fieldAddr Tryd.underlying75 rfl sz33 rfl) rfl rfl rfl ?_
        refine SP.have (fun w2 hw => slO.shape (St.own 1 rfl see.sub see.dj hw)) (fun hs_v40 => ?_)
        refine SP.store (v := v40) (vs := [v40]) 2 (by rfl) sz33 (by rfl) (by rfl) (by rfl) (one_cells hs_v40) (one_cons hs_v40 (rfl)) (by rfl) ?_
        refine SP.nil ?_
        refine QE.then ?_
        refine CP.exit ?_
        refine QE.blockE ?_
        exact QE.meet fun a w2 ha hw => ⟨l22, [0], l5300, v40, v5301, ho, ha.sub ⟨rfl, rfl, trivial⟩, (St.selO [0, 4, 1, 3] rfl rfl (St.freezeS hw 1 rfl see))⟩
      · refine CP.block ?_
        refine CP.seq ?_
        refine CP.block ?_
        refine CP.seq ?_
        refine CP.block ?_
        refine CP.seq ?_
        refine CP.block ?_
        refine CP.seq ?_
        refine CP.block ?_
        refine CP.seq ?_
        refine CP.block ?_
        refine CP.seq ?_
        refine CP.block ?_
        refine CP.seq ?_
        refine CP.seq ?_
        refine CP.join (fun a w2 => ∃ b42 : Bool, types_look_shape_s1.j3 k_0_2 k_0_4 k_0_6 k_0_8 k_0_9 k_0_11 k_0_13 k_0_14 k_0_15 k_0_16 k_0_17 k_0_18 k_0_20 l22 i_1 row_2 t28 t37 b42 = some r ∧ Env ⟨106, []⟩ [(0, .pointer (some ⟨b1, 0, none⟩)), (4, .pointer (some ⟨b24, 0, none⟩)), (6, .pointer (some ⟨b26, 0, none⟩)), (7, .pointer (some ⟨b33, 0, none⟩)), (9, v38), (10, v40), (28, .int .u8 i_1.Op), (29, .bool b42)] a ∧ St w hA hV [slP k_api_Value v_k_0_2 k_0_2, slP k_api_Value v_k_0_4 k_0_4, slP k_api_Method v_k_0_6 k_0_6, slP (kInt .u8) v_k_0_9 k_0_9, slP (kInt .u8) v_k_0_11 k_0_11, slP k_api_Instr v_k_0_18 k_0_18, slP (kInt .u8) v_k_0_20 k_0_20] [slO (kInt .u8) 5 v40 [0], slO (kInt .u8) 5 v38 t37, boxO b33 [v29, v30] 75, slO (kInt .u8) 5 v29 t28.1.Takes, slO (kInt .u8) 5 v30 t28.1.Gives, boxO b26 [(.slice none 0 0), (.slice none 0 0)] 75, boxO b24 [.int .u8 i_1.Op, .int .i64 i_1.A, .int .i64 i_1.B] 45, arrK k_types_Row b1 [v_k_0_2, v_k_0_4, v_k_0_6, .int .i64 k_0_8, v_k_0_9, v_k_0_11, .int .u8 k_0_13, .bool k_0_14, .int .i64 k_0_15, .int .i64 k_0_16, .int .i64 k_0_17, v_k_0_18, v_k_0_20] 200 l22 [] 65] w2) ?_ ?_
        · rintro a w2 ⟨b42, ho, ha, hw⟩
          refine CP.app ha hw ?_
          clear ha hw a w2
          rcases if_some ho with ⟨hc, ho⟩ | ⟨hc, ho⟩
          · refine CP.condT rfl hc ?_
            refine CP.exit ?_
            refine QE.thru (by intro e; cases e) ?_
            refine QE.thru (by intro e; cases e) ?_
            refine QE.blockE ?_
            refine QE.then ?_
            refine CP.seq ?_
            refine CP.region ?_
            refine SP.val (Val.move rfl) rfl rfl rfl ?_
            refine SP.val (Val.loadA 6 rfl Tryd.underlying45 rfl sz45 rfl rfl rfl) rfl rfl rfl ?_
            refine SP.imp (fun w2 hw => St.selO [7, 0, 1, 2, 3, 4, 5, 6] rfl rfl hw) ?_
            obtain ⟨t43, hc, ho⟩ := bind_some (x := types_look_named_s1.f k_0_2 k_0_4 k_0_6 k_0_8 k_0_9 k_0_11 k_0_13 k_0_14 k_0_15 k_0_16 k_0_17 k_0_18 k_0_20 l22 i_1) ho
            refine SP.callA see (caps := []) (X := arrK k_types_Row b1 [v_k_0_2, v_k_0_4, v_k_0_6, .int .i64 k_0_8, v_k_0_9, v_k_0_11, .int .u8 k_0_13, .bool k_0_14, .int .i64 k_0_15, .int .i64 k_0_16, .int .i64 k_0_17, v_k_0_18, v_k_0_20] 200 l22 [] 65) _ fn76 rfl rfl rfl rfl (fun w2 hP h1 sub s1 d1 ap hI => types_look_named_s1.ok k_0_2 k_0_4 k_0_6 k_0_8 k_0_9 k_0_11 k_0_13 k_0_14 k_0_15 k_0_16 k_0_17 k_0_18 k_0_20 l22 i_1 _ _ _ _ _ _ _ _ hc w2 hP sub (ap.get 0 rfl) (ap.get 1 rfl) (ap.get 2 rfl) (ap.get 3 rfl) (ap.get 4 rfl) (ap.get 5 rfl) (ap.get 6 rfl) _ h1 s1 d1 hI) (fun vr => ?_)
            refine SP.have (fun w2 h => (St.pand h).1.symm) (fun er => ?_)
            subst er
            refine SP.imp (fun w2 h => St.seps (St.pand h).2) ?_
            clear hc
            refine SP.lit (k := (kInt .u8)) (xs := [t43.1]) (vs := [.int .u8 t43.1]) (cells := [.int .u8 t43.1]) Tryd.underlying33 inf5 rfl rfl rfl rfl rfl rfl rfl rfl (fun _ ap => ⟨[.int .u8 t43.1], _, rfl, rfl, rfl⟩) rfl rfl rfl (fun v44 => ?_)
            refine SP.val (Val.fieldAddr Tryd.underlying75 rfl sz33 rfl) rfl rfl rfl ?_
            refine SP.have (fun w2 hw => slO.shape (St.own 0 rfl see.sub see.dj hw)) (fun hs_v44 => ?_)
            refine SP.store (v := v44) (vs := [v44]) 4 (by rfl) sz33 (by rfl) (by rfl) (by rfl) (one_cells hs_v44) (one_cons hs_v44 (rfl)) (by rfl) ?_
            refine SP.nil ?_
            refine QE.then ?_
            refine CP.exit ?_
            refine QE.blockX rfl ?_
            refine QE.thru (by intro e; cases e) ?_
            refine QE.blockX rfl ?_
            refine QE.thru (by intro e; cases e) ?_
            refine QE.blockX rfl ?_
            refine QE.thru (by intro e; cases e) ?_
            refine QE.blockX rfl ?_
            refine QE.thru (by intro e; cases e) ?_
            refine QE.blockX rfl ?_
            refine QE.thru (by intro e; cases e) ?_
            refine QE.blockX rfl ?_
            refine QE.thru (by intro e; cases e) ?_
            refine QE.blockE ?_
            exact QE.meet fun a w2 ha hw => ⟨t43.2, t28.1.Takes, [t43.1], v29, v44, ho, ha.sub ⟨rfl, rfl, trivial⟩, (St.selO [0, 1, 4, 6] rfl rfl (St.freezeS hw 5 rfl see))⟩
          · refine CP.condF rfl (bf hc) ?_
            refine CP.skip ?_
            refine QE.then ?_
            refine CP.seq ?_
            refine CP.join (fun a w2 => ∃ b46 : Bool, types_look_shape_s1.j4 k_0_2 k_0_4 k_0_6 k_0_8 k_0_9 k_0_11 k_0_13 k_0_14 k_0_15 k_0_16 k_0_17 k_0_18 k_0_20 l22 i_1 row_2 t28 t37 b46 = some r ∧ Env ⟨106, []⟩ [(0, .pointer (some ⟨b1, 0, none⟩)), (4, .pointer (some ⟨b24, 0, none⟩)), (6, .pointer (some ⟨b26, 0, none⟩)), (7, .pointer (some ⟨b33, 0, none⟩)), (9, v38), (10, v40), (28, .int .u8 i_1.Op), (33, .bool b46)] a ∧ St w hA hV [slP k_api_Value v_k_0_2 k_0_2, slP k_api_Value v_k_0_4 k_0_4, slP k_api_Method v_k_0_6 k_0_6, slP (kInt .u8) v_k_0_9 k_0_9, slP (kInt .u8) v_k_0_11 k_0_11, slP k_api_Instr v_k_0_18 k_0_18, slP (kInt .u8) v_k_0_20 k_0_20] [slO (kInt .u8) 5 v40 [0], slO (kInt .u8) 5 v38 t37, boxO b33 [v29, v30] 75, slO (kInt .u8) 5 v29 t28.1.Takes, slO (kInt .u8) 5 v30 t28.1.Gives, boxO b26 [(.slice none 0 0), (.slice none 0 0)] 75, boxO b24 [.int .u8 i_1.Op, .int .i64 i_1.A, .int .i64 i_1.B] 45, arrK k_types_Row b1 [v_k_0_2, v_k_0_4, v_k_0_6, .int .i64 k_0_8, v_k_0_9, v_k_0_11, .int .u8 k_0_13, .bool k_0_14, .int .i64 k_0_15, .int .i64 k_0_16, .int .i64 k_0_17, v_k_0_18, v_k_0_20] 200 l22 [] 65] w2) ?_ ?_
            · rintro a w2 ⟨b46, ho, ha, hw⟩
              refine CP.app ha hw ?_
              clear ha hw a w2
              rcases if_some ho with ⟨hc, ho⟩ | ⟨hc, ho⟩
              · refine CP.condT rfl hc ?_
                refine CP.exit ?_
                refine QE.thru (by intro e; cases e) ?_
                refine QE.thru (by intro e; cases e) ?_
                refine QE.blockX rfl ?_
                refine QE.thru (by intro e; cases e) ?_
                refine QE.blockE ?_
                refine QE.then ?_
                refine CP.seq ?_
                refine CP.region ?_
                refine SP.val (Val.move rfl) rfl rfl rfl ?_
                refine SP.val (Val.loadA 6 rfl Tryd.underlying45 rfl sz45 rfl rfl rfl) rfl rfl rfl ?_
                refine SP.imp (fun w2 hw => St.selO [7, 0, 1, 2, 3, 4, 5, 6] rfl rfl hw) ?_
                obtain ⟨t47, hc, ho⟩ := bind_some (x := types_look_named_s1.f k_0_2 k_0_4 k_0_6 k_0_8 k_0_9 k_0_11 k_0_13 k_0_14 k_0_15 k_0_16 k_0_17 k_0_18 k_0_20 l22 i_1) ho
                refine SP.callA see (caps := []) (X := arrK k_types_Row b1 [v_k_0_2, v_k_0_4, v_k_0_6, .int .i64 k_0_8, v_k_0_9, v_k_0_11, .int .u8 k_0_13, .bool k_0_14, .int .i64 k_0_15, .int .i64 k_0_16, .int .i64 k_0_17, v_k_0_18, v_k_0_20] 200 l22 [] 65) _ fn76 rfl rfl rfl rfl (fun w2 hP h1 sub s1 d1 ap hI => types_look_named_s1.ok k_0_2 k_0_4 k_0_6 k_0_8 k_0_9 k_0_11 k_0_13 k_0_14 k_0_15 k_0_16 k_0_17 k_0_18 k_0_20 l22 i_1 _ _ _ _ _ _ _ _ hc w2 hP sub (ap.get 0 rfl) (ap.get 1 rfl) (ap.get 2 rfl) (ap.get 3 rfl) (ap.get 4 rfl) (ap.get 5 rfl) (ap.get 6 rfl) _ h1 s1 d1 hI) (fun vr => ?_)
                refine SP.have (fun w2 h => (St.pand h).1.symm) (fun er => ?_)
                subst er
                refine SP.imp (fun w2 h => St.seps (St.pand h).2) ?_
                clear hc
                refine SP.lit (k := (kInt .u8)) (xs := [t47.1]) (vs := [.int .u8 t47.1]) (cells := [.int .u8 t47.1]) Tryd.underlying33 inf5 rfl rfl rfl rfl rfl rfl rfl rfl (fun _ ap => ⟨[.int .u8 t47.1], _, rfl, rfl, rfl⟩) rfl rfl rfl (fun v48 => ?_)
                refine SP.val (Val.fieldAddr Tryd.underlying75 rfl sz33 rfl) rfl rfl rfl ?_
                refine SP.have (fun w2 hw => slO.shape (St.own 0 rfl see.sub see.dj hw)) (fun hs_v48 => ?_)
                refine SP.store (v := v48) (vs := [v48]) 4 (by rfl) sz33 (by rfl) (by rfl) (by rfl) (one_cells hs_v48) (one_cons hs_v48 (rfl)) (by rfl) ?_
                refine SP.nil ?_
                refine QE.then ?_
                refine CP.exit ?_
                refine QE.blockX rfl ?_
                refine QE.thru (by intro e; cases e) ?_
                refine QE.blockX rfl ?_
                refine QE.thru (by intro e; cases e) ?_
                refine QE.blockX rfl ?_
                refine QE.thru (by intro e; cases e) ?_
                refine QE.blockX rfl ?_
                refine QE.thru (by intro e; cases e) ?_
                refine QE.blockX rfl ?_
                refine QE.thru (by intro e; cases e) ?_
                refine QE.blockE ?_
                exact QE.meet fun a w2 ha hw => ⟨t47.2, [t47.1], t28.1.Gives, v48, v30, ho, ha.sub ⟨rfl, rfl, trivial⟩, (St.selO [5, 0, 3, 6] rfl rfl (St.freezeS hw 0 rfl see))⟩
              · refine CP.condF rfl (bf hc) ?_
                refine CP.skip ?_
                refine QE.then ?_
                refine CP.seq ?_
                refine CP.seq ?_
                refine CP.region ?_
                refine SP.val (Val.eql rfl rfl) rfl rfl rfl ?_
                refine SP.val (Val.assign rfl) rfl rfl rfl ?_
                refine SP.nil ?_
                refine QE.then ?_
                rcases if_some ho with ⟨hc, ho⟩ | ⟨hc, ho⟩
                · refine CP.condT rfl (decide_eq_true hc) ?_
                  refine CP.exit ?_
                  refine QE.thru (by intro e; cases e) ?_
                  refine QE.thru (by intro e; cases e) ?_
                  refine QE.blockX rfl ?_
                  refine QE.thru (by intro e; cases e) ?_
                  refine QE.blockX rfl ?_
                  refine QE.thru (by intro e; cases e) ?_
                  refine QE.blockE ?_
                  refine QE.then ?_
                  refine CP.seq ?_
                  refine CP.drawA (by kernel_rfl) (fun w2 k h => h.drawn k) ?_
                  obtain ⟨x52, hx, ho⟩ := bind_some ho
                  have hx := elt_some hx
                  refine DA.ghost (fun w2 h => h.elem see 2 rfl hx.1 hx.2) (fun p50 h_p50 => ?_)
                  clear hx
                  refine DA.ghost (fun w2 h => h.fieldE see 0 rfl k_api_Method.part_Args) (fun p53 h_p53 => ?_)
                  refine DA.ghost (fun w2 h => h.openE see 0 rfl (fun (v55 : Value) => [v55]) (fun (v55 : Value) => [slP (kInt .u8) v55 x52.Args]) (fun h cs ⟨v55, e, p0⟩ => ⟨v55, e, All.cons p0 (All.nil _)⟩)) (fun z_ _ => ?_)
                  rename Value => v55
                  obtain ⟨x60, hx, ho⟩ := bind_some ho
                  have hx := elt_some hx
                  refine DA.ghost (fun w2 h => h.elem see 6 rfl hx.1 hx.2) (fun p58 h_p58 => ?_)
                  clear hx
                  refine DA.ghost (fun w2 h => h.fieldE see 0 rfl k_api_Method.part_Result) (fun p61 h_p61 => ?_)
                  refine DA.ghost (fun w2 h => h.openE see 0 rfl (fun _ : Unit => [.int .u8 x60.Result]) (fun _ => []) (fun h cs e => ⟨(), e, All.nil _⟩)) (fun _ _ => ?_)
                  refine DA.phase (fun i => Nat.ble 0 i && Nat.blt i 23) (fun w2 => St w hA hV [atP p61 [.int .u8 x60.Result], elP (kInt .u8) p61 x60.Result, elP k_api_Method p58 x60, atP p53 [v55], slP (kInt .u8) v55 x52.Args, elP (kSl (kInt .u8)) p53 x52.Args, elP k_api_Method p50 x52, slP k_api_Value v_k_0_2 k_0_2, slP k_api_Value v_k_0_4 k_0_4, slP k_api_Method v_k_0_6 k_0_6, slP (kInt .u8) v_k_0_9 k_0_9, slP (kInt .u8) v_k_0_11 k_0_11, slP k_api_Instr v_k_0_18 k_0_18, slP (kInt .u8) v_k_0_20 k_0_20] [slO (kInt .u8) 5 v40 [0], slO (kInt .u8) 5 v38 t37, slO (kInt .u8) 5 v29 t28.1.Takes, slO (kInt .u8) 5 v30 t28.1.Gives, boxO b26 [(.slice none 0 0), (.slice none 0 0)] 75, boxO b24 [.int .u8 i_1.Op, .int .i64 i_1.A, .int .i64 i_1.B] 45, arrK k_types_Row b1 [v_k_0_2, v_k_0_4, v_k_0_6, .int .i64 k_0_8, v_k_0_9, v_k_0_11, .int .u8 k_0_13, .bool k_0_14, .int .i64 k_0_15, .int .i64 k_0_16, .int .i64 k_0_17, v_k_0_18, v_k_0_20] 200 l22 [] 65] w2) ?_
                  refine DT.take 0 rfl rfl rfl rfl (by kernel_rfl) (fun _ _ _ h => h) (Val.move rfl) (fun w2 hw => (St.selO [0, 1, 3, 4, 5, 6, 7] rfl rfl hw)) ?_
                  refine DT.take 1 rfl rfl rfl rfl (by kernel_rfl) (fun _ _ _ h => h) (Val.nilCheck rfl) (fun w2 hw => (St.selO [0, 1, 3, 4, 5, 6, 7] rfl rfl hw)) ?_
                  refine DT.take 2 rfl rfl rfl rfl (by kernel_rfl) (fun _ _ _ h => h) (Val.fieldAddr Tryd.underlying65 rfl sz25 rfl) (fun w2 hw => (St.selO [0, 1, 3, 4, 5, 6, 7] rfl rfl hw)) ?_
                  refine DT.take 3 rfl rfl rfl rfl (by kernel_rfl) (fun _ _ _ h => h) (Val.fieldAddr Tryd.underlying25 rfl sz23 rfl) (fun w2 hw => (St.selO [0, 1, 3, 4, 5, 6, 7] rfl rfl hw)) ?_
                  refine DT.take 4 rfl rfl rfl rfl (by kernel_rfl) (fun _ _ _ h => h) (Val.loadKPre1 see 6 rfl Tryd.underlying23 rfl rfl rfl) (fun w2 hw => (St.selO [0, 1, 3, 4, 5, 6, 7] rfl rfl hw)) ?_
                  refine DT.take 5 rfl rfl rfl rfl (by kernel_rfl) (fun _ _ _ h => h) (Val.fieldAddr Tryd.underlying45 rfl sz3 rfl) (fun w2 hw => (St.selO [0, 1, 3, 4, 5, 6, 7] rfl rfl hw)) ?_
                  refine DT.take 6 rfl rfl rfl rfl (by kernel_rfl) (fun _ _ _ h => h) (Val.load1 5 rfl Tryd.underlying3 rfl rfl rfl) (fun w2 hw => (St.selO [0, 1, 3, 4, 5, 6, 7] rfl rfl hw)) ?_
                  refine DT.take 7 rfl rfl rfl rfl (by kernel_rfl) (fun _ _ _ h => h) (Val.indexE h_p50 Tryd.underlying23 sz36 rfl rfl) (fun w2 hw => (St.selO [0, 1, 3, 4, 5, 6, 7] rfl rfl hw)) ?_
                  refine DT.take 8 rfl rfl rfl rfl (by kernel_rfl) (fun _ _ _ h => h) (Val.fieldE h_p53 Tryd.underlying36 rfl rfl sz33 rfl) (fun w2 hw => (St.selO [0, 1, 3, 4, 5, 6, 7] rfl rfl hw)) ?_
                  refine DT.take 9 rfl rfl rfl rfl (by kernel_rfl) (fun _ _ _ h => h) (Val.loadAt1 see 3 rfl Tryd.underlying33 rfl rfl) (fun w2 hw => (St.selO [0, 1, 3, 4, 5, 6, 7] rfl rfl hw)) ?_
                  refine DT.take 10 rfl rfl rfl rfl (by kernel_rfl) (fun _ _ _ h => h) (Val.move rfl) (fun w2 hw => (St.selO [0, 1, 3, 4, 5, 6, 7] rfl rfl hw)) ?_
                  refine DT.take 11 rfl rfl rfl rfl (by kernel_rfl) (fun _ _ _ h => h) (Val.nilCheck rfl) (fun w2 hw => (St.selO [0, 1, 3, 4, 5, 6, 7] rfl rfl hw)) ?_
                  refine DT.take 12 rfl rfl rfl rfl (by kernel_rfl) (fun _ _ _ h => h) (Val.fieldAddr Tryd.underlying65 rfl sz25 rfl) (fun w2 hw => (St.selO [0, 1, 3, 4, 5, 6, 7] rfl rfl hw)) ?_
                  refine DT.take 13 rfl rfl rfl rfl (by kernel_rfl) (fun _ _ _ h => h) (Val.fieldAddr Tryd.underlying25 rfl sz23 rfl) (fun w2 hw => (St.selO [0, 1, 3, 4, 5, 6, 7] rfl rfl hw)) ?_
                  refine DT.take 14 rfl rfl rfl rfl (by kernel_rfl) (fun _ _ _ h => h) (Val.loadKPre1 see 6 rfl Tryd.underlying23 rfl rfl rfl) (fun w2 hw => (St.selO [0, 1, 3, 4, 5, 6, 7] rfl rfl hw)) ?_
                  refine DT.take 15 rfl rfl rfl rfl (by kernel_rfl) (fun _ _ _ h => h) (Val.fieldAddr Tryd.underlying45 rfl sz3 rfl) (fun w2 hw => (St.selO [0, 1, 3, 4, 5, 6, 7] rfl rfl hw)) ?_
                  refine DT.take 16 rfl rfl rfl rfl (by kernel_rfl) (fun _ _ _ h => h) (Val.load1 5 rfl Tryd.underlying3 rfl rfl rfl) (fun w2 hw => (St.selO [0, 1, 3, 4, 5, 6, 7] rfl rfl hw)) ?_
                  refine DT.take 17 rfl rfl rfl rfl (by kernel_rfl) (fun _ _ _ h => h) (Val.indexE h_p58 Tryd.underlying23 sz36 rfl rfl) (fun w2 hw => (St.selO [0, 1, 3, 4, 5, 6, 7] rfl rfl hw)) ?_
                  refine DT.take 18 rfl rfl rfl rfl (by kernel_rfl) (fun _ _ _ h => h) (Val.fieldE h_p61 Tryd.underlying36 rfl rfl sz5 rfl) (fun w2 hw => (St.selO [0, 1, 3, 4, 5, 6, 7] rfl rfl hw)) ?_
                  refine DT.take 19 rfl rfl rfl rfl (by kernel_rfl) (fun _ _ _ h => h) (Val.loadAt1 see 0 rfl Tryd.underlying5 rfl rfl) (fun w2 hw => (St.selO [0, 1, 3, 4, 5, 6, 7] rfl rfl hw)) ?_
                  refine DT.take 21 rfl rfl rfl rfl (by kernel_rfl) (fun _ _ _ h => h) (Val.fieldAddr Tryd.underlying75 rfl sz33 rfl) (fun w2 hw => (St.selO [0, 1, 3, 4, 5, 6, 7] rfl rfl hw)) ?_
                  refine DT.list (l2 := #[true, true, true, true, true, true, true, true, true, true, true, true, true, true, true, true, true, true, true, true, false, true, false, false, false]) (by kernel_rfl) ?_
                  refine DT.cut (ι := Value) (fun z => [(6, .pointer (some ⟨b26, 0, none⟩)), (7, .pointer (some ⟨b33, 0, none⟩)), (74, z)]) (fun z w2 => St w hA hV [atP p61 [.int .u8 x60.Result], elP (kInt .u8) p61 x60.Result, elP k_api_Method p58 x60, atP p53 [v55], slP (kInt .u8) v55 x52.Args, elP (kSl (kInt .u8)) p53 x52.Args, elP k_api_Method p50 x52, slP k_api_Value v_k_0_2 k_0_2, slP k_api_Value v_k_0_4 k_0_4, slP k_api_Method v_k_0_6 k_0_6, slP (kInt .u8) v_k_0_9 k_0_9, slP (kInt .u8) v_k_0_11 k_0_11, slP k_api_Instr v_k_0_18 k_0_18, slP (kInt .u8) v_k_0_20 k_0_20] [slO (kInt .u8) 5 z [x60.Result], slO (kInt .u8) 5 v40 [0], slO (kInt .u8) 5 v38 t37, boxO b33 [v55, v30] 75, slO (kInt .u8) 5 v29 t28.1.Takes, slO (kInt .u8) 5 v30 t28.1.Gives, boxO b26 [(.slice none 0 0), (.slice none 0 0)] 75, boxO b24 [.int .u8 i_1.Op, .int .i64 i_1.A, .int .i64 i_1.B] 45, arrK k_types_Row b1 [v_k_0_2, v_k_0_4, v_k_0_6, .int .i64 k_0_8, v_k_0_9, v_k_0_11, .int .u8 k_0_13, .bool k_0_14, .int .i64 k_0_15, .int .i64 k_0_16, .int .i64 k_0_17, v_k_0_18, v_k_0_20] 200 l22 [] 65] w2) 2 #[true, true, true, true, true, true, true, true, true, true, true, true, true, true, true, true, true, true, true, true, true, true, true, false, false] (fun z => ?_) (fun J5282 => ?_)
                  · rename Value => v4270
                    refine DT.next (by kernel_rfl) ?_
                    refine DA.one 23 rfl (by kernel_rfl) ?_
                    refine SP.val (Val.fieldAddr Tryd.underlying75 rfl sz33 rfl) rfl rfl rfl ?_
                    refine SP.nil ?_
                    refine QE.atA ?_
                    refine DA.one 24 rfl (by kernel_rfl) ?_
                    refine SP.have (fun w2 hw => slO.shape (St.own 0 rfl see.sub see.dj hw)) (fun hs_v4270 => ?_)
                    refine SP.store (v := v4270) (vs := [v4270]) 3 (by rfl) sz33 (by rfl) (by rfl) (by rfl) (one_cells hs_v4270) (one_cons hs_v4270 (rfl)) (by rfl) ?_
                    refine SP.nil ?_
                    refine QE.atA ?_
                    refine DA.done (by kernel_rfl) ?_
                    refine QE.then ?_
                    refine CP.exit ?_
                    refine QE.blockX rfl ?_
                    refine QE.thru (by intro e; cases e) ?_
                    refine QE.blockX rfl ?_
                    refine QE.thru (by intro e; cases e) ?_
                    refine QE.blockX rfl ?_
                    refine QE.thru (by intro e; cases e) ?_
                    refine QE.blockX rfl ?_
                    refine QE.thru (by intro e; cases e) ?_
                    refine QE.blockE ?_
                    exact QE.meet fun a w2 ha hw => ⟨l22, x52.Args, [x60.Result], v55, v4270, ho, ha.sub ⟨rfl, rfl, trivial⟩, (St.selP [4, 7, 8, 9, 10, 11, 12, 13] rfl (St.selO [0, 8, 3, 6] rfl rfl hw))⟩
                  refine DT.cut (ι := Value) (fun z => [(6, .pointer (some ⟨b26, 0, none⟩)), (7, .pointer (some ⟨b33, 0, none⟩)), (63, v55), (74, z), (75, .pointer (some ⟨b33, 0, none⟩))]) (fun z w2 => St w hA hV [atP p61 [.int .u8 x60.Result], elP (kInt .u8) p61 x60.Result, elP k_api_Method p58 x60, atP p53 [v55], slP (kInt .u8) v55 x52.Args, elP (kSl (kInt .u8)) p53 x52.Args, elP k_api_Method p50 x52, slP k_api_Value v_k_0_2 k_0_2, slP k_api_Value v_k_0_4 k_0_4, slP k_api_Method v_k_0_6 k_0_6, slP (kInt .u8) v_k_0_9 k_0_9, slP (kInt .u8) v_k_0_11 k_0_11, slP k_api_Instr v_k_0_18 k_0_18, slP (kInt .u8) v_k_0_20 k_0_20] [slO (kInt .u8) 5 z [x60.Result], slO (kInt .u8) 5 v40 [0], slO (kInt .u8) 5 v38 t37, boxO b33 [v29, v30] 75, slO (kInt .u8) 5 v29 t28.1.Takes, slO (kInt .u8) 5 v30 t28.1.Gives, boxO b26 [(.slice none 0 0), (.slice none 0 0)] 75, boxO b24 [.int .u8 i_1.Op, .int .i64 i_1.A, .int .i64 i_1.B] 45, arrK k_types_Row b1 [v_k_0_2, v_k_0_4, v_k_0_6, .int .i64 k_0_8, v_k_0_9, v_k_0_11, .int .u8 k_0_13, .bool k_0_14, .int .i64 k_0_15, .int .i64 k_0_16, .int .i64 k_0_17, v_k_0_18, v_k_0_20] 200 l22 [] 65] w2) 3 #[true, true, true, true, true, true, true, true, true, true, true, true, true, true, true, true, true, true, true, true, true, true, false, false, false] (fun z => ?_) (fun J5283 => ?_)
                  · rename Value => v4270
                    refine DT.one 22 rfl (by kernel_rfl) rfl ?_
                    refine SP.have (fun w2 hw => slR.shape (St.pers 4 rfl see.sub see.dj hw)) (fun hs_v55 => ?_)
                    refine SP.store (v := v55) (vs := [v55]) 3 (by rfl) sz33 (by rfl) (by rfl) (by rfl) (one_cells hs_v55) (one_cons hs_v55 (rfl)) (by rfl) ?_
                    refine SP.nil ?_
                    refine QE.atT (fun w2 hw => (St.selO [1, 2, 4, 5, 6, 7, 8] rfl rfl hw)) ?_
                    refine DT.list (l2 := #[true, true, true, true, true, true, true, true, true, true, true, true, true, true, true, true, true, true, true, true, true, true, true, false, false]) (by kernel_rfl) ?_
                    exact DT.weak (by exact ⟨rfl, rfl, rfl, trivial⟩) (by exact fun w2 hw => hw) (J5282 v4270)
                  refine DT.cut (ι := Unit) (fun z => [(6, .pointer (some ⟨b26, 0, none⟩)), (7, .pointer (some ⟨b33, 0, none⟩)), (73, .int .u8 x60.Result)]) (fun z w2 => St w hA hV [atP p61 [.int .u8 x60.Result], elP (kInt .u8) p61 x60.Result, elP k_api_Method p58 x60, atP p53 [v55], slP (kInt .u8) v55 x52.Args, elP (kSl (kInt .u8)) p53 x52.Args, elP k_api_Method p50 x52, slP k_api_Value v_k_0_2 k_0_2, slP k_api_Value v_k_0_4 k_0_4, slP k_api_Method v_k_0_6 k_0_6, slP (kInt .u8) v_k_0_9 k_0_9, slP (kInt .u8) v_k_0_11 k_0_11, slP k_api_Instr v_k_0_18 k_0_18, slP (kInt .u8) v_k_0_20 k_0_20] [slO (kInt .u8) 5 v40 [0], slO (kInt .u8) 5 v38 t37, boxO b33 [v55, v30] 75, slO (kInt .u8) 5 v29 t28.1.Takes, slO (kInt .u8) 5 v30 t28.1.Gives, boxO b26 [(.slice none 0 0), (.slice none 0 0)] 75, boxO b24 [.int .u8 i_1.Op, .int .i64 i_1.A, .int .i64 i_1.B] 45, arrK k_types_Row b1 [v_k_0_2, v_k_0_4, v_k_0_6, .int .i64 k_0_8, v_k_0_9, v_k_0_11, .int .u8 k_0_13, .bool k_0_14, .int .i64 k_0_15, .int .i64 k_0_16, .int .i64 k_0_17, v_k_0_18, v_k_0_20] 200 l22 [] 65] w2) 3 #[true, true, true, true, true, true, true, true, true, true, true, true, true, true, true, true, true, true, true, true, false, true, true, false, false] (fun z => ?_) (fun J5284 => ?_)
                  · refine DT.one 20 rfl (by kernel_rfl) rfl ?_
                    refine SP.lit (k := (kInt .u8)) (xs := [x60.Result]) (vs := [.int .u8 x60.Result]) (cells := [.int .u8 x60.Result]) Tryd.underlying33 inf5 rfl rfl rfl rfl rfl rfl rfl rfl (fun _ ap => ⟨[.int .u8 x60.Result], _, rfl, rfl, rfl⟩) rfl rfl rfl (fun v4270 => ?_)
                    refine SP.nil ?_
                    refine QE.atT (fun w2 hw => (St.selO [1, 2, 4, 5, 6, 7, 8] rfl rfl hw)) ?_
                    refine DT.list (l2 := #[true, true, true, true, true, true, true, true, true, true, true, true, true, true, true, true, true, true, true, true, true, true, true, false, false]) (by kernel_rfl) ?_
                    exact DT.weak (by exact ⟨rfl, rfl, rfl, trivial⟩) (by exact fun w2 hw => hw) (J5282 v4270)
                  refine DT.any 20 [22] (by kernel_rfl) ⟨⟨_, rfl, rfl, ?_⟩, ⟨_, rfl, rfl, ?_⟩, trivial⟩
                  · refine SP.lit (k := (kInt .u8)) (xs := [x60.Result]) (vs := [.int .u8 x60.Result]) (cells := [.int .u8 x60.Result]) Tryd.underlying33 inf5 rfl rfl rfl rfl rfl rfl rfl rfl (fun _ ap => ⟨[.int .u8 x60.Result], _, rfl, rfl, rfl⟩) rfl rfl rfl (fun v4270 => ?_)
                    refine SP.nil ?_
                    refine QE.atT (fun w2 hw => (St.selO [1, 2, 4, 5, 6, 7, 8] rfl rfl hw)) ?_
                    refine DT.list (l2 := #[true, true, true, true, true, true, true, true, true, true, true, true, true, true, true, true, true, true, true, true, true, true, false, false, false]) (by kernel_rfl) ?_
                    exact DT.weak (by exact ⟨rfl, rfl, rfl, rfl, rfl, trivial⟩) (by exact fun w2 hw => hw) (J5283 v4270)
                  · refine SP.have (fun w2 hw => slR.shape (St.pers 4 rfl see.sub see.dj hw)) (fun hs_v55 => ?_)
                    refine SP.store (v := v55) (vs := [v55]) 2 (by rfl) sz33 (by rfl) (by rfl) (by rfl) (one_cells hs_v55) (one_cons hs_v55 (rfl)) (by rfl) ?_
                    refine SP.nil ?_
                    refine QE.atT (fun w2 hw => (St.selO [0, 1, 3, 4, 5, 6, 7] rfl rfl hw)) ?_
                    refine DT.list (l2 := #[true, true, true, true, true, true, true, true, true, true, true, true, true, true, true, true, true, true, true, true, false, true, true, false, false]) (by kernel_rfl) ?_
                    exact DT.weak (by exact ⟨rfl, rfl, rfl, trivial⟩) (by exact fun w2 hw => hw) (J5284 ())
                · refine CP.condF rfl (decide_eq_false hc) ?_
                  refine CP.skip ?_
                  refine QE.then ?_
                  refine CP.seq ?_
                  refine CP.seq ?_
                  refine CP.region ?_
                  refine SP.val (Val.eql rfl rfl) rfl rfl rfl ?_
                  refine SP.val (Val.assign rfl) rfl rfl rfl ?_
                  refine SP.nil ?_
                  refine QE.then ?_
                  rcases if_some ho with ⟨hc, ho⟩ | ⟨hc, ho⟩
                  · refine CP.condT rfl (decide_eq_true hc) ?_
                    refine CP.exit ?_
                    refine QE.thru (by intro e; cases e) ?_
                    refine QE.thru (by intro e; cases e) ?_
                    refine QE.blockX rfl ?_
                    refine QE.thru (by intro e; cases e) ?_
                    refine QE.blockX rfl ?_
                    refine QE.thru (by intro e; cases e) ?_
                    refine QE.blockX rfl ?_
                    refine QE.thru (by intro e; cases e) ?_
                    refine QE.blockE ?_
                    refine QE.then ?_
                    refine CP.seq ?_
                    refine CP.region ?_
                    refine SP.val (Val.move rfl) rfl rfl rfl ?_
                    refine SP.val (Val.nilCheck rfl) rfl rfl rfl ?_
                    refine SP.val (Val.fieldAddr Tryd.underlying65 rfl sz36 rfl) rfl rfl rfl ?_
                    refine SP.val (Val.fieldAddr Tryd.underlying36 rfl sz5 rfl) rfl rfl rfl ?_
                    refine SP.val (Val.loadKPre1 see 7 rfl Tryd.underlying5 rfl rfl rfl) rfl rfl rfl ?_
                    refine SP.lit (k := (kInt .u8)) (xs := [k_0_13]) (vs := [.int .u8 k_0_13]) (cells := [.int .u8 k_0_13]) Tryd.underlying33 inf5 rfl rfl rfl rfl rfl rfl rfl rfl (fun _ ap => ⟨[.int .u8 k_0_13], _, rfl, rfl, rfl⟩) rfl rfl rfl (fun v5287 => ?_)
                    refine SP.val (Val.fieldAddr Tryd.underlying75 rfl sz33 rfl) rfl rfl rfl ?_
                    refine SP.have (fun w2 hw => slO.shape (St.own 0 rfl see.sub see.dj hw)) (fun hs_v5287 => ?_)
                    refine SP.store (v := v5287) (vs := [v5287]) 3 (by rfl) sz33 (by rfl) (by rfl) (by rfl) (one_cells hs_v5287) (one_cons hs_v5287 (rfl)) (by rfl) ?_
                    refine SP.nil ?_
                    refine QE.then ?_
                    refine CP.exit ?_
                    refine QE.blockX rfl ?_
                    refine QE.thru (by intro e; cases e) ?_
                    refine QE.blockX rfl ?_
                    refine QE.thru (by intro e; cases e) ?_
                    refine QE.blockX rfl ?_
                    refine QE.thru (by intro e; cases e) ?_
                    refine QE.blockE ?_
                    exact QE.meet fun a w2 ha hw => ⟨l22, [k_0_13], t28.1.Gives, v5287, v30, ho, ha.sub ⟨rfl, rfl, trivial⟩, (St.selO [4, 7, 2, 5] rfl rfl (St.freezeS hw 0 rfl see))⟩
                  · refine CP.condF rfl (decide_eq_false hc) ?_
                    refine CP.skip ?_
                    refine QE.then ?_
                    refine CP.seq ?_
                    refine CP.seq ?_
                    refine CP.region ?_
                    refine SP.val (Val.eql rfl rfl) rfl rfl rfl ?_
                    refine SP.val (Val.assign rfl) rfl rfl rfl ?_
                    refine SP.nil ?_
                    refine QE.then ?_
                    rcases if_some ho with ⟨hc, ho⟩ | ⟨hc, ho⟩
                    · refine CP.condT rfl (decide_eq_true hc) ?_
                      refine CP.exit ?_
                      refine QE.thru (by intro e; cases e) ?_
                      refine QE.thru (by intro e; cases e) ?_
                      refine QE.blockX rfl ?_
                      refine QE.thru (by intro e; cases e) ?_
                      refine QE.blockX rfl ?_
                      refine QE.thru (by intro e; cases e) ?_
                      refine QE.blockX rfl ?_
                      refine QE.thru (by intro e; cases e) ?_
                      refine QE.blockX rfl ?_
                      refine QE.thru (by intro e; cases e) ?_
                      refine QE.blockE ?_
                      refine QE.then ?_
                      refine CP.seq ?_
                      refine CP.seq ?_
                      refine CP.region ?_
                      refine SP.val (Val.move rfl) rfl rfl rfl ?_
                      refine SP.val (Val.fieldAddr Tryd.underlying75 rfl sz33 rfl) rfl rfl rfl ?_
                      refine SP.have (fun w2 hw => slO.shape (St.own 1 rfl see.sub see.dj hw)) (fun hs_v38 => ?_)
                      refine SP.store (v := v38) (vs := [v38]) 2 (by rfl) sz33 (by rfl) (by rfl) (by rfl) (one_cells hs_v38) (one_cons hs_v38 (rfl)) (by rfl) ?_
                      refine SP.nil ?_
                      refine QE.then ?_
                      refine CP.seq ?_
                      refine CP.region ?_
                      refine SP.val (Val.fieldAddr Tryd.underlying75 rfl sz33 rfl) rfl rfl rfl ?_
                      refine SP.val (Val.load1 2 rfl Tryd.underlying33 rfl rfl rfl) rfl rfl rfl ?_
                      refine SP.imp (fun w2 hw => St.selO [1, 0, 2, 3, 4, 5, 6, 7] rfl rfl hw) ?_
                      obtain ⟨hb, ho⟩ := must_some ho
                      refine SP.callA see (caps := []) (X := slO (kInt .u8) 5 v38 t37) (fun r => HO.pand (r = .tuple #[]) (HO.seps [slO (kInt .u8) 5 v38 t37.reverse])) fn77 rfl rfl rfl rfl (fun w2 hP h1 sub s1 d1 ap hI => reverse77_trip hb sub s1 d1 hI) (fun vr => ?_)
                      refine SP.have (fun w2 h => (St.pand h).1.symm) (fun er => ?_)
                      subst er
                      refine SP.imp (fun w2 h => St.seps (St.pand h).2) ?_
                      clear hb
                      refine SP.nil ?_
                      refine QE.then ?_
                      refine CP.region ?_
                      refine SP.val (Val.move rfl) rfl rfl rfl ?_
                      refine SP.lit (k := (kInt .u8)) (xs := [0]) (vs := [.int .u8 0]) (cells := [.int .u8 0]) Tryd.underlying33 inf5 rfl rfl rfl rfl rfl rfl rfl rfl (fun _ ap => ⟨[.int .u8 0], _, rfl, rfl, rfl⟩) rfl rfl rfl (fun v5290 => ?_)
                      refine SP.freezeS see 0 rfl ?_
                      obtain ⟨hb, ho⟩ := must_some ho
                      refine SP.append see 1 rfl 0 rfl Tryd.underlying33 inf5 rfl rfl hb rfl rfl rfl rfl rfl (fun v5292 => ?_)
                      clear hb
                      refine SP.val (Val.fieldAddr Tryd.underlying75 rfl sz33 rfl) rfl rfl rfl ?_
                      refine SP.have (fun w2 hw => slO.shape (St.own 1 rfl see.sub see.dj hw)) (fun hs_v5292 => ?_)
                      refine SP.store (v := v5292) (vs := [v5292]) 2 (by rfl) sz33 (by rfl) (by rfl) (by rfl) (one_cells hs_v5292) (one_cons hs_v5292 (rfl)) (by rfl) ?_
                      refine SP.nil ?_
                      refine QE.then ?_
                      refine CP.exit ?_
                      refine QE.blockX rfl ?_
                      refine QE.thru (by intro e; cases e) ?_
                      refine QE.blockX rfl ?_
                      refine QE.thru (by intro e; cases e) ?_
                      refine QE.blockE ?_
                      exact QE.meet fun a w2 ha hw => ⟨l22, ([0] ++ [0]), t37.reverse, v5292, v38, ho, ha.sub ⟨rfl, rfl, trivial⟩, (St.selP [0, 2, 3, 4, 5, 6, 7, 8] rfl (St.selO [0, 6, 1, 4] rfl rfl (St.freezeS hw 1 rfl see)))⟩
                    · refine CP.condF rfl (decide_eq_false hc) ?_
                      refine CP.skip ?_
                      refine QE.then ?_
                      refine CP.seq ?_
                      refine CP.region ?_
                      refine SP.val (Val.eql rfl rfl) rfl rfl rfl ?_
                      refine SP.val (Val.assign rfl) rfl rfl rfl ?_
                      refine SP.nil ?_
                      refine QE.then ?_
                      rcases if_some ho with ⟨hc, ho⟩ | ⟨hc, ho⟩
                      · refine CP.condT rfl (decide_eq_true hc) ?_
                        refine CP.exit ?_
                        refine QE.thru (by intro e; cases e) ?_
                        refine QE.blockX rfl ?_
                        refine QE.thru (by intro e; cases e) ?_
                        refine QE.blockX rfl ?_
                        refine QE.thru (by intro e; cases e) ?_
                        refine QE.blockX rfl ?_
                        refine QE.thru (by intro e; cases e) ?_
                        refine QE.blockX rfl ?_
                        refine QE.thru (by intro e; cases e) ?_
                        refine QE.blockX rfl ?_
                        refine QE.thru (by intro e; cases e) ?_
                        refine QE.blockE ?_
                        refine QE.then ?_
                        refine CP.seq ?_
                        refine CP.region ?_
                        refine SP.val (Val.move rfl) rfl rfl rfl ?_
                        refine SP.val (Val.lenW (fun w2 hw => slO.whole (St.own 1 rfl see.sub see.dj hw)) Tryd.underlying33 rfl) rfl rfl rfl ?_
                        refine SP.val (Val.gtr rfl rfl) rfl rfl rfl ?_
                        refine SP.nil ?_
                        refine QE.then ?_
                        rcases if_some ho with ⟨hc, ho⟩ | ⟨hc, ho⟩
                        · refine CP.condT rfl (decide_eq_true hc) ?_
                          refine CP.region ?_
                          refine SP.val (Val.move rfl) rfl rfl rfl ?_
                          refine SP.val (Val.move rfl) rfl rfl rfl ?_
                          refine SP.val (Val.lenW (fun w2 hw => slO.whole (St.own 1 rfl see.sub see.dj hw)) Tryd.underlying33 rfl) rfl rfl rfl ?_
                          refine SP.val (Val.sub rfl rfl) rfl rfl rfl ?_
                          refine SP.freezeS see 1 rfl ?_
                          obtain ⟨hz, ho⟩ := must_some ho
                          refine SP.sliceFromP see 0 rfl Tryd.underlying33 sz5 rfl rfl hz rfl rfl (fun v5294 => ?_)
                          clear hz
                          obtain ⟨t5296, hc, ho⟩ := bind_some (x := slices_Repeat_uint8_uint8.f (t37.drop (IntKind.i64.wrap ((t37.length : Int) - 1) : Int).toNat) 2) ho
                          refine SP.callK see (caps := []) _ fn78 rfl rfl rfl rfl (fun w2 hP hs sub ap => slices_Repeat_uint8_uint8.ok (t37.drop (IntKind.i64.wrap ((t37.length : Int) - 1) : Int).toNat) 2 _ _ hc w2 hP sub (ap.get 0 rfl)) (fun vr => ?_)
                          refine SP.ex (fun w2 h => St.open h) (fun v5297 => ?_)
                          refine SP.have (fun w2 h => (St.pand h).1.symm) (fun er => ?_)
                          subst er
                          refine SP.imp (fun w2 h => St.seps (St.pand h).2) ?_
                          clear hc
                          refine SP.val (Val.fieldAddr Tryd.underlying75 rfl sz33 rfl) rfl rfl rfl ?_
                          refine SP.have (fun w2 hw => slO.shape (St.own 0 rfl see.sub see.dj hw)) (fun hs_v5297 => ?_)
                          refine SP.store (v := v5297) (vs := [v5297]) 2 (by rfl) sz33 (by rfl) (by rfl) (by rfl) (one_cells hs_v5297) (one_cons hs_v5297 (rfl)) (by rfl) ?_
                          refine SP.nil ?_
                          refine QE.blockN ?_
                          exact QE.meet fun a w2 ha hw => ⟨t5296, v5297, ho, ha.sub ⟨rfl, rfl, rfl, trivial⟩, (St.selP [2, 3, 4, 5, 6, 7, 8] rfl (St.selO [0, 1, 2, 3, 5, 7] rfl rfl hw))⟩
                        · refine CP.condF rfl (decide_eq_false hc) ?_
                          refine CP.skip ?_
                          refine QE.blockN ?_
                          exact QE.meet fun a w2 ha hw => ⟨t28.1.Gives, v30, ho, ha.sub ⟨rfl, rfl, rfl, trivial⟩, (St.selO [4, 0, 2, 3, 5, 7] rfl rfl hw)⟩
                      · refine CP.condF rfl (decide_eq_false hc) ?_
                        refine CP.skip ?_
                        refine QE.then ?_
                        refine CP.exit ?_
                        refine QE.blockX rfl ?_
                        refine QE.thru (by intro e; cases e) ?_
                        refine QE.blockX rfl ?_
                        refine QE.thru (by intro e; cases e) ?_
                        refine QE.blockX rfl ?_
                        refine QE.thru (by intro e; cases e) ?_
                        refine QE.blockX rfl ?_
                        refine QE.thru (by intro e; cases e) ?_
                        refine QE.blockX rfl ?_
                        refine QE.thru (by intro e; cases e) ?_
                        refine QE.blockX rfl ?_
                        refine QE.thru (by intro e; cases e) ?_
                        refine QE.blockE ?_
                        exact QE.meet fun a w2 ha hw => ⟨t28.1.Gives, v30, ho, ha.sub ⟨rfl, rfl, rfl, trivial⟩, (St.selO [4, 0, 2, 3, 5, 7] rfl rfl hw)⟩
            · refine CP.seq ?_
              refine CP.region ?_
              refine SP.val (Val.eql rfl rfl) rfl rfl rfl ?_
              refine SP.val (Val.assign rfl) rfl rfl rfl ?_
              refine SP.nil ?_
              refine QE.then ?_
              rcases if_some ho with ⟨hc, ho⟩ | ⟨hc, ho⟩
              · refine CP.condT rfl (decide_eq_true hc) ?_
                refine CP.skip ?_
                exact QE.meet fun a w2 ha hw => ⟨(decide (i_1.Op = 3)), ho, ha.sub ⟨rfl, rfl, rfl, rfl, rfl, rfl, rfl, rfl, trivial⟩, hw⟩
              · refine CP.condF rfl (decide_eq_false hc) ?_
                refine CP.region ?_
                refine SP.val (Val.eql rfl rfl) rfl rfl rfl ?_
                refine SP.val (Val.assign rfl) rfl rfl rfl ?_
                refine SP.nil ?_
                exact QE.meet fun a w2 ha hw => ⟨(decide (i_1.Op = 5)), ho, ha.sub ⟨rfl, rfl, rfl, rfl, rfl, rfl, rfl, rfl, trivial⟩, hw⟩
        · refine CP.seq ?_
          refine CP.region ?_
          refine SP.val (Val.eql rfl rfl) rfl rfl rfl ?_
          refine SP.val (Val.assign rfl) rfl rfl rfl ?_
          refine SP.nil ?_
          refine QE.then ?_
          rcases if_some ho with ⟨hc, ho⟩ | ⟨hc, ho⟩
          · refine CP.condT rfl (decide_eq_true hc) ?_
            refine CP.skip ?_
            exact QE.meet fun a w2 ha hw => ⟨(decide (i_1.Op = 1)), ho, ha.sub ⟨rfl, rfl, rfl, rfl, rfl, rfl, rfl, rfl, trivial⟩, (St.selP [1, 2, 3, 4, 5, 6, 7] rfl hw)⟩
          · refine CP.condF rfl (decide_eq_false hc) ?_
            refine CP.seq ?_
            refine CP.region ?_
            refine SP.val (Val.eql rfl rfl) rfl rfl rfl ?_
            refine SP.val (Val.assign rfl) rfl rfl rfl ?_
            refine SP.nil ?_
            refine QE.then ?_
            rcases if_some ho with ⟨hc, ho⟩ | ⟨hc, ho⟩
            · refine CP.condT rfl (decide_eq_true hc) ?_
              refine CP.skip ?_
              exact QE.meet fun a w2 ha hw => ⟨(decide (i_1.Op = 2)), ho, ha.sub ⟨rfl, rfl, rfl, rfl, rfl, rfl, rfl, rfl, trivial⟩, (St.selP [1, 2, 3, 4, 5, 6, 7] rfl hw)⟩
            · refine CP.condF rfl (decide_eq_false hc) ?_
              refine CP.region ?_
              refine SP.val (Val.eql rfl rfl) rfl rfl rfl ?_
              refine SP.val (Val.assign rfl) rfl rfl rfl ?_
              refine SP.nil ?_
              exact QE.meet fun a w2 ha hw => ⟨(decide (i_1.Op = 4)), ho, ha.sub ⟨rfl, rfl, rfl, rfl, rfl, rfl, rfl, rfl, trivial⟩, (St.selP [1, 2, 3, 4, 5, 6, 7] rfl hw)⟩
/-! ### (*capstan/types.look).after: function 42 -/
inductive types_look_after_s1.S where
  | start
  | l1 (t26 : op_Shape × (List types_Row)) (x60 : Int)

def types_look_after_s1.F (k_0_2 : List api_Value) (k_0_4 : List api_Value) (k_0_6 : List api_Method) (k_0_8 : Int) (k_0_9 : List Int) (k_0_11 : List Int) (k_0_13 : Int) (k_0_14 : Bool) (k_0_15 : Int) (k_0_16 : Int) (k_0_17 : Int) (k_0_18 : List api_Instr) (k_0_20 : List Int) (l22 : List types_Row) (i_1 : api_Instr) (row_2 : (List Int)) : types_look_after_s1.S → Option (types_look_after_s1.S ⊕ (((List Int) × Int) × (List types_Row)))
  | .start => (types_look_shape_s1.f k_0_2 k_0_4 k_0_6 k_0_8 k_0_9 k_0_11 k_0_13 k_0_14 k_0_15 k_0_16 k_0_17 k_0_18 k_0_20 l22 i_1 row_2).bind fun t26 => if (IntKind.i64.wrap ((row_2.length : Int) - (t26.1.Takes.length : Int))) < 0 then (some (.inr (([], 101), t26.2))) else (some (.inl (.l1 t26 0)))
  | .l1 t26 x60 => if x60 < (t26.1.Takes.length : Int) then ((elt t26.1.Takes x60).bind fun x64 => (if x64 ≠ 0 then ((elt row_2 (IntKind.i64.wrap ((IntKind.i64.wrap ((row_2.length : Int) - (t26.1.Takes.length : Int))) + x60))).bind fun x69 => some (decide (x64 ≠ x69))) else (some false)).bind fun t70 => if t70 = true then (some (.inr (([], 100), t26.2))) else (some (.inl (.l1 t26 (IntKind.i64.wrap (x60 + 1)))))) else (if (0 : Int) ≤ (IntKind.i64.wrap ((row_2.length : Int) - (t26.1.Takes.length : Int))) ∧ (IntKind.i64.wrap ((row_2.length : Int) - (t26.1.Takes.length : Int))) ≤ (row_2.length : Int) then ((slices_Concat_uint8_uint8.f [(row_2.take (IntKind.i64.wrap ((row_2.length : Int) - (t26.1.Takes.length : Int)) : Int).toNat), t26.1.Gives]).bind fun t84 => some (.inr ((t84, 0), t26.2))) else none)

def types_look_after_s1.f (k_0_2 : List api_Value) (k_0_4 : List api_Value) (k_0_6 : List api_Method) (k_0_8 : Int) (k_0_9 : List Int) (k_0_11 : List Int) (k_0_13 : Int) (k_0_14 : Bool) (k_0_15 : Int) (k_0_16 : Int) (k_0_17 : Int) (k_0_18 : List api_Instr) (k_0_20 : List Int) (l22 : List types_Row) (i_1 : api_Instr) (row_2 : (List Int)) : Option (((List Int) × Int) × (List types_Row)) := runF (types_look_after_s1.F k_0_2 k_0_4 k_0_6 k_0_8 k_0_9 k_0_11 k_0_13 k_0_14 k_0_15 k_0_16 k_0_17 k_0_18 k_0_20 l22 i_1 row_2) .start
theorem types_look_after_s1.ok (k_0_2 : List api_Value) (k_0_4 : List api_Value) (k_0_6 : List api_Method) (k_0_8 : Int) (k_0_9 : List Int) (k_0_11 : List Int) (k_0_13 : Int) (k_0_14 : Bool) (k_0_15 : Int) (k_0_16 : Int) (k_0_17 : Int) (k_0_18 : List api_Instr) (k_0_20 : List Int) (l22 : List types_Row) (i_1 : api_Instr) (row_2 : (List Int)) (v_k_0_2 : Value) (v_k_0_4 : Value) (v_k_0_6 : Value) (v_k_0_9 : Value) (v_k_0_11 : Value) (v_k_0_18 : Value) (v_k_0_20 : Value) (v_row_2 : Value) (r : ((List Int) × Int) × (List types_Row)) (H : types_look_after_s1.f k_0_2 k_0_4 k_0_6 k_0_8 k_0_9 k_0_11 k_0_13 k_0_14 k_0_15 k_0_16 k_0_17 k_0_18 k_0_20 l22 i_1 row_2 = some r) (w : World) (hV : Hp) (sV : Sub hV (hp w)) (h0 : slR k_api_Value hV v_k_0_2 k_0_2) (h1 : slR k_api_Value hV v_k_0_4 k_0_4) (h2 : slR k_api_Method hV v_k_0_6 k_0_6) (h3 : slR (kInt .u8) hV v_k_0_9 k_0_9) (h4 : slR (kInt .u8) hV v_k_0_11 k_0_11) (h5 : slR k_api_Instr hV v_k_0_18 k_0_18) (h6 : slR (kInt .u8) hV v_k_0_20 k_0_20) (h7 : slR (kInt .u8) hV v_row_2 row_2) (b1 : Nat) (hA : Hp) (sA : Sub hA (hp w)) (dA : Dj hV hA) (hI : (arrK k_types_Row b1 [v_k_0_2, v_k_0_4, v_k_0_6, .int .i64 k_0_8, v_k_0_9, v_k_0_11, .int .u8 k_0_13, .bool k_0_14, .int .i64 k_0_15, .int .i64 k_0_16, .int .i64 k_0_17, v_k_0_18, v_k_0_20] 200 l22 [] 65).p hV hA) :
    Trip Tryd.prog 42 [.pointer (some ⟨b1, 0, none⟩), .agg #[.int .u8 i_1.Op, .int .i64 i_1.A, .int .i64 i_1.B], v_row_2].toArray hA hV w (fun v => HO.ex fun u0 : Value => HO.pand (v = .tuple #[u0, .int .i64 r.1.2]) (HO.seps [slO (kInt .u8) 5 u0 r.1.1, arrK k_types_Row b1 [v_k_0_2, v_k_0_4, v_k_0_6, .int .i64 k_0_8, v_k_0_9, v_k_0_11, .int .u8 k_0_13, .bool k_0_14, .int .i64 k_0_15, .int .i64 k_0_16, .int .i64 k_0_17, v_k_0_18, v_k_0_20] 200 r.2 [] 65])) := by
  have see : Sees w hA hV := ⟨sV, dA⟩
  refine Trip.of (P := Tryd.prog) (n := ⟨52, []⟩) Tryd.func42 rfl ⟨rfl, rfl⟩ rfl (St.beginA (os := [arrK k_types_Row b1 [v_k_0_2, v_k_0_4, v_k_0_6, .int .i64 k_0_8, v_k_0_9, v_k_0_11, .int .u8 k_0_13, .bool k_0_14, .int .i64 k_0_15, .int .i64 k_0_16, .int .i64 k_0_17, v_k_0_18, v_k_0_20] 200 l22 [] 65]) sA (All.cons (x := slP k_api_Value v_k_0_2 k_0_2) h0 (All.cons (x := slP k_api_Value v_k_0_4 k_0_4) h1 (All.cons (x := slP k_api_Method v_k_0_6 k_0_6) h2 (All.cons (x := slP (kInt .u8) v_k_0_9 k_0_9) h3 (All.cons (x := slP (kInt .u8) v_k_0_11 k_0_11) h4 (All.cons (x := slP k_api_Instr v_k_0_18 k_0_18) h5 (All.cons (x := slP (kInt .u8) v_k_0_20 k_0_20) h6 (All.cons (x := slP (kInt .u8) v_row_2 row_2) h7 (All.nil _))))))))) ⟨hA, em, Dj.em_right _, Sub.refl _, Sub.em _, hI, trivial⟩) ?_
  obtain ⟨n0, hi⟩ := runF_iff.1 H
  obtain ⟨m0, o, hm0, ho, hr⟩ := iter_some hi
  clear hi
  refine CP.seq ?_
  refine CP.region ?_
  refine SP.box (cs := [.int .u8 i_1.Op, .int .i64 i_1.A, .int .i64 i_1.B]) rfl rfl rfl rfl (fun b24 => ?_)
  refine SP.val (Val.assign rfl) rfl rfl rfl ?_
  refine SP.val (Val.assign rfl) rfl rfl rfl ?_
  refine SP.nil ?_
  refine QE.then ?_
  refine CP.seq ?_
  refine CP.region ?_
  refine SP.val (Val.move rfl) rfl rfl rfl ?_
  refine SP.val (Val.loadA 0 rfl Tryd.underlying45 rfl sz45 rfl rfl rfl) rfl rfl rfl ?_
  refine SP.val (Val.move rfl) rfl rfl rfl ?_
  refine SP.imp (fun w2 hw => St.selO [1, 0] rfl rfl hw) ?_
  obtain ⟨t26, hc, ho⟩ := bind_some (x := types_look_shape_s1.f k_0_2 k_0_4 k_0_6 k_0_8 k_0_9 k_0_11 k_0_13 k_0_14 k_0_15 k_0_16 k_0_17 k_0_18 k_0_20 l22 i_1 row_2) ho
  refine SP.callA see (caps := []) (X := arrK k_types_Row b1 [v_k_0_2, v_k_0_4, v_k_0_6, .int .i64 k_0_8, v_k_0_9, v_k_0_11, .int .u8 k_0_13, .bool k_0_14, .int .i64 k_0_15, .int .i64 k_0_16, .int .i64 k_0_17, v_k_0_18, v_k_0_20] 200 l22 [] 65) _ fn58 rfl rfl rfl rfl (fun w2 hP h1 sub s1 d1 ap hI => types_look_shape_s1.ok k_0_2 k_0_4 k_0_6 k_0_8 k_0_9 k_0_11 k_0_13 k_0_14 k_0_15 k_0_16 k_0_17 k_0_18 k_0_20 l22 i_1 row_2 _ _ _ _ _ _ _ _ _ hc w2 hP sub (ap.get 0 rfl) (ap.get 1 rfl) (ap.get 2 rfl) (ap.get 3 rfl) (ap.get 4 rfl) (ap.get 5 rfl) (ap.get 6 rfl) (ap.get 7 rfl) _ h1 s1 d1 hI) (fun vr => ?_)
  refine SP.ex (fun w2 h => St.open h) (fun v27 => ?_)
  refine SP.ex (fun w2 h => St.open h) (fun v28 => ?_)
  refine SP.have (fun w2 h => (St.pand h).1.symm) (fun er => ?_)
  subst er
  refine SP.imp (fun w2 h => St.seps (St.pand h).2) ?_
  refine SP.imp (fun w2 h => St.toP 0 rfl h) ?_
  clear hc
  refine SP.alloc (cs := [(.slice none 0 0), (.slice none 0 0)]) inf75 rfl rfl (fun b31 => ?_)
  refine SP.have (fun w2 hw => slR.shape (St.pers 0 rfl see.sub see.dj hw)) (fun hs_v27 => ?_)
  refine SP.have (fun w2 hw => slO.shape (St.own 1 rfl see.sub see.dj hw)) (fun hs_v28 => ?_)
  refine SP.store (v := .agg #[v27, v28]) (vs := [v27, v28]) 0 (by rfl) sz75 (by rfl) (by rfl) (by rfl) (by rfl) (one_cons hs_v27 (one_cons hs_v28 (rfl))) (by rfl) ?_
  refine SP.nil ?_
  refine QE.then ?_
  refine CP.seq ?_
  refine CP.region ?_
  refine SP.val (Val.move rfl) rfl rfl rfl ?_
  refine SP.val (Val.lenP see 8 rfl Tryd.underlying33 rfl) rfl rfl rfl ?_
  refine SP.val (Val.fieldAddr Tryd.underlying75 rfl sz33 rfl) rfl rfl rfl ?_
  refine SP.val (Val.load1 0 rfl Tryd.underlying33 rfl rfl rfl) rfl rfl rfl ?_
  refine SP.val (Val.lenP see 0 rfl Tryd.underlying33 rfl) rfl rfl rfl ?_
  refine SP.val (Val.sub rfl rfl) rfl rfl rfl ?_
  refine SP.val (Val.assign rfl) rfl rfl rfl ?_
  refine SP.nil ?_
  refine QE.then ?_
  refine CP.seq ?_
  refine CP.seq ?_
  refine CP.region ?_
  refine SP.val (Val.move rfl) rfl rfl rfl ?_
  refine SP.val (Val.lss rfl rfl) rfl rfl rfl ?_
  refine SP.nil ?_
  refine QE.then ?_
  rcases if_some ho with ⟨hc, ho⟩ | ⟨hc, ho⟩
  · refine CP.condT rfl (decide_eq_true hc) ?_
    refine CP.seq ?_
    refine CP.region ?_
    refine SP.val (Val.assign rfl) rfl rfl rfl ?_
    refine SP.val (Val.assign rfl) rfl rfl rfl ?_
    refine SP.nil ?_
    refine QE.then ?_
    refine CP.ret ?_
    refine QE.thru (by intro e; cases e) ?_
    obtain rfl := Option.some.inj ho
    obtain rfl := Option.some.inj hr
    exact QE.rets (rs := [.tmp 6, .tmp 7]) (vs := [(.slice none 0 0), .int .i64 101]) Tryd.results42 rfl ⟨RVs.tmp rfl, RVs.tmp rfl, trivial⟩ (fun w2 h => St.done (fun a b p s => ⟨_, rfl, s⟩) (St.selO [0, 3] rfl rfl (St.addO (slO.nil (kInt .u8) 5) h)))
  · refine CP.condF rfl (decide_eq_false hc) ?_
    refine CP.skip ?_
    refine QE.then ?_
    refine CP.seq ?_
    refine CP.seq ?_
    refine CP.region ?_
    refine SP.val (Val.fieldAddr Tryd.underlying75 rfl sz33 rfl) rfl rfl rfl ?_
    refine SP.val (Val.load1 0 rfl Tryd.underlying33 rfl rfl rfl) rfl rfl rfl ?_
    refine SP.val (Val.lenP see 0 rfl Tryd.underlying33 rfl) rfl rfl rfl ?_
    refine SP.val (Val.move rfl) rfl rfl rfl ?_
    refine SP.nil ?_
    refine QE.then ?_
    refine CP.block ?_
    obtain rfl := Option.some.inj ho
    refine CP.loop (fun cl1 a w2 => ∃ x60 : Int, cl1 ≤ m0 ∧ iter (types_look_after_s1.F k_0_2 k_0_4 k_0_6 k_0_8 k_0_9 k_0_11 k_0_13 k_0_14 k_0_15 k_0_16 k_0_17 k_0_18 k_0_20 l22 i_1 row_2) cl1 (.l1 t26 x60) = some r ∧ Env ⟨52, []⟩ [(2, v_row_2), (8, .pointer (some ⟨b31, 0, none⟩)), (9, .int .i64 (IntKind.i64.wrap ((row_2.length : Int) - (t26.1.Takes.length : Int)))), (25, v27), (26, .int .i64 (t26.1.Takes.length : Int)), (27, .int .i64 x60)] a ∧ St w hA hV [slP (kInt .u8) v27 t26.1.Takes, slP k_api_Value v_k_0_2 k_0_2, slP k_api_Value v_k_0_4 k_0_4, slP k_api_Method v_k_0_6 k_0_6, slP (kInt .u8) v_k_0_9 k_0_9, slP (kInt .u8) v_k_0_11 k_0_11, slP k_api_Instr v_k_0_18 k_0_18, slP (kInt .u8) v_k_0_20 k_0_20, slP (kInt .u8) v_row_2 row_2] [boxO b31 [v27, v28] 75, slO (kInt .u8) 5 v28 t26.1.Gives, arrK k_types_Row b1 [v_k_0_2, v_k_0_4, v_k_0_6, .int .i64 k_0_8, v_k_0_9, v_k_0_11, .int .u8 k_0_13, .bool k_0_14, .int .i64 k_0_15, .int .i64 k_0_16, .int .i64 k_0_17, v_k_0_18, v_k_0_20] 200 t26.2 [] 65] w2) m0 (fun a w2 ha hw => ⟨0, Nat.le_refl _, hr, ha.sub ⟨rfl, rfl, rfl, rfl, rfl, rfl, trivial⟩, (St.selO [0, 1, 2] rfl rfl hw)⟩) ?_
    clear hr
    rintro cl1 a w2 ⟨x60, hc_l1, hi, ha, hw⟩
    obtain ⟨m61, o, hm_m61, ho, hr⟩ := iter_some hi
    refine CP.app ha hw ?_
    clear ha hw a w2 hi
    refine CP.seq ?_
    refine CP.region ?_
    refine SP.val (Val.lss rfl rfl) rfl rfl rfl ?_
    refine SP.nil ?_
    refine QE.then ?_
    refine CP.seq ?_
    rcases if_some ho with ⟨hc, ho⟩ | ⟨hc, ho⟩
    · refine CP.condT rfl (decide_eq_true hc) ?_
      refine CP.skip ?_
      refine QE.then ?_
      refine CP.seq ?_
      refine CP.block ?_
      refine CP.seq ?_
      refine CP.region ?_
      refine SP.val (Val.move rfl) rfl rfl rfl ?_
      obtain ⟨x64, hx, ho⟩ := bind_some ho
      have hx := elt_some hx
      refine SP.indexP see 0 rfl Tryd.underlying33 sz5 hx.1 hx.2 rfl rfl rfl rfl (fun p62 => ?_)
      clear hx
      refine SP.val (Val.loadP1 see 0 rfl (fun _ _ e => e) Tryd.underlying5 rfl rfl) rfl rfl rfl ?_
      refine SP.val (Val.assign rfl) rfl rfl rfl ?_
      refine SP.val (Val.assign rfl) rfl rfl rfl ?_
      refine SP.nil ?_
      refine QE.then ?_
      refine CP.seq ?_
      refine CP.region ?_
      refine SP.val (Val.move rfl) rfl rfl rfl ?_
      refine SP.val (Val.neq rfl rfl) rfl rfl rfl ?_
      refine SP.val (Val.move rfl) rfl rfl rfl ?_
      obtain ⟨t70, hg_t70, ho⟩ := bind_some ho
      refine SP.join 9 (fun a w2 => Env ⟨52, []⟩ [(2, v_row_2), (8, .pointer (some ⟨b31, 0, none⟩)), (9, .int .i64 (IntKind.i64.wrap ((row_2.length : Int) - (t26.1.Takes.length : Int)))), (25, v27), (26, .int .i64 (t26.1.Takes.length : Int)), (27, .int .i64 x60), (43, .bool t70)] a ∧ St w hA hV [elP (kInt .u8) p62 x64, slP (kInt .u8) v27 t26.1.Takes, slP k_api_Value v_k_0_2 k_0_2, slP k_api_Value v_k_0_4 k_0_4, slP k_api_Method v_k_0_6 k_0_6, slP (kInt .u8) v_k_0_9 k_0_9, slP (kInt .u8) v_k_0_11 k_0_11, slP k_api_Instr v_k_0_18 k_0_18, slP (kInt .u8) v_k_0_20 k_0_20, slP (kInt .u8) v_row_2 row_2] [boxO b31 [v27, v28] 75, slO (kInt .u8) 5 v28 t26.1.Gives, arrK k_types_Row b1 [v_k_0_2, v_k_0_4, v_k_0_6, .int .i64 k_0_8, v_k_0_9, v_k_0_11, .int .u8 k_0_13, .bool k_0_14, .int .i64 k_0_15, .int .i64 k_0_16, .int .i64 k_0_17, v_k_0_18, v_k_0_20] 200 t26.2 [] 65] w2) ?_ ?_
      · rintro a w2 ⟨ha, hw⟩
        refine SP.app ha hw ?_
        clear ha hw a w2 hg_t70
        refine SP.nil ?_
        refine QE.then ?_
        rcases if_some ho with ⟨hc, ho⟩ | ⟨hc, ho⟩
        · refine CP.condT rfl hc ?_
          refine CP.seq ?_
          refine CP.region ?_
          refine SP.val (Val.assign rfl) rfl rfl rfl ?_
          refine SP.val (Val.assign rfl) rfl rfl rfl ?_
          refine SP.nil ?_
          refine QE.then ?_
          refine CP.ret ?_
          refine QE.blockR ?_
          refine QE.thru (by intro e; cases e) ?_
          refine QE.thru (by intro e; cases e) ?_
          refine QE.blockR ?_
          refine QE.thru (by intro e; cases e) ?_
          obtain rfl := Option.some.inj ho
          obtain rfl := Option.some.inj hr
          exact QE.rets (rs := [.tmp 6, .tmp 7]) (vs := [(.slice none 0 0), .int .i64 100]) Tryd.results42 rfl ⟨RVs.tmp rfl, RVs.tmp rfl, trivial⟩ (fun w2 h => St.done (fun a b p s => ⟨_, rfl, s⟩) (St.selO [0, 3] rfl rfl (St.addO (slO.nil (kInt .u8) 5) h)))
        · refine CP.condF rfl (bf hc) ?_
          refine CP.skip ?_
          refine QE.blockN ?_
          refine QE.then ?_
          refine CP.region ?_
          refine SP.val (Val.add rfl rfl) rfl rfl rfl ?_
          refine SP.val (Val.move rfl) rfl rfl rfl ?_
          refine SP.nil ?_
          obtain rfl := Option.some.inj ho
          exact QE.lower m61 (by omega) fun a w2 ha hw => ⟨(IntKind.i64.wrap (x60 + 1)), (by omega), hr, ha.sub ⟨rfl, rfl, rfl, rfl, rfl, rfl, trivial⟩, (St.selP [1, 2, 3, 4, 5, 6, 7, 8, 9] rfl hw)⟩
      · intro J
        clear ho
        have ho := hg_t70
        clear hg_t70
        rcases if_some ho with ⟨hc, ho⟩ | ⟨hc, ho⟩
        · have hq66 := (decide_eq_true hc)
          refine SP.isT (d := 34) rfl hq66 ?_
          refine SP.val (Val.move rfl) rfl rfl rfl ?_
          refine SP.val (Val.move rfl) rfl rfl rfl ?_
          refine SP.val (Val.move rfl) rfl rfl rfl ?_
          refine SP.val (Val.move rfl) rfl rfl rfl ?_
          refine SP.val (Val.add rfl rfl) rfl rfl rfl ?_
          obtain ⟨x69, hx, ho⟩ := bind_some ho
          have hx := elt_some hx
          refine SP.indexP see 9 rfl Tryd.underlying33 sz5 hx.1 hx.2 rfl rfl rfl rfl (fun p67 => ?_)
          clear hx
          refine SP.val (Val.loadP1 see 0 rfl (fun _ _ e => e) Tryd.underlying5 rfl rfl) rfl rfl rfl ?_
          refine SP.val (Val.neq rfl rfl) rfl rfl rfl ?_
          refine SP.val (Val.pickT rfl rfl) rfl rfl rfl ?_
          obtain rfl := Option.some.inj ho
          exact J fun a w2 ha hw => ⟨ha.sub ⟨rfl, rfl, rfl, rfl, rfl, rfl, rfl, trivial⟩, (St.selP [1, 2, 3, 4, 5, 6, 7, 8, 9, 10] rfl hw)⟩
        · have hq66 := (decide_eq_false hc)
          refine SP.isF (d := 34) rfl hq66 ?_
          refine SP.not rfl rfl rfl ?_
          refine SP.not rfl rfl rfl ?_
          refine SP.not rfl rfl rfl ?_
          refine SP.not rfl rfl rfl ?_
          refine SP.not rfl rfl rfl ?_
          refine SP.not rfl rfl rfl ?_
          refine SP.not rfl rfl rfl ?_
          refine SP.not rfl rfl rfl ?_
          refine SP.val (Val.pickF rfl rfl) rfl rfl rfl ?_
          obtain rfl := Option.some.inj ho
          exact J fun a w2 ha hw => ⟨ha.sub ⟨rfl, rfl, rfl, rfl, rfl, rfl, rfl, trivial⟩, hw⟩
    · refine CP.condF rfl (decide_eq_false hc) ?_
      refine CP.exit ?_
      refine QE.thru (by intro e; cases e) ?_
      refine QE.thru (by intro e; cases e) ?_
      refine QE.blockE ?_
      refine QE.then ?_
      refine CP.seq ?_
      refine CP.drawA (by kernel_rfl) (fun w2 k h => h.drawn k) ?_
      refine DA.phase (fun i => Nat.ble 0 i && Nat.blt i 5) (fun w2 => St w hA hV [slP (kInt .u8) v27 t26.1.Takes, slP k_api_Value v_k_0_2 k_0_2, slP k_api_Value v_k_0_4 k_0_4, slP k_api_Method v_k_0_6 k_0_6, slP (kInt .u8) v_k_0_9 k_0_9, slP (kInt .u8) v_k_0_11 k_0_11, slP k_api_Instr v_k_0_18 k_0_18, slP (kInt .u8) v_k_0_20 k_0_20, slP (kInt .u8) v_row_2 row_2] [boxO b31 [v27, v28] 75, slO (kInt .u8) 5 v28 t26.1.Gives, arrK k_types_Row b1 [v_k_0_2, v_k_0_4, v_k_0_6, .int .i64 k_0_8, v_k_0_9, v_k_0_11, .int .u8 k_0_13, .bool k_0_14, .int .i64 k_0_15, .int .i64 k_0_16, .int .i64 k_0_17, v_k_0_18, v_k_0_20] 200 t26.2 [] 65] w2) ?_
      refine DT.take 0 rfl rfl rfl rfl (by kernel_rfl) (fun _ _ _ h => h) (Val.move rfl) (fun w2 hw => hw) ?_
      refine DT.take 1 rfl rfl rfl rfl (by kernel_rfl) (fun _ _ _ h => h) (Val.move rfl) (fun w2 hw => hw) ?_
      refine DT.take 3 rfl rfl rfl rfl (by kernel_rfl) (fun _ _ _ h => h) (Val.fieldAddr Tryd.underlying75 rfl sz33 rfl) (fun w2 hw => hw) ?_
      refine DT.take 4 rfl rfl rfl rfl (by kernel_rfl) (fun _ _ _ h => h) (Val.load1 0 rfl Tryd.underlying33 rfl rfl rfl) (fun w2 hw => hw) ?_
      refine DT.one 2 rfl (by kernel_rfl) rfl ?_
      obtain ⟨hz, ho⟩ := must_some ho
      refine SP.sliceToP see 8 rfl Tryd.underlying33 sz5 rfl rfl hz rfl rfl (fun v80 => ?_)
      clear hz
      refine SP.nil ?_
      refine QE.atT (fun w2 hw => (St.selP [1, 2, 3, 4, 5, 6, 7, 8, 9] rfl hw)) ?_
      refine DT.next (by kernel_rfl) ?_
      refine DA.one 5 rfl (by kernel_rfl) ?_
      refine SP.freezeS see 1 rfl ?_
      refine SP.litS (k := (kSl (kInt .u8))) (xs := [(row_2.take (IntKind.i64.wrap ((row_2.length : Int) - (t26.1.Takes.length : Int)) : Int).toNat), t26.1.Gives]) (vs := [v80, v28]) Tryd.underlying87 inf33 rfl rfl rfl rfl rfl rfl (fun _ ap => ⟨slR.cells1 (ap.get 1 rfl), slR.cells1 (ap.get 0 rfl), trivial⟩) (fun _ ap => ⟨[v80], _, rfl, ⟨_, rfl, ap.get 1 rfl⟩, ⟨[v28], _, rfl, ⟨_, rfl, ap.get 0 rfl⟩, rfl⟩⟩) rfl rfl rfl (fun v82 => ?_)
      refine SP.nil ?_
      refine QE.atA ?_
      refine DA.one 6 rfl (by kernel_rfl) ?_
      obtain ⟨t84, hc, ho⟩ := bind_some (x := slices_Concat_uint8_uint8.f [(row_2.take (IntKind.i64.wrap ((row_2.length : Int) - (t26.1.Takes.length : Int)) : Int).toNat), t26.1.Gives]) ho
      refine SP.callKO see (caps := []) _ fn21 rfl rfl rfl rfl (fun w2 hs => slices_Concat_uint8_uint8.ok [(row_2.take (IntKind.i64.wrap ((row_2.length : Int) - (t26.1.Takes.length : Int)) : Int).toNat), t26.1.Gives] _ _ hc w2 (hp w2) (Sub.refl _) (slO.read (St.own 0 rfl see.sub see.dj hs) (Sub.refl _) (Sub.refl _))) (fun v a a2 b ⟨v85, e, h⟩ => ⟨v85, e, (Sep.fcons (fun _ => slO.flip (fun _ _ _ _ h => h)) (fun _ => Sep.fnil)) h⟩) (fun vr => ?_)
      refine SP.ex (fun w2 h => St.open h) (fun v85 => ?_)
      refine SP.have (fun w2 h => (St.pand h).1.symm) (fun er => ?_)
      subst er
      refine SP.imp (fun w2 h => St.seps (St.pand h).2) ?_
      clear hc
      refine SP.nil ?_
      refine QE.atA ?_
      refine DA.one 7 rfl (by kernel_rfl) ?_
      refine SP.val (Val.assign rfl) rfl rfl rfl ?_
      refine SP.nil ?_
      refine QE.atA ?_
      refine DA.one 8 rfl (by kernel_rfl) ?_
      refine SP.val (Val.assign rfl) rfl rfl rfl ?_
      refine SP.nil ?_
      refine QE.atA ?_
      refine DA.done (by kernel_rfl) ?_
      refine QE.then ?_
      refine CP.ret ?_
      obtain rfl := Option.some.inj ho
      obtain rfl := Option.some.inj hr
      exact QE.rets (rs := [.tmp 6, .tmp 7]) (vs := [v85, .int .i64 0]) Tryd.results42 rfl ⟨RVs.tmp rfl, RVs.tmp rfl, trivial⟩ (fun w2 h => St.done (fun a b p s => ⟨_, rfl, s⟩) (St.selO [0, 3] rfl rfl h))
/-! ### capstan/op.Goes: function 32 -/
def op_Goes.f (op_0 : Int) : Option Bool :=
  (op_Known.f op_0).bind fun t1 => some (((t1 && (decide (op_0 ≠ 26))) && (decide (op_0 ≠ 31))) && (decide (op_0 ≠ 32)))
theorem op_Goes.ok (op_0 : Int)  (r : Bool) (H : op_Goes.f op_0 = some r) (w : World) (hV : Hp) (sV : Sub hV (hp w))  :
    Trip Tryd.prog 32 [.int .u8 op_0].toArray em hV w (fun v => HO.pure (v = .bool r)) := by
  have see : Sees w em hV := ⟨sV, Dj.em_right _⟩
  refine Trip.of (P := Tryd.prog) (n := ⟨17, []⟩) Tryd.func32 rfl ⟨rfl, rfl⟩ rfl (St.begin (All.nil _)) ?_
  have ho := H
  refine CP.seq ?_
  refine CP.region ?_
  refine SP.val (Val.assign rfl) rfl rfl rfl ?_
  refine SP.nil ?_
  refine QE.then ?_
  refine CP.seq ?_
  refine CP.region ?_
  refine SP.val (Val.move rfl) rfl rfl rfl ?_
  obtain ⟨t1, hc, ho⟩ := bind_some (x := op_Known.f op_0) ho
  refine SP.callV see (caps := []) (.bool t1) fn46 rfl rfl rfl rfl (fun w2 hP hs sub ap => op_Known.ok op_0  _ hc w2 hP sub ) ?_
  clear hc
  refine SP.val (Val.move rfl) rfl rfl rfl ?_
  refine SP.join 3 (fun a w2 => Env ⟨17, []⟩ [(0, .int .u8 op_0), (8, .bool (t1 && (decide (op_0 ≠ 26))))] a ∧ St w em hV [] [] w2) ?_ ?_
  · rintro a w2 ⟨ha, hw⟩
    refine SP.app ha hw ?_
    clear ha hw a w2
    refine SP.val (Val.move rfl) rfl rfl rfl ?_
    refine SP.join 3 (fun a w2 => Env ⟨17, []⟩ [(0, .int .u8 op_0), (12, .bool ((t1 && (decide (op_0 ≠ 26))) && (decide (op_0 ≠ 31))))] a ∧ St w em hV [] [] w2) ?_ ?_
    · rintro a w2 ⟨ha, hw⟩
      refine SP.app ha hw ?_
      clear ha hw a w2
      refine SP.val (Val.move rfl) rfl rfl rfl ?_
      refine SP.join 3 (fun a w2 => Env ⟨17, []⟩ [(16, .bool (((t1 && (decide (op_0 ≠ 26))) && (decide (op_0 ≠ 31))) && (decide (op_0 ≠ 32))))] a ∧ St w em hV [] [] w2) ?_ ?_
      · rintro a w2 ⟨ha, hw⟩
        refine SP.app ha hw ?_
        clear ha hw a w2
        refine SP.val (Val.assign rfl) rfl rfl rfl ?_
        refine SP.nil ?_
        refine QE.then ?_
        refine CP.ret ?_
        obtain rfl := Option.some.inj ho
        exact QE.rets (rs := [.tmp 2]) (vs := [.bool (((t1 && (decide (op_0 ≠ 26))) && (decide (op_0 ≠ 31))) && (decide (op_0 ≠ 32)))]) Tryd.results32 rfl ⟨RVs.tmp rfl, trivial⟩ (fun w2 h => St.done (fun a b p s => rfl) h)
      · intro J
        by_cases hc : ((t1 && (decide (op_0 ≠ 26))) && (decide (op_0 ≠ 31))) = true
        · have hq7 := hc
          refine SP.isT (d := 13) rfl hq7 ?_
          refine SP.val (Val.move rfl) rfl rfl rfl ?_
          refine SP.val (Val.neq rfl rfl) rfl rfl rfl ?_
          refine SP.val (Val.pickT rfl rfl) rfl rfl rfl ?_
          exact J fun a w2 ha hw => ⟨ha.sub ⟨congrArg (fun z => some (Value.bool z)) (and_t hq7 rfl), trivial⟩, hw⟩
        · have hq7 := (bf hc)
          refine SP.isF (d := 13) rfl hq7 ?_
          refine SP.not rfl rfl rfl ?_
          refine SP.not rfl rfl rfl ?_
          refine SP.val (Val.pickF rfl rfl) rfl rfl rfl ?_
          exact J fun a w2 ha hw => ⟨ha.sub ⟨congrArg (fun z => some (Value.bool z)) (and_f hq7), trivial⟩, hw⟩
    · intro J
      by_cases hc : (t1 && (decide (op_0 ≠ 26))) = true
      · have hq5 := hc
        refine SP.isT (d := 9) rfl hq5 ?_
        refine SP.val (Val.move rfl) rfl rfl rfl ?_
        refine SP.val (Val.neq rfl rfl) rfl rfl rfl ?_
        refine SP.val (Val.pickT rfl rfl) rfl rfl rfl ?_
        exact J fun a w2 ha hw => ⟨ha.sub ⟨rfl, congrArg (fun z => some (Value.bool z)) (and_t hq5 rfl), trivial⟩, hw⟩
      · have hq5 := (bf hc)
        refine SP.isF (d := 9) rfl hq5 ?_
        refine SP.not rfl rfl rfl ?_
        refine SP.not rfl rfl rfl ?_
        refine SP.val (Val.pickF rfl rfl) rfl rfl rfl ?_
        exact J fun a w2 ha hw => ⟨ha.sub ⟨rfl, congrArg (fun z => some (Value.bool z)) (and_f hq5), trivial⟩, hw⟩
  · intro J
    by_cases hc : t1 = true
    · have hq3 := hc
      refine SP.isT (d := 5) rfl hq3 ?_
      refine SP.val (Val.move rfl) rfl rfl rfl ?_
      refine SP.val (Val.neq rfl rfl) rfl rfl rfl ?_
      refine SP.val (Val.pickT rfl rfl) rfl rfl rfl ?_
      exact J fun a w2 ha hw => ⟨ha.sub ⟨rfl, congrArg (fun z => some (Value.bool z)) (and_t hq3 rfl), trivial⟩, hw⟩
    · have hq3 := (bf hc)
      refine SP.isF (d := 5) rfl hq3 ?_
      refine SP.not rfl rfl rfl ?_
      refine SP.not rfl rfl rfl ?_
      refine SP.val (Val.pickF rfl rfl) rfl rfl rfl ?_
      exact J fun a w2 ha hw => ⟨ha.sub ⟨rfl, congrArg (fun z => some (Value.bool z)) (and_f hq3), trivial⟩, hw⟩
/-! ### capstan/op.Leads: function 17 -/
def op_Leads.f (op_0 : Int) : Option Bool :=
  (op_sign.f op_0).bind fun t1 => some (decide (t1 = 5))
theorem op_Leads.ok (op_0 : Int)  (r : Bool) (H : op_Leads.f op_0 = some r) (w : World) (hV : Hp) (sV : Sub hV (hp w))  :
    Trip Tryd.prog 17 [.int .u8 op_0].toArray em hV w (fun v => HO.pure (v = .bool r)) := by
  have see : Sees w em hV := ⟨sV, Dj.em_right _⟩
  refine Trip.of (P := Tryd.prog) (n := ⟨6, []⟩) Tryd.func17 rfl ⟨rfl, rfl⟩ rfl (St.begin (All.nil _)) ?_
  have ho := H
  refine CP.seq ?_
  refine CP.region ?_
  refine SP.val (Val.assign rfl) rfl rfl rfl ?_
  refine SP.nil ?_
  refine QE.then ?_
  refine CP.seq ?_
  refine CP.region ?_
  refine SP.val (Val.move rfl) rfl rfl rfl ?_
  obtain ⟨t1, hc, ho⟩ := bind_some (x := op_sign.f op_0) ho
  refine SP.callV see (caps := []) (.int .i64 t1) fn37 rfl rfl rfl rfl (fun w2 hP hs sub ap => op_sign.ok op_0  _ hc w2 hP sub ) ?_
  clear hc
  refine SP.val (Val.eql rfl rfl) rfl rfl rfl ?_
  refine SP.val (Val.assign rfl) rfl rfl rfl ?_
  refine SP.nil ?_
  refine QE.then ?_
  refine CP.ret ?_
  obtain rfl := Option.some.inj ho
  exact QE.rets (rs := [.tmp 2]) (vs := [.bool (decide (t1 = 5))]) Tryd.results17 rfl ⟨RVs.tmp rfl, trivial⟩ (fun w2 h => St.done (fun a b p s => rfl) h)
/-! ### slices.Sort[[]int,int]: function 33 -/
shelf_lay_g SlLaysM.n5 Slgm 5 at Tryd 33 as Tryd.sorti33
/-- A row of numbers of one's own, sorted where it lies. -/
theorem srti33_trip {v : Value} {l : List Int} (hll : l.length < 4611686018427387904) {w : World} {hP h1 : Hp} (sub : Sub hP (hp w)) (s1 : Sub h1 (hp w)) (dj : Dj hP h1) (hI : (slO (kInt .i64) 3 v l).p hP h1) :
    Trip Tryd.prog 33 #[v] h1 hP w (fun r => HO.pand (r = .tuple #[]) (HO.seps [slO (kInt .i64) 3 v (l.mergeSort fun x y => decide (x ≤ y))])) := by
  have h := slO.rowTrip (P := Tryd.prog) (f := 33) (fun v => #[v]) (fun _ => .tuple #[]) (fun x => [Value.int .i64 x]) (fun h cs x => Iff.rfl) (fun d : Array Int => (d.toList.mergeSort fun x y => decide (x ≤ y)).toArray) (fun d => by simp) (fun blk cap d w hH hb hsz _ _ => ?_) (fun _ w hV sV => ?_) hll sub s1 dj hI
  · simpa using h
  · have := AnyM.slices_Sort_int Tryd.sorti33 blk 0 cap d.toList w (holdsOne.1 hH) hb (by simpa using hsz)
    refine this.mono fun e w' ⟨h1, n, os, h2⟩ => ⟨h1, n, os, h2.trans (Eq.symm sortOne)⟩
  · refine (AnyM.slices_Sort_int_none Tryd.sorti33 none 0 w).mono fun e w' ⟨he, hw⟩ => ?_
    subst hw
    exact ⟨_, he, Met.refl _, fun _ _ e _ => e, em, em, fun _ _ _ => rfl, fun _ _ _ => rfl, Dj.em_left _, Sub.em _, Sub.em _, rfl⟩


/-! ### slices.Compact[[]int,int]: function 34 -/
shelf_lay_g SlLaysN.n43 Slgn 43 at Tryd 34 as Tryd.compacti34
/-- A row of numbers of one's own, of which none stands behind its like. -/
theorem compacti34_trip {v : Value} {l : List Int} (hll : l.length < 4611686018427387904) {w : World} {hP h1 : Hp} (sub : Sub hP (hp w)) (s1 : Sub h1 (hp w)) (dj : Dj hP h1) (hI : (slO (kInt .i64) 3 v l).p hP h1) :
    Trip Tryd.prog 34 #[v] h1 hP w (fun r => HO.ex fun u : Value => HO.pand (r = u) (HO.seps [slO (kInt .i64) 3 u (Lib.compact l)])) := by
  have hle : (Lib.compact l).length ≤ l.length := compact_le l
  have h := slO.rowTrip (P := Tryd.prog) (f := 34) (fun v => #[v]) (fun v => shrinkV v (Lib.compact l).length) (fun x => [Value.int .i64 x]) (fun h cs x => Iff.rfl) (fun d : Array Int => (Lib.compact d.toList ++ List.replicate (d.size - (Lib.compact d.toList).length) 0).toArray) (fun d => by have := compact_le d.toList; simp at this ⊢; omega) (fun blk cap d w hH hb hsz hcap hd => ?_) (fun h0 w hV sV => ?_) hll sub s1 dj hI
  · exact slO.shrinkT (by simp only [List.length_append]; omega) (by simp) h
  · have := AnyG.slices_Compact_int Tryd.compacti34 blk 0 cap d.toList w (holdsOne.1 hH) (by simp; omega) (by simpa using hcap)
    refine this.mono fun e w' ⟨h1, n, h2⟩ => ⟨?_, n, #[], h2.trans (Eq.trans ?_ (Eq.symm sortOne))⟩
    · rw [h1, hd]; rfl
    · rw [grow_none]; simp
  · refine (AnyG.slices_Compact_int_empty Tryd.compacti34 none 0 w).mono fun e w' ⟨he, hw⟩ => ?_
    subst hw
    exact ⟨_, he, Met.refl _, fun _ _ e _ => e, em, em, fun _ _ _ => rfl, fun _ _ _ => rfl, Dj.em_left _, Sub.em _, Sub.em _, rfl⟩


/-! ### capstan/flow.Ways: function 14 -/
def flow_Ways.j2 (l_0 : (List api_Instr)) (a1 : Int) (l31 : List Int) : Option ((List Int) × Int) :=
  if l31.length < 4611686018427387904 then (if (l31.mergeSort fun x y => decide (x ≤ y)).length < 4611686018427387904 then (some ((Lib.compact (l31.mergeSort fun x y => decide (x ≤ y))), 0)) else none) else none

def flow_Ways.j1 (l_0 : (List api_Instr)) (a1 : Int) (x9 : api_Instr) (l19 : List Int) : Option ((List Int) × Int) :=
  if x9.Op = 29 then (if (l19.length + [IntKind.i64.wrap (x9.A + 1)].length) * 8 ≤ 140737488355328 then (flow_Ways.j2 l_0 a1 (l19 ++ [IntKind.i64.wrap (x9.A + 1)])) else none) else ((op_Leads.f x9.Op).bind fun t25 => if t25 = true then (if (l19.length + [x9.A].length) * 8 ≤ 140737488355328 then (flow_Ways.j2 l_0 a1 (l19 ++ [x9.A])) else none) else (flow_Ways.j2 l_0 a1 l19))

def flow_Ways.f (l_0 : (List api_Instr)) (a1 : Int) : Option ((List Int) × Int) :=
  (flow_Check.f l_0).bind fun t2 => if t2 ≠ 0 then (some ([], t2)) else (if ((decide (a1 < 0)) || (decide (a1 ≥ (l_0.length : Int)))) = true then (some ([], 2)) else ((elt l_0 a1).bind fun x9 => (op_Goes.f x9.Op).bind fun t12 => if t12 = true then (if (([] : List Int).length + [IntKind.i64.wrap (a1 + 1)].length) * 8 ≤ 140737488355328 then (flow_Ways.j1 l_0 a1 x9 (([] : List Int) ++ [IntKind.i64.wrap (a1 + 1)])) else none) else (flow_Ways.j1 l_0 a1 x9 [])))
theorem flow_Ways.ok (l_0 : (List api_Instr)) (a1 : Int) (v_l_0 : Value)  (r : (List Int) × Int) (H : flow_Ways.f l_0 a1 = some r) (w : World) (hV : Hp) (sV : Sub hV (hp w)) (h0 : slR k_api_Instr hV v_l_0 l_0) (h1 : (arrP k_arr136 0 tab0).p hV) :
    Trip Tryd.prog 14 [v_l_0, .int .i64 a1].toArray em hV w (fun v => HO.ex fun u0 : Value => HO.pand (v = .tuple #[u0, .int .i64 r.2]) (HO.seps [slO (kInt .i64) 3 u0 r.1])) := by
  have see : Sees w em hV := ⟨sV, Dj.em_right _⟩
  refine Trip.of (P := Tryd.prog) (n := ⟨57, []⟩) Tryd.func14 rfl ⟨rfl, rfl⟩ rfl (St.begin (All.cons (x := slP k_api_Instr v_l_0 l_0) h0 (All.cons (x := arrP k_arr136 0 tab0) h1 (All.nil _)))) ?_
  have ho := H
  refine CP.seq ?_
  refine CP.region ?_
  refine SP.val (Val.assign rfl) rfl rfl rfl ?_
  refine SP.val (Val.assign rfl) rfl rfl rfl ?_
  refine SP.nil ?_
  refine QE.then ?_
  refine CP.seq ?_
  refine CP.seq ?_
  refine CP.region ?_
  refine SP.val (Val.move rfl) rfl rfl rfl ?_
  obtain ⟨t2, hc, ho⟩ := bind_some (x := flow_Check.f l_0) ho
  refine SP.callV see (caps := []) (.int .i64 t2) fn20 rfl rfl rfl rfl (fun w2 hP hs sub ap => flow_Check.ok l_0 _ _ hc w2 hP sub (ap.get 0 rfl) (ap.get 1 rfl)) ?_
  clear hc
  refine SP.val (Val.assign rfl) rfl rfl rfl ?_
  refine SP.nil ?_
  refine QE.then ?_
  refine CP.seq ?_
  refine CP.region ?_
  refine SP.val (Val.move rfl) rfl rfl rfl ?_
  refine SP.val (Val.neq rfl rfl) rfl rfl rfl ?_
  refine SP.nil ?_
  refine QE.then ?_
  rcases if_some ho with ⟨hc, ho⟩ | ⟨hc, ho⟩
  · refine CP.condT rfl (decide_eq_true hc) ?_
    refine CP.seq ?_
    refine CP.region ?_
    refine SP.val (Val.move rfl) rfl rfl rfl ?_
    refine SP.val (Val.assign rfl) rfl rfl rfl ?_
    refine SP.val (Val.assign rfl) rfl rfl rfl ?_
    refine SP.nil ?_
    refine QE.then ?_
    refine CP.ret ?_
    refine QE.thru (by intro e; cases e) ?_
    obtain rfl := Option.some.inj ho
    exact QE.rets (rs := [.tmp 4, .tmp 5]) (vs := [(.slice none 0 0), .int .i64 t2]) Tryd.results14 rfl ⟨RVs.tmp rfl, RVs.tmp rfl, trivial⟩ (fun w2 h => St.done (fun a b p s => ⟨_, rfl, s⟩) (St.selO [0] rfl rfl (St.addO (slO.nil (kInt .i64) 3) h)))
  · refine CP.condF rfl (decide_eq_false hc) ?_
    refine CP.skip ?_
    refine QE.then ?_
    refine CP.seq ?_
    refine CP.seq ?_
    refine CP.region ?_
    refine SP.val (Val.move rfl) rfl rfl rfl ?_
    refine SP.val (Val.lss rfl rfl) rfl rfl rfl ?_
    refine SP.val (Val.move rfl) rfl rfl rfl ?_
    refine SP.join 5 (fun a w2 => Env ⟨57, []⟩ [(0, v_l_0), (1, .int .i64 a1), (21, .bool ((decide (a1 < 0)) || (decide (a1 ≥ (l_0.length : Int)))))] a ∧ St w em hV [slP k_api_Instr v_l_0 l_0, arrP k_arr136 0 tab0] [] w2) ?_ ?_
    · rintro a w2 ⟨ha, hw⟩
      refine SP.app ha hw ?_
      clear ha hw a w2
      refine SP.nil ?_
      refine QE.then ?_
      rcases if_some ho with ⟨hc, ho⟩ | ⟨hc, ho⟩
      · refine CP.condT rfl hc ?_
        refine CP.seq ?_
        refine CP.region ?_
        refine SP.val (Val.assign rfl) rfl rfl rfl ?_
        refine SP.val (Val.assign rfl) rfl rfl rfl ?_
        refine SP.nil ?_
        refine QE.then ?_
        refine CP.ret ?_
        refine QE.thru (by intro e; cases e) ?_
        obtain rfl := Option.some.inj ho
        exact QE.rets (rs := [.tmp 4, .tmp 5]) (vs := [(.slice none 0 0), .int .i64 2]) Tryd.results14 rfl ⟨RVs.tmp rfl, RVs.tmp rfl, trivial⟩ (fun w2 h => St.done (fun a b p s => ⟨_, rfl, s⟩) (St.selO [0] rfl rfl (St.addO (slO.nil (kInt .i64) 3) h)))
      · refine CP.condF rfl (bf hc) ?_
        refine CP.skip ?_
        refine QE.then ?_
        refine CP.seq ?_
        refine CP.region ?_
        refine SP.val (Val.assign rfl) rfl rfl rfl ?_
        refine SP.nil ?_
        refine QE.then ?_
        refine CP.seq ?_
        refine CP.region ?_
        refine SP.val (Val.move rfl) rfl rfl rfl ?_
        refine SP.val (Val.move rfl) rfl rfl rfl ?_
        obtain ⟨x9, hx, ho⟩ := bind_some ho
        have hx := elt_some hx
        refine SP.indexP see 0 rfl Tryd.underlying34 sz45 hx.1 hx.2 rfl rfl rfl rfl (fun p7 => ?_)
        clear hx
        refine k_api_Instr.load see 0 rfl Tryd.underlying45 rfl sz45 rfl rfl rfl ?_
        refine SP.alloc (cs := [.int .u8 0, .int .i64 0, .int .i64 0]) inf45 rfl rfl (fun b10 => ?_)
        refine SP.store (v := .agg #[.int .u8 x9.Op, .int .i64 x9.A, .int .i64 x9.B]) (vs := [.int .u8 x9.Op, .int .i64 x9.A, .int .i64 x9.B]) 0 (by rfl) sz45 (by rfl) (by rfl) (by rfl) (by rfl) (by rfl) (by rfl) ?_
        refine SP.nil ?_
        refine QE.then ?_
        refine CP.join (fun a w2 => ∃ l19 : List Int, ∃ v20 : Value, flow_Ways.j1 l_0 a1 x9 l19 = some r ∧ Env ⟨57, []⟩ [(7, v20), (8, .pointer (some ⟨b10, 0, none⟩))] a ∧ St w em hV [arrP k_arr136 0 tab0] [slO (kInt .i64) 3 v20 l19, boxO b10 [.int .u8 x9.Op, .int .i64 x9.A, .int .i64 x9.B] 45] w2) ?_ ?_
        · rintro a w2 ⟨l19, v20, ho, ha, hw⟩
          refine CP.app ha hw ?_
          clear ha hw a w2
          refine CP.join (fun a w2 => ∃ l31 : List Int, ∃ v32 : Value, flow_Ways.j2 l_0 a1 l31 = some r ∧ Env ⟨57, []⟩ [(7, v32)] a ∧ St w em hV [arrP k_arr136 0 tab0] [slO (kInt .i64) 3 v32 l31] w2) ?_ ?_
          · rintro a w2 ⟨l31, v32, ho, ha, hw⟩
            refine CP.app ha hw ?_
            clear ha hw a w2
            refine CP.seq ?_
            refine CP.region ?_
            refine SP.val (Val.move rfl) rfl rfl rfl ?_
            obtain ⟨hb, ho⟩ := must_some ho
            refine SP.callA see (caps := []) (X := slO (kInt .i64) 3 v32 l31) (fun r => HO.pand (r = .tuple #[]) (HO.seps [slO (kInt .i64) 3 v32 (l31.mergeSort fun x y => decide (x ≤ y))])) fn33 rfl rfl rfl rfl (fun w2 hP h1 sub s1 d1 ap hI => srti33_trip hb sub s1 d1 hI) (fun vr => ?_)
            refine SP.have (fun w2 h => (St.pand h).1.symm) (fun er => ?_)
            subst er
            refine SP.imp (fun w2 h => St.seps (St.pand h).2) ?_
            clear hb
            refine SP.nil ?_
            refine QE.then ?_
            refine CP.seq ?_
            refine CP.region ?_
            refine SP.val (Val.move rfl) rfl rfl rfl ?_
            obtain ⟨hb, ho⟩ := must_some ho
            refine SP.callA see (caps := []) (X := slO (kInt .i64) 3 v32 (l31.mergeSort fun x y => decide (x ≤ y))) (fun r => HO.ex fun u : Value => HO.pand (r = u) (HO.seps [slO (kInt .i64) 3 u (Lib.compact (l31.mergeSort fun x y => decide (x ≤ y)))])) fn34 rfl rfl rfl rfl (fun w2 hP h1 sub s1 d1 ap hI => compacti34_trip hb sub s1 d1 hI) (fun vr => ?_)
            refine SP.ex (fun w2 h => St.open h) (fun v35 => ?_)
            refine SP.have (fun w2 h => (St.pand h).1.symm) (fun er => ?_)
            subst er
            refine SP.imp (fun w2 h => St.seps (St.pand h).2) ?_
            clear hb
            refine SP.val (Val.assign rfl) rfl rfl rfl ?_
            refine SP.val (Val.assign rfl) rfl rfl rfl ?_
            refine SP.nil ?_
            refine QE.then ?_
            refine CP.ret ?_
            obtain rfl := Option.some.inj ho
            exact QE.rets (rs := [.tmp 4, .tmp 5]) (vs := [v35, .int .i64 0]) Tryd.results14 rfl ⟨RVs.tmp rfl, RVs.tmp rfl, trivial⟩ (fun w2 h => St.done (fun a b p s => ⟨_, rfl, s⟩) (St.selO [0] rfl rfl h))
          · refine CP.block ?_
            refine CP.seq ?_
            refine CP.region ?_
            refine SP.val (Val.fieldAddr Tryd.underlying45 rfl sz5 rfl) rfl rfl rfl ?_
            refine SP.val (Val.load1 1 rfl Tryd.underlying5 rfl rfl rfl) rfl rfl rfl ?_
            refine SP.val (Val.eql rfl rfl) rfl rfl rfl ?_
            refine SP.val (Val.assign rfl) rfl rfl rfl ?_
            refine SP.nil ?_
            refine QE.then ?_
            rcases if_some ho with ⟨hc, ho⟩ | ⟨hc, ho⟩
            · refine CP.condT rfl (decide_eq_true hc) ?_
              refine CP.region ?_
              refine SP.val (Val.move rfl) rfl rfl rfl ?_
              refine SP.val (Val.fieldAddr Tryd.underlying45 rfl sz3 rfl) rfl rfl rfl ?_
              refine SP.val (Val.load1 1 rfl Tryd.underlying3 rfl rfl rfl) rfl rfl rfl ?_
              refine SP.val (Val.add rfl rfl) rfl rfl rfl ?_
              refine SP.lit (k := (kInt .i64)) (xs := [IntKind.i64.wrap (x9.A + 1)]) (vs := [.int .i64 (IntKind.i64.wrap (x9.A + 1))]) (cells := [.int .i64 (IntKind.i64.wrap (x9.A + 1))]) Tryd.underlying46 inf3 rfl rfl rfl rfl rfl rfl rfl rfl (fun _ ap => ⟨[.int .i64 (IntKind.i64.wrap (x9.A + 1))], _, rfl, rfl, rfl⟩) rfl rfl rfl (fun v21 => ?_)
              refine SP.freezeS see 0 rfl ?_
              obtain ⟨hb, ho⟩ := must_some ho
              refine SP.append see 0 rfl 0 rfl Tryd.underlying46 inf3 rfl rfl hb rfl rfl rfl rfl rfl (fun v23 => ?_)
              clear hb
              refine SP.val (Val.assign rfl) rfl rfl rfl ?_
              refine SP.nil ?_
              refine QE.blockN ?_
              exact QE.meet fun a w2 ha hw => ⟨(l19 ++ [IntKind.i64.wrap (x9.A + 1)]), v23, ho, ha.sub ⟨rfl, trivial⟩, (St.selP [1] rfl (St.selO [0] rfl rfl hw))⟩
            · refine CP.condF rfl (decide_eq_false hc) ?_
              refine CP.seq ?_
              refine CP.region ?_
              refine SP.val (Val.fieldAddr Tryd.underlying45 rfl sz5 rfl) rfl rfl rfl ?_
              refine SP.val (Val.load1 1 rfl Tryd.underlying5 rfl rfl rfl) rfl rfl rfl ?_
              obtain ⟨t25, hc, ho⟩ := bind_some (x := op_Leads.f x9.Op) ho
              refine SP.callV see (caps := []) (.bool t25) fn17 rfl rfl rfl rfl (fun w2 hP hs sub ap => op_Leads.ok x9.Op  _ hc w2 hP sub ) ?_
              clear hc
              refine SP.val (Val.assign rfl) rfl rfl rfl ?_
              refine SP.nil ?_
              refine QE.then ?_
              rcases if_some ho with ⟨hc, ho⟩ | ⟨hc, ho⟩
              · refine CP.condT rfl hc ?_
                refine CP.region ?_
                refine SP.val (Val.move rfl) rfl rfl rfl ?_
                refine SP.val (Val.fieldAddr Tryd.underlying45 rfl sz3 rfl) rfl rfl rfl ?_
                refine SP.val (Val.load1 1 rfl Tryd.underlying3 rfl rfl rfl) rfl rfl rfl ?_
                refine SP.lit (k := (kInt .i64)) (xs := [x9.A]) (vs := [.int .i64 x9.A]) (cells := [.int .i64 x9.A]) Tryd.underlying46 inf3 rfl rfl rfl rfl rfl rfl rfl rfl (fun _ ap => ⟨[.int .i64 x9.A], _, rfl, rfl, rfl⟩) rfl rfl rfl (fun v26 => ?_)
                refine SP.freezeS see 0 rfl ?_
                obtain ⟨hb, ho⟩ := must_some ho
                refine SP.append see 0 rfl 0 rfl Tryd.underlying46 inf3 rfl rfl hb rfl rfl rfl rfl rfl (fun v28 => ?_)
                clear hb
                refine SP.val (Val.assign rfl) rfl rfl rfl ?_
                refine SP.nil ?_
                refine QE.blockN ?_
                exact QE.meet fun a w2 ha hw => ⟨(l19 ++ [x9.A]), v28, ho, ha.sub ⟨rfl, trivial⟩, (St.selP [1] rfl (St.selO [0] rfl rfl hw))⟩
              · refine CP.condF rfl (bf hc) ?_
                refine CP.skip ?_
                refine QE.blockN ?_
                exact QE.meet fun a w2 ha hw => ⟨l19, v20, ho, ha.sub ⟨rfl, trivial⟩, (St.selO [0] rfl rfl hw)⟩
        · refine CP.seq ?_
          refine CP.region ?_
          refine SP.val (Val.fieldAddr Tryd.underlying45 rfl sz5 rfl) rfl rfl rfl ?_
          refine SP.val (Val.load1 0 rfl Tryd.underlying5 rfl rfl rfl) rfl rfl rfl ?_
          obtain ⟨t12, hc, ho⟩ := bind_some (x := op_Goes.f x9.Op) ho
          refine SP.callV see (caps := []) (.bool t12) fn32 rfl rfl rfl rfl (fun w2 hP hs sub ap => op_Goes.ok x9.Op  _ hc w2 hP sub ) ?_
          clear hc
          refine SP.nil ?_
          refine QE.then ?_
          rcases if_some ho with ⟨hc, ho⟩ | ⟨hc, ho⟩
          · refine CP.condT rfl hc ?_
            refine CP.region ?_
            refine SP.val (Val.move rfl) rfl rfl rfl ?_
            refine SP.val (Val.move rfl) rfl rfl rfl ?_
            refine SP.val (Val.add rfl rfl) rfl rfl rfl ?_
            refine SP.lit (k := (kInt .i64)) (xs := [IntKind.i64.wrap (a1 + 1)]) (vs := [.int .i64 (IntKind.i64.wrap (a1 + 1))]) (cells := [.int .i64 (IntKind.i64.wrap (a1 + 1))]) Tryd.underlying46 inf3 rfl rfl rfl rfl rfl rfl rfl rfl (fun _ ap => ⟨[.int .i64 (IntKind.i64.wrap (a1 + 1))], _, rfl, rfl, rfl⟩) rfl rfl rfl (fun v13 => ?_)
            refine SP.imp (fun w2 hw => St.addO (slO.nil (kInt .i64) 3) hw) ?_
            refine SP.freezeS see 1 rfl ?_
            obtain ⟨hb, ho⟩ := must_some ho
            refine SP.append see 0 rfl 0 rfl Tryd.underlying46 inf3 rfl rfl hb rfl rfl rfl rfl rfl (fun v16 => ?_)
            clear hb
            refine SP.val (Val.assign rfl) rfl rfl rfl ?_
            refine SP.nil ?_
            exact QE.meet fun a w2 ha hw => ⟨(([] : List Int) ++ [IntKind.i64.wrap (a1 + 1)]), v16, ho, ha.sub ⟨rfl, rfl, trivial⟩, (St.selP [3] rfl hw)⟩
          · refine CP.condF rfl (bf hc) ?_
            refine CP.skip ?_
            exact QE.meet fun a w2 ha hw => ⟨[], (.slice none 0 0), ho, ha.sub ⟨rfl, rfl, trivial⟩, (St.selP [2] rfl (St.addO (slO.nil (kInt .i64) 3) hw))⟩
    · intro J
      by_cases hc : a1 < 0
      · have hq5 := (decide_eq_true hc)
        refine SP.isT (d := 16) rfl hq5 ?_
        refine SP.not rfl rfl rfl ?_
        refine SP.not rfl rfl rfl ?_
        refine SP.not rfl rfl rfl ?_
        refine SP.not rfl rfl rfl ?_
        refine SP.val (Val.pickT rfl rfl) rfl rfl rfl ?_
        exact J fun a w2 ha hw => ⟨ha.sub ⟨rfl, rfl, congrArg (fun z => some (Value.bool z)) (or_t hq5), trivial⟩, hw⟩
      · have hq5 := (decide_eq_false hc)
        refine SP.isF (d := 16) rfl hq5 ?_
        refine SP.val (Val.move rfl) rfl rfl rfl ?_
        refine SP.val (Val.move rfl) rfl rfl rfl ?_
        refine SP.val (Val.lenP see 0 rfl Tryd.underlying34 rfl) rfl rfl rfl ?_
        refine SP.val (Val.geq rfl rfl) rfl rfl rfl ?_
        refine SP.val (Val.pickF rfl rfl) rfl rfl rfl ?_
        exact J fun a w2 ha hw => ⟨ha.sub ⟨rfl, rfl, congrArg (fun z => some (Value.bool z)) (or_f hq5 rfl), trivial⟩, hw⟩
/-! ### slices.Equal[[]uint8,uint8]: function 43 -/
inductive slices_Equal_uint8_uint8.S where
  | start
  | l1 (x12 : Int)

def slices_Equal_uint8_uint8.F (s1_0 : (List Int)) (s2_1 : (List Int)) : slices_Equal_uint8_uint8.S → Option (slices_Equal_uint8_uint8.S ⊕ Bool)
  | .start => if (s1_0.length : Int) ≠ (s2_1.length : Int) then (some (.inr false)) else (some (.inl (.l1 0)))
  | .l1 x12 => if x12 < (s1_0.length : Int) then ((elt s1_0 x12).bind fun x16 => (elt s2_1 x12).bind fun x20 => if x16 ≠ x20 then (some (.inr false)) else (some (.inl (.l1 (IntKind.i64.wrap (x12 + 1)))))) else (some (.inr true))

def slices_Equal_uint8_uint8.f (s1_0 : (List Int)) (s2_1 : (List Int)) : Option Bool := runF (slices_Equal_uint8_uint8.F s1_0 s2_1) .start
theorem slices_Equal_uint8_uint8.ok (s1_0 : (List Int)) (s2_1 : (List Int)) (v_s1_0 : Value) (v_s2_1 : Value) (r : Bool) (H : slices_Equal_uint8_uint8.f s1_0 s2_1 = some r) (w : World) (hV : Hp) (sV : Sub hV (hp w)) (h0 : slR (kInt .u8) hV v_s1_0 s1_0) (h1 : slR (kInt .u8) hV v_s2_1 s2_1) :
    Trip Tryd.prog 43 [v_s1_0, v_s2_1].toArray em hV w (fun v => HO.pure (v = .bool r)) := by
  have see : Sees w em hV := ⟨sV, Dj.em_right _⟩
  refine Trip.of (P := Tryd.prog) (n := ⟨26, []⟩) Tryd.func43 rfl ⟨rfl, rfl⟩ rfl (St.begin (All.cons (x := slP (kInt .u8) v_s1_0 s1_0) h0 (All.cons (x := slP (kInt .u8) v_s2_1 s2_1) h1 (All.nil _)))) ?_
  obtain ⟨n0, hi⟩ := runF_iff.1 H
  obtain ⟨m0, o, hm0, ho, hr⟩ := iter_some hi
  clear hi
  refine CP.seq ?_
  refine CP.region ?_
  refine SP.val (Val.assign rfl) rfl rfl rfl ?_
  refine SP.nil ?_
  refine QE.then ?_
  refine CP.seq ?_
  refine CP.seq ?_
  refine CP.region ?_
  refine SP.val (Val.move rfl) rfl rfl rfl ?_
  refine SP.val (Val.lenP see 0 rfl Tryd.underlying33 rfl) rfl rfl rfl ?_
  refine SP.val (Val.move rfl) rfl rfl rfl ?_
  refine SP.val (Val.lenP see 1 rfl Tryd.underlying33 rfl) rfl rfl rfl ?_
  refine SP.val (Val.neq rfl rfl) rfl rfl rfl ?_
  refine SP.nil ?_
  refine QE.then ?_
  rcases if_some ho with ⟨hc, ho⟩ | ⟨hc, ho⟩
  · refine CP.condT rfl (decide_eq_true hc) ?_
    refine CP.seq ?_
    refine CP.region ?_
    refine SP.val (Val.assign rfl) rfl rfl rfl ?_
    refine SP.nil ?_
    refine QE.then ?_
    refine CP.ret ?_
    refine QE.thru (by intro e; cases e) ?_
    obtain rfl := Option.some.inj ho
    obtain rfl := Option.some.inj hr
    exact QE.rets (rs := [.tmp 4]) (vs := [.bool false]) Tryd.results43 rfl ⟨RVs.tmp rfl, trivial⟩ (fun w2 h => St.done (fun a b p s => rfl) h)
  · refine CP.condF rfl (decide_eq_false hc) ?_
    refine CP.skip ?_
    refine QE.then ?_
    refine CP.seq ?_
    refine CP.seq ?_
    refine CP.region ?_
    refine SP.val (Val.move rfl) rfl rfl rfl ?_
    refine SP.val (Val.lenP see 0 rfl Tryd.underlying33 rfl) rfl rfl rfl ?_
    refine SP.val (Val.move rfl) rfl rfl rfl ?_
    refine SP.nil ?_
    refine QE.then ?_
    refine CP.block ?_
    obtain rfl := Option.some.inj ho
    refine CP.loop (fun cl1 a w2 => ∃ x12 : Int, cl1 ≤ m0 ∧ iter (slices_Equal_uint8_uint8.F s1_0 s2_1) cl1 (.l1 x12) = some r ∧ Env ⟨26, []⟩ [(0, v_s1_0), (1, v_s2_1), (12, .int .i64 (s1_0.length : Int)), (13, .int .i64 x12)] a ∧ St w em hV [slP (kInt .u8) v_s1_0 s1_0, slP (kInt .u8) v_s2_1 s2_1] [] w2) m0 (fun a w2 ha hw => ⟨0, Nat.le_refl _, hr, ha.sub ⟨rfl, rfl, rfl, rfl, trivial⟩, hw⟩) ?_
    clear hr
    rintro cl1 a w2 ⟨x12, hc_l1, hi, ha, hw⟩
    obtain ⟨m13, o, hm_m13, ho, hr⟩ := iter_some hi
    refine CP.app ha hw ?_
    clear ha hw a w2 hi
    refine CP.seq ?_
    refine CP.region ?_
    refine SP.val (Val.lss rfl rfl) rfl rfl rfl ?_
    refine SP.nil ?_
    refine QE.then ?_
    refine CP.seq ?_
    rcases if_some ho with ⟨hc, ho⟩ | ⟨hc, ho⟩
    · refine CP.condT rfl (decide_eq_true hc) ?_
      refine CP.skip ?_
      refine QE.then ?_
      refine CP.seq ?_
      refine CP.block ?_
      refine CP.seq ?_
      refine CP.region ?_
      refine SP.val (Val.move rfl) rfl rfl rfl ?_
      refine SP.val (Val.assign rfl) rfl rfl rfl ?_
      refine SP.nil ?_
      refine QE.then ?_
      refine CP.seq ?_
      refine CP.drawA (by kernel_rfl) (fun w2 k h => h.drawn k) ?_
      obtain ⟨x16, hx, ho⟩ := bind_some ho
      have hx := elt_some hx
      refine DA.ghost (fun w2 h => h.elem see 0 rfl hx.1 hx.2) (fun p14 h_p14 => ?_)
      clear hx
      refine DA.ghost (fun w2 h => h.openE see 0 rfl (fun _ : Unit => [.int .u8 x16]) (fun _ => []) (fun h cs e => ⟨(), e, All.nil _⟩)) (fun _ _ => ?_)
      obtain ⟨x20, hx, ho⟩ := bind_some ho
      have hx := elt_some hx
      refine DA.ghost (fun w2 h => h.elem see 3 rfl hx.1 hx.2) (fun p18 h_p18 => ?_)
      clear hx
      refine DA.ghost (fun w2 h => h.openE see 0 rfl (fun _ : Unit => [.int .u8 x20]) (fun _ => []) (fun h cs e => ⟨(), e, All.nil _⟩)) (fun _ _ => ?_)
      refine DA.phase (fun i => Nat.ble 0 i && Nat.blt i 8) (fun w2 => St w em hV [atP p18 [.int .u8 x20], elP (kInt .u8) p18 x20, atP p14 [.int .u8 x16], elP (kInt .u8) p14 x16, slP (kInt .u8) v_s1_0 s1_0, slP (kInt .u8) v_s2_1 s2_1] [] w2) ?_
      refine DT.take 0 rfl rfl rfl rfl (by kernel_rfl) (fun _ _ _ h => h) (Val.move rfl) (fun w2 hw => hw) ?_
      refine DT.take 1 rfl rfl rfl rfl (by kernel_rfl) (fun _ _ _ h => h) (Val.move rfl) (fun w2 hw => hw) ?_
      refine DT.take 2 rfl rfl rfl rfl (by kernel_rfl) (fun _ _ _ h => h) (Val.indexE h_p14 Tryd.underlying33 sz5 rfl rfl) (fun w2 hw => hw) ?_
      refine DT.take 3 rfl rfl rfl rfl (by kernel_rfl) (fun _ _ _ h => h) (Val.loadAt1 see 2 rfl Tryd.underlying5 rfl rfl) (fun w2 hw => hw) ?_
      refine DT.take 4 rfl rfl rfl rfl (by kernel_rfl) (fun _ _ _ h => h) (Val.move rfl) (fun w2 hw => hw) ?_
      refine DT.take 5 rfl rfl rfl rfl (by kernel_rfl) (fun _ _ _ h => h) (Val.move rfl) (fun w2 hw => hw) ?_
      refine DT.take 6 rfl rfl rfl rfl (by kernel_rfl) (fun _ _ _ h => h) (Val.indexE h_p18 Tryd.underlying33 sz5 rfl rfl) (fun w2 hw => hw) ?_
      refine DT.take 7 rfl rfl rfl rfl (by kernel_rfl) (fun _ _ _ h => h) (Val.loadAt1 see 0 rfl Tryd.underlying5 rfl rfl) (fun w2 hw => hw) ?_
      refine DT.next (by kernel_rfl) ?_
      refine DA.one 8 rfl (by kernel_rfl) ?_
      refine SP.val (Val.neq rfl rfl) rfl rfl rfl ?_
      refine SP.nil ?_
      refine QE.atA ?_
      refine DA.done (by kernel_rfl) ?_
      refine QE.then ?_
      rcases if_some ho with ⟨hc, ho⟩ | ⟨hc, ho⟩
      · refine CP.condT rfl (decide_eq_true hc) ?_
        refine CP.seq ?_
        refine CP.region ?_
        refine SP.val (Val.assign rfl) rfl rfl rfl ?_
        refine SP.nil ?_
        refine QE.then ?_
        refine CP.ret ?_
        refine QE.blockR ?_
        refine QE.thru (by intro e; cases e) ?_
        refine QE.thru (by intro e; cases e) ?_
        refine QE.blockR ?_
        refine QE.thru (by intro e; cases e) ?_
        obtain rfl := Option.some.inj ho
        obtain rfl := Option.some.inj hr
        exact QE.rets (rs := [.tmp 4]) (vs := [.bool false]) Tryd.results43 rfl ⟨RVs.tmp rfl, trivial⟩ (fun w2 h => St.done (fun a b p s => rfl) h)
      · refine CP.condF rfl (decide_eq_false hc) ?_
        refine CP.skip ?_
        refine QE.blockN ?_
        refine QE.then ?_
        refine CP.region ?_
        refine SP.val (Val.add rfl rfl) rfl rfl rfl ?_
        refine SP.val (Val.move rfl) rfl rfl rfl ?_
        refine SP.nil ?_
        obtain rfl := Option.some.inj ho
        exact QE.lower m13 (by omega) fun a w2 ha hw => ⟨(IntKind.i64.wrap (x12 + 1)), (by omega), hr, ha.sub ⟨rfl, rfl, rfl, rfl, trivial⟩, (St.selP [4, 5] rfl hw)⟩
    · refine CP.condF rfl (decide_eq_false hc) ?_
      refine CP.exit ?_
      refine QE.thru (by intro e; cases e) ?_
      refine QE.thru (by intro e; cases e) ?_
      refine QE.blockE ?_
      refine QE.then ?_
      refine CP.seq ?_
      refine CP.region ?_
      refine SP.val (Val.assign rfl) rfl rfl rfl ?_
      refine SP.nil ?_
      refine QE.then ?_
      refine CP.ret ?_
      obtain rfl := Option.some.inj ho
      obtain rfl := Option.some.inj hr
      exact QE.rets (rs := [.tmp 4]) (vs := [.bool true]) Tryd.results43 rfl ⟨RVs.tmp rfl, trivial⟩ (fun w2 h => St.done (fun a b p s => rfl) h)
end Go.Proofs.YtpbmkaenleedoaaDoor
end
