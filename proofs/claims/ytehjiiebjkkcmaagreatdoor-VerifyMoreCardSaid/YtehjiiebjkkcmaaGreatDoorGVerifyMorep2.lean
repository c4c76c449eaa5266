/- Functions of the program as plain functions, with the proof that the code computes them: printed by gen.py of this session. -/
import Derived.Test.YtehjiiebjkkcmaaGreatDoorProg
import Derived.Test.YtehjiiebjkkcmaaGreatDoorQ33xVerifyMore
import Derived.Test.YtehjiiebjkkcmaaGreatDoorQ39xVerifyMore
import Derived.Ground.GgzProg
import Derived.Ground.Names8Prog
import Derived.Ground.NamesProg
import Derived.Ground.SlgcProg
import Derived.Ground.SlgmProg
import Derived.Ground.SlgnProg
import Derived.Ground.SlsfProg
import Derived.Shelf.Bits.Mul64
import Derived.Shelf.Lay
import Derived.Shelf.SlGeneric
import Derived.Shelf.SlIterI.Nil
import Derived.Shelf.SlSortCmp.WholeK
import Derived.Shelf.SlicesE.Reverse
import Derived.Shelf.SlicesG.Cmp
import Derived.Shelf.SlicesG.CompactI
import Derived.Shelf.Small.Bits
import Derived.Shelf.SortM.Plain
import Derived.Shelf.SortM.SortNone
import Derived.Shelf.Spec.SlicesGrow
import Derived.Test.YtehjiiebjkkcmaaGreatDoorGVerifyMorep1
set_option linter.unusedVariables false
set_option linter.unusedSimpArgs false
set_option maxRecDepth 20000
set_option maxHeartbeats 2000000
set_option linter.defProp false
set_option warn.classDefReducibility false
noncomputable section
namespace Go.Proofs.YtehjiiebjkkcmaaGreatDoor
open Go.Q
attribute [local irreducible] CP SP QE DA DT Val St
shelf_lay_g SlLaysF0.n6 Slsf 6 at Tryz 73 as Tryz.sort73
shelf_lay_g SlLaysC2.n5 Slgc 5 at Tryz 75 as Tryz.cmp75
shelf_lay Lays.n125 Nm 125 at Tryz as Tryz.bitsLen97
instance : Inhabited flow_Loop := ⟨flow_Loop.zero⟩
def enc73 (x : flow_Loop) : List Value := [.int .i64 x.From, .int .i64 x.To, .int .i64 x.Turns]
def cf73 (x y : flow_Loop) : Int := Lib.compareInt x.From y.From
theorem lt73 (x y : flow_Loop) : Go.Proofs.ltOf cf73 x y = decide (x.From < y.From) := by
  unfold Go.Proofs.ltOf cf73 Lib.compareInt
  by_cases h1 : x.From < y.From
  · simp [h1]
  · by_cases h2 : y.From < x.From <;> simp [h1, h2]
theorem swo73 : Go.Sort.SWO (Go.Proofs.ltOf cf73) where
  irrefl x := by rw [lt73]; simp
  trans x y z h1 h2 := by rw [lt73] at *; simp at *; omega
  ntrans x y z h1 h2 := by rw [lt73] at *; simp at *; omega
set_option maxHeartbeats 1000000 in
theorem clos73 (x y : flow_Loop) (W : World) : Calls Tryz.prog 74 #[.agg (enc73 x).toArray, .agg (enc73 y).toArray] W fun e w' => e = .returned (.int .i64 (cf73 x y)) ∧ ∃ q os', w' = Go.Sort.grow (W.drewN q) os' := by
  have hcon := fun W' => Go.Proofs.AnyG.cmp_Compare_int Tryz.cmp75 x.From y.From W'
  change ∀ W', Calls Tryz.prog 75 _ _ _ at hcon
  unfold cf73 enc73
  generalize Lib.compareInt x.From y.From = r at hcon ⊢
  go_enter Tryz.func74, Tryz.ntmps74
  go_wp2_with (go_at_call 75; refine (hcon _).mono ?_; rintro e w' ⟨rfl, rfl⟩)
  go_ret
  exact ⟨rfl, 0, _, by rw [Go.Sort.alloc_eq_grow, Go.Sort.alloc_eq_grow, Go.Sort.grow_grow]; rfl⟩
def srt73 (d : Array flow_Loop) : Array flow_Loop := Go.Sort.pdq (Go.Proofs.ltOf cf73) d 0 d.size (Lib.bitLen d.size) true true
theorem srt73_sorts (d : Array flow_Loop) : Go.Sort.PermIn 0 d.size d (srt73 d) ∧ Go.Sort.SortedIn (Go.Proofs.ltOf cf73) 0 d.size (srt73 d) :=
  Go.Sort.pdq_sorts (Go.Proofs.ltOf cf73) swo73 d 0 d.size (Lib.bitLen d.size) true true (Nat.zero_le _) (Nat.le_refl _) (Or.inl rfl)
theorem ins73_nil (F : Value) (w : World) : Calls Tryz.prog 191 #[.slice none 0 0, .int .i64 0, .int .i64 0, F] w fun e w' => e = .returned (.tuple #[]) ∧ w' = w := by
  go_enter Tryz.func191, Tryz.ntmps191
  go_wp2
  refine wp_loop_rounds 1 ?_
  rw [rounds_succ]
  go_wp2
  go_end0
  exact ⟨rfl, rfl⟩
theorem pdq73_nil (F : Value) (w : World) : Calls Tryz.prog 133 #[.slice none 0 0, .int .i64 0, .int .i64 0, .int .i64 0, F] w fun e w' => e = .returned (.tuple #[]) ∧ w' = w := by
  have hi := ins73_nil F w
  go_enter Tryz.func133, Tryz.ntmps133
  go_wp2
  refine wp_loop_rounds 1 ?_
  rw [rounds_succ]
  go_wp2_with (go_at_call 191; refine hi.mono ?_; rintro e w' ⟨rfl, rfl⟩)
  (try simp only [Exit.inBlock, Exit.then]); refine bodyPost_ret (results_none rfl _ _ _) rfl ?_
  exact ⟨rfl, rfl⟩
theorem srt73_nil (F : Value) (w : World) : Calls Tryz.prog 73 #[.slice none 0 0, F] w fun e w' => e = .returned (.tuple #[]) ∧ w' = w := by
  have hi := pdq73_nil F w
  have hl : Calls Tryz.prog 97 #[.int .u64 0] w fun e w' => e = .returned (.int .i64 0) ∧ w' = w := by
    have h := Any.bits_Len Tryz.bitsLen97 0 w (by omega) (by omega)
    exact h
  go_enter Tryz.func73, Tryz.ntmps73
  go_wp2_with (first | (go_at_call 97; refine hl.mono ?_; rintro e w' ⟨rfl, rfl⟩) | (go_at_call 133; refine hi.mono ?_; rintro e w' ⟨rfl, rfl⟩))
  go_end0
  exact ⟨rfl, rfl⟩
theorem srt73_nilT (F : Value) (w : World) (hV : Hp) : Trip Tryz.prog 73 #[.slice none 0 0, F] em hV w (fun v => HO.pure (v = .tuple #[])) :=
  (srt73_nil F w).mono fun e w' ⟨he, hw⟩ => by
    subst hw
    exact ⟨_, he, Met.refl _, fun _ _ e _ => e, em, em, fun _ _ _ => rfl, fun _ _ _ => rfl, Dj.em_left _, Sub.em _, Sub.em _, rfl⟩
theorem srt73_trip {v : Value} {l : List flow_Loop} (hll : l.length < 4611686018427387904) {w : World} {hP h1 : Hp} (sub : Sub hP (hp w)) (s1 : Sub h1 (hp w)) (dj : Dj hP h1) (hI : (slO k_flow_Loop 111 v l).p hP h1) :
    Trip Tryz.prog 73 #[v, .func (.func 74) #[] #[]] h1 hP w (fun r => HO.pand (r = .tuple #[]) (HO.seps [slO k_flow_Loop 111 v (srt73 l.toArray).toList])) := by
  refine slO.rowTrip (fun v => #[v, .func (.func 74) #[] #[]]) (fun _ => .tuple #[]) enc73 (fun h cs x => Iff.rfl) srt73 (fun d => (srt73_sorts d).1.1) (fun blk cap d w hH hb hsz _ _ => ?_) (fun _ w hV sV => ?_) hll sub s1 dj hI
  · exact AnyQ.slices_SortFunc_eq Tryz.sort73 3 Tryz.isAgg111 Tryz.sizeOf111 enc73 (fun _ => rfl) (fun x v hv => by simp [enc73] at hv; rcases hv with rfl | rfl | rfl <;> rfl) cf73 swo73 74 #[] blk 0 cap d w (enters_of Tryz.func74 (by kernel_rfl) rfl) (fun _ _ _ _ x y => clos73 x y _) hH hb hsz
  · exact srt73_nilT _ w hV
inductive flow_Loops.S where
  | start
  | l1 (l52 : List Int) (x53 : Int) (l55 : List flow_Loop) (x57 : Int)
def flow_Loops.j1 (l_0 : (List api_Instr))  : Option (flow_Loops.S ⊕ ((List flow_Loop) × Int)) :=
  some (.inr ([], 90))
def flow_Loops.j2 (l_0 : (List api_Instr)) (x57 : Int) (l80 : List Int) (x81 : Int) (l83 : List flow_Loop) : Option (flow_Loops.S ⊕ ((List flow_Loop) × Int)) :=
  some (.inl (.l1 l80 x81 l83 (IntKind.i64.wrap (x57 + 1))))
def flow_Loops.F (l_0 : (List api_Instr)) : flow_Loops.S → Option (flow_Loops.S ⊕ ((List flow_Loop) × Int))
  | .start => (if ((decide ((l_0.length : Int) = 0)) || (decide ((l_0.length : Int) > 200))) = true then (some true) else ((slices_ContainsFunc_api_Instr_api_Instr_s2.f l_0).bind fun t6 => some t6)).bind fun t7 => if t7 = true then (some (.inr ([], 40))) else (some (.inl (.l1 (List.replicate 4 0 : List Int) 0 [] 0)))
  | .l1 l52 x53 l55 x57 => if x57 < (l_0.length : Int) then ((elt l_0 x57).bind fun x61 => if x61.Op = 28 then ((flow_open_push_s2.f l52 x53 x57).bind fun t64 => if (!t64.1) = true then (flow_Loops.j1 l_0) else (flow_Loops.j2 l_0 x57 t64.2.1 t64.2.2 l55)) else (if x61.Op = 29 then ((flow_open_pop_s2.f l52 x53 x61.A).bind fun t65 => if (!t65.1) = true then (flow_Loops.j1 l_0) else ((elt l_0 x61.A).bind fun x68 => if (l55.length + [(⟨x61.A, x57, x68.A⟩ : flow_Loop)].length) * 24 ≤ 140737488355328 then (flow_Loops.j2 l_0 x57 t65.2.1 t65.2.2 (l55 ++ [(⟨x61.A, x57, x68.A⟩ : flow_Loop)])) else none)) else (flow_Loops.j2 l_0 x57 l52 x53 l55))) else ((if x53 > 0 then (some true) else ((elt l_0 (IntKind.i64.wrap ((l_0.length : Int) - 1))).bind fun x90 => (flow_last.f x90).bind fun t91 => some (!t91))).bind fun t92 => (if t92 = true then (some true) else ((flow_jumps.f l_0 l55).bind fun t95 => some (!t95))).bind fun t96 => if t96 = true then (flow_Loops.j1 l_0) else (if l55.length < 4611686018427387904 then (some (.inr ((srt73 l55.toArray).toList, 0))) else none))
def flow_Loops.f (l_0 : (List api_Instr)) : Option ((List flow_Loop) × Int) := runF (flow_Loops.F l_0) .start
theorem flow_Loops.ok (l_0 : (List api_Instr)) (v_l_0 : Value)  (r : (List flow_Loop) × Int) (H : flow_Loops.f l_0 = some r) (w : World) (hV : Hp) (sV : Sub hV (hp w)) (h0 : slR k_api_Instr hV v_l_0 l_0) (h1 : (arrP k_arr245 0 tab0).p hV) :
    Trip Tryz.prog 34 [v_l_0].toArray em hV w (fun v => HO.ex fun u0 : Value => HO.pand (v = .tuple #[u0, .int .i64 r.2]) (HO.seps [slO k_flow_Loop 111 u0 r.1])) := by
 refine Trip.go 76 Tryz.func34 sV (aS h0 (All.cons (x := arrP k_arr245 0 tab0) h1 (All.nil _))) fun see => ?_
 obtain ⟨n0, hi⟩ := runF_iff.1 H
 obtain ⟨m0, o, hm0, ho, hr⟩ := iter_some hi
 clear hi
 refine go ?_
 refine CP.scope 0 (fun a w2 => ∃ (m107 : Nat) (o : (flow_Loops.S ⊕ ((List flow_Loop) × Int))), m107 ≤ m0 ∧ flow_Loops.j1 l_0 = some o ∧ next (flow_Loops.F l_0) m107 o = some r ∧ Env ⟨76, []⟩ [] a ∧ St w em hV [arrP k_arr245 0 tab0] [] w2) rfl (fun _ _ _ h => h) ?_ ?_
 ·rintro a w2 ⟨m107, o, hm_m107, ho, hr, ha, hw⟩
  refine CP.app ha hw ?_
  clear ha hw a w2
  refine CP.seq (go ?_)
  obtain rfl := fin ho hr
  exact QE.rt (fun _ h => St.selO [0] rfl rfl (St.addO (slO.nil k_flow_Loop 111) h))
 refine CP.seq (go ?_)
 refine SP.jn 4 [0] 15 (.bool ((decide ((l_0.length : Int) = 0)) || (decide ((l_0.length : Int) > 200)))) ?_ ?_
 ·refine go ?_
  obtain ⟨t7, hg_t7, ho⟩ := bind_some ho
  refine SP.jn 3 [0] 19 (.bool t7) ?_ ?_
  ·clear hg_t7
   refine go ?_
   refine CP.cb ho (fun ho => ?_) fun ho => ?_
   ·refine go ?_
    refine QE.scopeX rfl ?_
    obtain rfl := fin ho hr
    exact QE.rt (fun _ h => St.selO [0] rfl rfl (St.addO (slO.nil k_flow_Loop 111) h))
   refine go ?_
   refine SP.alloc (cs := [.int .i64 0, .int .i64 0, .int .i64 0, .int .i64 0, .int .i64 0]) inf109 rfl rfl (fun b9 => go ?_)
   refine CP.seq (go ?_)
   obtain rfl := Option.some.inj ho
   refine CP.loop (fun cl1 a w2 => ∃ l52 : List Int, ∃ x53 : Int, ∃ l55 : List flow_Loop, ∃ x57 : Int, ∃ v56 : Value, cl1 ≤ m0 ∧ iter (flow_Loops.F l_0) cl1 (.l1 l52 x53 l55 x57) = some r ∧ Env ⟨76, []⟩ [(0, v_l_0), (4, v56), (5, .pointer (some ⟨b9, 0, none⟩)), (20, v_l_0), (21, .int .i64 (l_0.length : Int)), (22, .int .i64 x57)] a ∧ St w em hV [slP k_api_Instr v_l_0 l_0, arrP k_arr245 0 tab0] [slO k_flow_Loop 111 v56 l55, arrO b9 [] (fun z : Int => Value.int .i64 z) 4 l52 [.int .i64 x53] 109] w2) m0 (fun a w2 ha hw => ⟨(List.replicate 4 0 : List Int), 0, [], 0, (.slice none 0 0), Nat.le_refl _, hr, ha.sub sb, (St.addO (slO.nil k_flow_Loop 111) (St.arr (f := (fun z : Int => Value.int .i64 z)) 0 rfl (List.replicate 4 0 : List Int) [] [.int .i64 0] rfl rfl hw))⟩) ?_
   clear hr
   rintro cl1 a w2 ⟨l52, x53, l55, x57, v56, hc_l1, hi, ha, hw⟩
   obtain ⟨m58, o, hm_m58, ho, hr⟩ := iter_some hi
   refine CP.app ha hw ?_
   clear ha hw a w2 hi
   refine go ?_
   refine CP.seq ?_
   refine CP.ci ho (fun ho => ?_) fun ho => ?_
   ·refine go ?_
    refine CP.join (fun a w2 => ∃ l80 : List Int, ∃ x81 : Int, ∃ l83 : List flow_Loop, ∃ v84 : Value, ∃ (m85 : Nat) (o : (flow_Loops.S ⊕ ((List flow_Loop) × Int))), m85 ≤ m58 ∧ flow_Loops.j2 l_0 x57 l80 x81 l83 = some o ∧ next (flow_Loops.F l_0) m85 o = some r ∧ Env ⟨76, []⟩ [(0, v_l_0), (4, v84), (5, .pointer (some ⟨b9, 0, none⟩)), (20, v_l_0), (21, .int .i64 (l_0.length : Int)), (22, .int .i64 x57)] a ∧ St w em hV [slP k_api_Instr v_l_0 l_0, arrP k_arr245 0 tab0] [slO k_flow_Loop 111 v84 l83, arrO b9 [] (fun z : Int => Value.int .i64 z) 4 l80 [.int .i64 x81] 109] w2) ?_ ?_
    ·rintro a w2 ⟨l80, x81, l83, v84, m85, o, hm_m85, ho, hr, ha, hw⟩
     refine CP.app ha hw ?_
     clear ha hw a w2
     refine go ?_
     obtain rfl := Option.some.inj ho
     exact QE.lower m85 (by omega) fun a w2 ha hw => ⟨l80, x81, l83, (IntKind.i64.wrap (x57 + 1)), v84, (by omega), hr, ha.sub sb, hw⟩
    refine go ?_
    obtain ⟨x61, hx, ho⟩ := elt_bind ho
    refine SP.indexP see 0 rfl Tryz.underlying32 sz43 hx.1 hx.2 rfl rfl rfl rfl (fun p59 => ?_)
    clear hx
    refine k_api_Instr.load see 0 rfl Tryz.underlying43 rfl sz43 rfl rfl rfl ?_
    refine SP.alloc (cs := [.int .u8 0, .int .i64 0, .int .i64 0]) inf43 rfl rfl (fun b62 => go ?_)
    refine SP.store (v := .agg #[.int .u8 x61.Op, .int .i64 x61.A, .int .i64 x61.B]) (vs := [.int .u8 x61.Op, .int .i64 x61.A, .int .i64 x61.B]) 0 (by rfl) sz43 (by rfl) (by rfl) (by rfl) (by rfl) (by rfl) (by rfl) (go ?_)
    refine CP.ci ho (fun ho => ?_) fun ho => ?_
    ·refine go ?_
     refine SP.imp (fun w2 hw => St.selO [2, 0, 1] rfl rfl hw) ?_
     obtain ⟨t64, hc, ho⟩ := bind_some ho
     refine SP.callA see (caps := []) _ fn69 rfl rfl rfl rfl (fun w2 hP h1 sub s1 d1 ap hI => flow_open_push_s2.ok _ _ _  _ hc w2 hP sub  _ h1 s1 d1 hI) (SP.k0 ?_)
     clear hc
     refine go ?_
     refine CP.cb ho (fun ho => ?_) fun ho => ?_
     ·refine CP.goto ?_
      refine QE.blockG ?_
      refine QE.blockG (go ?_)
      refine QE.blockG (go ?_)
      exact QE.jump fun a w2 ha hw => ⟨m58, _, (by omega), ho, hr, ha.sub trivial, (St.selP [2] rfl (St.selO [] rfl rfl hw))⟩
     refine go ?_
     exact QE.meet fun a w2 ha hw => ⟨t64.2.1, t64.2.2, l55, v56, m58, _, (by omega), ho, hr, ha.sub sb, (St.selP [1, 2] rfl (St.selO [2, 0] rfl rfl hw))⟩
    refine go ?_
    refine CP.ci ho (fun ho => ?_) fun ho => ?_
    ·refine CP.seq (go ?_)
     refine SP.imp (fun w2 hw => St.selO [2, 0, 1] rfl rfl hw) ?_
     obtain ⟨t65, hc, ho⟩ := bind_some ho
     refine SP.callA see (caps := []) _ fn70 rfl rfl rfl rfl (fun w2 hP h1 sub s1 d1 ap hI => flow_open_pop_s2.ok _ _ _  _ hc w2 hP sub  _ h1 s1 d1 hI) (SP.k0 ?_)
     clear hc
     refine go ?_
     refine CP.cb ho (fun ho => ?_) fun ho => ?_
     ·refine CP.goto (go ?_)
      refine QE.blockG ?_
      refine QE.blockG (go ?_)
      refine QE.blockG (go ?_)
      exact QE.jump fun a w2 ha hw => ⟨m58, _, (by omega), ho, hr, ha.sub trivial, (St.selP [2] rfl (St.selO [] rfl rfl hw))⟩
     refine go ?_
     refine CP.drawA (by kernel_rfl) (fun w2 k h => h.drawn k) ?_
     obtain ⟨x68, hx, ho⟩ := elt_bind ho
     refine DA.ghost (fun w2 h => h.elem see 1 rfl hx.1 hx.2) (fun p66 h_p66 => ?_)
     clear hx
     refine DA.ghost (fun w2 h => h.fieldE see 0 rfl k_api_Instr.part_A) (fun p69 h_p69 => ?_)
     refine DA.ghost (fun w2 h => h.openE see 0 rfl (fun _ : Unit => [.int .i64 x68.A]) (fun _ => []) (fun h cs e => ⟨(), e, All.nil _⟩)) (fun _ _ => ?_)
     refine DA.ph 0 12 ?_
     refine DT.tk 0 ?_
     refine DT.tk 1 ?_
     refine DT.tk 2 ?_
     refine DT.tk 3 ?_
     refine DT.tk 4 ?_
     refine DT.tk 5 ?_
     refine DT.tk 6 ?_
     refine DT.tv 7 rfl (Val.indexE h_p66 Tryz.underlying32 sz43 rfl rfl) ?_
     refine DT.tv 8 rfl (Val.fieldE h_p69 Tryz.underlying43 rfl rfl sz3 rfl) ?_
     refine DT.tv 9 rfl (Val.loadAt1 see 0 rfl Tryz.underlying3 rfl rfl) ?_
     refine DT.tv 10 rfl (Val.buildC (us := [(0, .int .i64 x61.A), (1, .int .i64 x57), (2, .int .i64 x68.A)]) (ucs := [(0, [.int .i64 x61.A]), (1, [.int .i64 x57]), (2, [.int .i64 x68.A])]) (cs := [.int .i64 x61.A, .int .i64 x57, .int .i64 x68.A]) bt111 rfl rfl ⟨rfl, rfl, ⟨rfl, rfl, ⟨rfl, rfl, trivial⟩⟩⟩ (by rfl)) ?_
     refine DT.one 11 rfl (by kernel_rfl) rfl ?_
     refine SP.lit (k := k_flow_Loop) (xs := [(⟨x61.A, x57, x68.A⟩ : flow_Loop)]) (vs := [.agg #[.int .i64 x61.A, .int .i64 x57, .int .i64 x68.A]]) (cells := [.int .i64 x61.A, .int .i64 x57, .int .i64 x68.A]) Tryz.underlying64 inf111 rfl rfl rfl rfl rfl rfl rfl rfl (fun _ ap => ⟨[.int .i64 x61.A, .int .i64 x57, .int .i64 x68.A], _, rfl, rfl, rfl⟩) rfl rfl rfl (fun v76 => go ?_)
     refine QE.atT (fun w2 hw => (St.selO [1, 2, 3] rfl rfl hw)) ?_
     refine DT.next (by kernel_rfl) ?_
     refine DA.one 12 rfl (by kernel_rfl) ?_
     refine SP.freezeS see 0 rfl ?_
     obtain ⟨hb, ho⟩ := must_some ho
     refine SP.append see 2 rfl 0 rfl Tryz.underlying64 inf111 rfl rfl hb rfl rfl rfl rfl rfl (fun v78 => ?_)
     clear hb
     refine go ?_
     refine QE.atA ?_
     refine DA.one 13 rfl (by kernel_rfl) (go ?_)
     refine QE.atA ?_
     refine DA.done (by kernel_rfl) (go ?_)
     exact QE.meet fun a w2 ha hw => ⟨t65.2.1, t65.2.2, (l55 ++ [(⟨x61.A, x57, x68.A⟩ : flow_Loop)]), v78, m58, _, (by omega), ho, hr, ha.sub sb, (St.selP [5, 6] rfl (St.selO [2, 0] rfl rfl hw))⟩
    refine go ?_
    exact QE.meet fun a w2 ha hw => ⟨l52, x53, l55, v56, m58, _, (by omega), ho, hr, ha.sub sb, (St.selP [1, 2] rfl (St.selO [1, 2] rfl rfl hw))⟩
   refine go ?_
   refine CP.seq (go ?_)
   refine SP.val (Val.loadArrPost (k := 0) 1 rfl Tryz.underlying3 rfl rfl rfl rfl) rfl rfl rfl (go ?_)
   obtain ⟨t92, hg_t92, ho⟩ := bind_some ho
   refine SP.jn 9 [0, 4] 66 (.bool t92) ?_ ?_
   ·clear hg_t92
    refine go ?_
    obtain ⟨t96, hg_t96, ho⟩ := bind_some ho
    refine SP.jn 5 [4] 72 (.bool t96) ?_ ?_
    ·clear hg_t96
     refine go ?_
     refine CP.cb ho (fun ho => ?_) fun ho => ?_
     ·refine CP.goto (go ?_)
      exact QE.jump fun a w2 ha hw => ⟨m58, _, (by omega), ho, hr, ha.sub trivial, (St.selP [1] rfl (St.selO [] rfl rfl hw))⟩
     refine go ?_
     obtain ⟨hb, ho⟩ := must_some ho
     refine SP.callA see (caps := []) (fun r => HO.pand (r = .tuple #[]) (HO.seps [slO k_flow_Loop 111 v56 ((srt73 l55.toArray).toList)])) fn73 rfl rfl rfl rfl (fun w2 hP h1 sub s1 d1 ap hI => srt73_trip hb sub s1 d1 hI) (SP.k0 ?_)
     clear hb
     refine go ?_
     refine CP.seq (go ?_)
     refine QE.scopeX rfl ?_
     obtain rfl := fin ho hr
     exact QE.rt (fun _ h => St.selO [0] rfl rfl h)
    refine SP.cb 67 hg_t96 (fun hq94 ho => ?_) fun hq94 ho => ?_
    ·refine go ?_
     obtain rfl := Option.some.inj ho
     exact QE.jn fun w2 hw => hw
    refine go ?_
    obtain ⟨t95, hc, ho⟩ := bind_some ho
    refine SP.callVO see (caps := []) (.bool t95) fn72 rfl rfl rfl rfl (fun w2 hs => flow_jumps.ok _ _ _ _ _ hc w2 (hp w2) (Sub.refl _) ((St.pers 0 rfl see.sub see.dj hs)) (slO.read (St.own 0 rfl see.sub see.dj hs) (Sub.refl _) (Sub.refl _))) ?_
    clear hc
    refine go ?_
    obtain rfl := Option.some.inj ho
    exact QE.jn fun w2 hw => hw
   refine SP.ci 57 hg_t92 (fun hq87 ho => ?_) fun hq87 ho => ?_
   ·refine go ?_
    obtain rfl := Option.some.inj ho
    exact QE.jn fun w2 hw => hw
   refine go ?_
   obtain ⟨x90, hx, ho⟩ := elt_bind ho
   refine SP.indexP see 0 rfl Tryz.underlying32 sz43 hx.1 hx.2 rfl rfl rfl rfl (fun p88 => ?_)
   clear hx
   refine k_api_Instr.load see 0 rfl Tryz.underlying43 rfl sz43 rfl rfl rfl ?_
   obtain ⟨t91, hc, ho⟩ := bind_some ho
   refine SP.callV see (caps := []) (.bool t91) fn71 rfl rfl rfl rfl (fun w2 hP hs sub ap => flow_last.ok _  _ hc w2 hP sub ) ?_
   clear hc
   refine go ?_
   obtain rfl := Option.some.inj ho
   exact QE.jn fun w2 hw => (St.selP [1, 2] rfl hw)
  refine SP.cb 16 hg_t7 (fun hq5 ho => ?_) fun hq5 ho => ?_
  ·refine go ?_
   obtain rfl := Option.some.inj ho
   exact QE.jn fun w2 hw => hw
  refine go ?_
  obtain ⟨t6, hc, ho⟩ := bind_some ho
  refine SP.callV see (caps := []) (.bool t6) fn66 rfl rfl rfl rfl (fun w2 hP hs sub ap => slices_ContainsFunc_api_Instr_api_Instr_s2.ok _ _ _ hc w2 hP sub (ap.get 0 rfl) (ap.get 1 rfl)) ?_
  clear hc
  refine go ?_
  obtain rfl := Option.some.inj ho
  exact QE.jn fun w2 hw => hw
 refine SP.bb 11 (fun hq3 => ?_) fun hq3 => ?_
 ·refine go ?_
  exact QE.jb (or_t hq3) fun w2 hw => hw
 refine go ?_
 exact QE.jb (or_f hq3 rfl) fun w2 hw => hw
def flow_Check.f (l_0 : (List api_Instr)) : Option Int :=
  (flow_Loops.f l_0).bind fun t2 => some t2.2
theorem flow_Check.ok (l_0 : (List api_Instr)) (v_l_0 : Value)  (r : Int) (H : flow_Check.f l_0 = some r) (w : World) (hV : Hp) (sV : Sub hV (hp w)) (h0 : slR k_api_Instr hV v_l_0 l_0) (h1 : (arrP k_arr245 0 tab0).p hV) :
    Trip Tryz.prog 12 [v_l_0].toArray em hV w (fun v => HO.pure (v = .int .i64 r)) := by
 refine Trip.go 11 Tryz.func12 sV (aS h0 (All.cons (x := arrP k_arr245 0 tab0) h1 (All.nil _))) fun see => ?_
 have ho := H
 refine go ?_
 obtain ⟨t2, hc, ho⟩ := bind_some ho
 refine SP.callK see (caps := []) _ fn34 rfl rfl rfl rfl (fun w2 hP hs sub ap => flow_Loops.ok _ _ _ hc w2 hP sub (ap.get 0 rfl) (ap.get 1 rfl)) (SP.k1 fun v3 => ?_)
 clear hc
 refine go ?_
 obtain rfl := Option.some.inj ho
 exact QE.rt (fun _ h => h)
def types_look_there_s1.j1 (k_0_1 : List api_Value) (k_0_3 : List api_Value) (k_0_5 : List api_Method) (k_0_7 : Int) (k_0_8 : List Int) (k_0_10 : List Int) (k_0_12 : Int) (k_0_13 : Bool) (k_0_14 : Int) (k_0_15 : Int) (k_0_16 : Int) (k_0_17 : List api_Instr) (k_0_19 : List Int) (i_1 : api_Instr) (x27 : Int) : Option Bool :=
  some (decide (i_1.A < x27))
def types_look_there_s1.j3 (k_0_1 : List api_Value) (k_0_3 : List api_Value) (k_0_5 : List api_Method) (k_0_7 : Int) (k_0_8 : List Int) (k_0_10 : List Int) (k_0_12 : Int) (k_0_13 : Bool) (k_0_14 : Int) (k_0_15 : Int) (k_0_16 : Int) (k_0_17 : List api_Instr) (k_0_19 : List Int) (i_1 : api_Instr) (b26 : Bool) : Option Bool :=
  if b26 = true then (types_look_there_s1.j1 k_0_1 k_0_3 k_0_5 k_0_7 k_0_8 k_0_10 k_0_12 k_0_13 k_0_14 k_0_15 k_0_16 k_0_17 k_0_19 i_1 (k_0_1.length : Int)) else (if i_1.Op = 30 then (types_look_there_s1.j1 k_0_1 k_0_3 k_0_5 k_0_7 k_0_8 k_0_10 k_0_12 k_0_13 k_0_14 k_0_15 k_0_16 k_0_17 k_0_19 i_1 (k_0_5.length : Int)) else (some true))
def types_look_there_s1.j2 (k_0_1 : List api_Value) (k_0_3 : List api_Value) (k_0_5 : List api_Method) (k_0_7 : Int) (k_0_8 : List Int) (k_0_10 : List Int) (k_0_12 : Int) (k_0_13 : Bool) (k_0_14 : Int) (k_0_15 : Int) (k_0_16 : Int) (k_0_17 : List api_Instr) (k_0_19 : List Int) (i_1 : api_Instr) (b25 : Bool) : Option Bool :=
  if b25 = true then (types_look_there_s1.j1 k_0_1 k_0_3 k_0_5 k_0_7 k_0_8 k_0_10 k_0_12 k_0_13 k_0_14 k_0_15 k_0_16 k_0_17 k_0_19 i_1 (k_0_19.length : Int)) else (if i_1.Op = 4 then (types_look_there_s1.j3 k_0_1 k_0_3 k_0_5 k_0_7 k_0_8 k_0_10 k_0_12 k_0_13 k_0_14 k_0_15 k_0_16 k_0_17 k_0_19 i_1 (decide (i_1.Op = 4))) else (types_look_there_s1.j3 k_0_1 k_0_3 k_0_5 k_0_7 k_0_8 k_0_10 k_0_12 k_0_13 k_0_14 k_0_15 k_0_16 k_0_17 k_0_19 i_1 (decide (i_1.Op = 5))))
def types_look_there_s1.f (k_0_1 : List api_Value) (k_0_3 : List api_Value) (k_0_5 : List api_Method) (k_0_7 : Int) (k_0_8 : List Int) (k_0_10 : List Int) (k_0_12 : Int) (k_0_13 : Bool) (k_0_14 : Int) (k_0_15 : Int) (k_0_16 : Int) (k_0_17 : List api_Instr) (k_0_19 : List Int) (i_1 : api_Instr) : Option Bool :=
  if i_1.Op = 1 then (types_look_there_s1.j1 k_0_1 k_0_3 k_0_5 k_0_7 k_0_8 k_0_10 k_0_12 k_0_13 k_0_14 k_0_15 k_0_16 k_0_17 k_0_19 i_1 (k_0_3.length : Int)) else (if i_1.Op = 2 then (types_look_there_s1.j2 k_0_1 k_0_3 k_0_5 k_0_7 k_0_8 k_0_10 k_0_12 k_0_13 k_0_14 k_0_15 k_0_16 k_0_17 k_0_19 i_1 (decide (i_1.Op = 2))) else (types_look_there_s1.j2 k_0_1 k_0_3 k_0_5 k_0_7 k_0_8 k_0_10 k_0_12 k_0_13 k_0_14 k_0_15 k_0_16 k_0_17 k_0_19 i_1 (decide (i_1.Op = 3))))
theorem types_look_there_s1.ok (k_0_1 : List api_Value) (k_0_3 : List api_Value) (k_0_5 : List api_Method) (k_0_7 : Int) (k_0_8 : List Int) (k_0_10 : List Int) (k_0_12 : Int) (k_0_13 : Bool) (k_0_14 k_0_15 k_0_16 : Int) (k_0_17 : List api_Instr) (k_0_19 : List Int) (i_1 : api_Instr) (v_k_0_1 v_k_0_3 : Value) (v_k_0_5 v_k_0_8 : Value) (v_k_0_10 v_k_0_17 v_k_0_19 : Value) (b21 : Nat) (r : Bool) (H : types_look_there_s1.f k_0_1 k_0_3 k_0_5 k_0_7 k_0_8 k_0_10 k_0_12 k_0_13 k_0_14 k_0_15 k_0_16 k_0_17 k_0_19 i_1 = some r) (w : World) (hV : Hp) (sV : Sub hV (hp w)) (h0 : slR k_api_Value hV v_k_0_1 k_0_1) (h1 : slR k_api_Value hV v_k_0_3 k_0_3) (h2 : slR k_api_Method hV v_k_0_5 k_0_5) (h3 : slR (kInt .u8) hV v_k_0_8 k_0_8) (h4 : slR (kInt .u8) hV v_k_0_10 k_0_10) (h5 : slR k_api_Instr hV v_k_0_17 k_0_17) (h6 : slR (kInt .u8) hV v_k_0_19 k_0_19) (h7 : (preP b21 [v_k_0_1, v_k_0_3, v_k_0_5, .int .i64 k_0_7, v_k_0_8, v_k_0_10, .int .u8 k_0_12, .bool k_0_13, .int .i64 k_0_14, .int .i64 k_0_15, .int .i64 k_0_16, v_k_0_17, v_k_0_19] 122).p hV) :
    Trip Tryz.prog 78 [.pointer (some ⟨b21, 0, none⟩), .agg #[.int .u8 i_1.Op, .int .i64 i_1.A, .int .i64 i_1.B]].toArray em hV w (fun v => HO.pure (v = .bool r)) := by
 refine Trip.go 45 Tryz.func78 sV (aS h0 (aS h1 (aS h2 (aS h3 (aS h4 (aS h5 (aS h6 (All.cons (x := preP b21 [v_k_0_1, v_k_0_3, v_k_0_5, .int .i64 k_0_7, v_k_0_8, v_k_0_10, .int .u8 k_0_12, .bool k_0_13, .int .i64 k_0_14, .int .i64 k_0_15, .int .i64 k_0_16, v_k_0_17, v_k_0_19] 122) h7 (All.nil _))))))))) fun see => ?_
 have ho := H
 refine go ?_
 refine SP.box rfl rfl rfl rfl fun b23 => go ?_
 refine CP.join (fun a w2 => ∃ x27 : Int, types_look_there_s1.j1 k_0_1 k_0_3 k_0_5 k_0_7 k_0_8 k_0_10 k_0_12 k_0_13 k_0_14 k_0_15 k_0_16 k_0_17 k_0_19 i_1 x27 = some r ∧ Env ⟨45, []⟩ [(3, .pointer (some ⟨b23, 0, none⟩)), (5, .int .i64 x27)] a ∧ St w em hV [] [boxO b23 [.int .u8 i_1.Op, .int .i64 i_1.A, .int .i64 i_1.B] 43] w2) ?_ ?_
 ·rintro a w2 ⟨x27, ho, ha, hw⟩
  refine CP.app ha hw ?_
  clear ha hw a w2
  refine go ?_
  obtain rfl := Option.some.inj ho
  exact QE.rt (fun _ h => h)
 refine go ?_
 refine CP.ci ho (fun ho => ?_) fun ho => ?_
 ·refine go ?_
  refine SP.val (Val.loadPre1 see 7 rfl Tryz.underlying22 rfl rfl rfl) rfl rfl rfl (go ?_)
  exact QE.meet fun a w2 ha hw => ⟨(k_0_3.length : Int), ho, ha.sub sb, (St.selP [] rfl hw)⟩
 refine CP.join (fun a w2 => ∃ b25 : Bool, types_look_there_s1.j2 k_0_1 k_0_3 k_0_5 k_0_7 k_0_8 k_0_10 k_0_12 k_0_13 k_0_14 k_0_15 k_0_16 k_0_17 k_0_19 i_1 b25 = some r ∧ Env ⟨45, []⟩ [(0, .pointer (some ⟨b21, 0, none⟩)), (3, .pointer (some ⟨b23, 0, none⟩)), (7, .int .u8 i_1.Op), (16, .bool b25)] a ∧ St w em hV [slP k_api_Value v_k_0_1 k_0_1, slP k_api_Value v_k_0_3 k_0_3, slP k_api_Method v_k_0_5 k_0_5, slP (kInt .u8) v_k_0_8 k_0_8, slP (kInt .u8) v_k_0_10 k_0_10, slP k_api_Instr v_k_0_17 k_0_17, slP (kInt .u8) v_k_0_19 k_0_19, preP b21 [v_k_0_1, v_k_0_3, v_k_0_5, .int .i64 k_0_7, v_k_0_8, v_k_0_10, .int .u8 k_0_12, .bool k_0_13, .int .i64 k_0_14, .int .i64 k_0_15, .int .i64 k_0_16, v_k_0_17, v_k_0_19] 122] [boxO b23 [.int .u8 i_1.Op, .int .i64 i_1.A, .int .i64 i_1.B] 43] w2) ?_ ?_
 ·rintro a w2 ⟨b25, ho, ha, hw⟩
  refine CP.app ha hw ?_
  clear ha hw a w2
  refine CP.cb ho (fun ho => ?_) fun ho => ?_
  ·refine go ?_
   refine SP.val (Val.loadPre1 see 7 rfl Tryz.underlying31 rfl rfl rfl) rfl rfl rfl (go ?_)
   exact QE.meet fun a w2 ha hw => ⟨(k_0_19.length : Int), ho, ha.sub sb, (St.selP [] rfl hw)⟩
  refine CP.join (fun a w2 => ∃ b26 : Bool, types_look_there_s1.j3 k_0_1 k_0_3 k_0_5 k_0_7 k_0_8 k_0_10 k_0_12 k_0_13 k_0_14 k_0_15 k_0_16 k_0_17 k_0_19 i_1 b26 = some r ∧ Env ⟨45, []⟩ [(0, .pointer (some ⟨b21, 0, none⟩)), (3, .pointer (some ⟨b23, 0, none⟩)), (7, .int .u8 i_1.Op), (24, .bool b26)] a ∧ St w em hV [slP k_api_Value v_k_0_1 k_0_1, slP k_api_Value v_k_0_3 k_0_3, slP k_api_Method v_k_0_5 k_0_5, slP (kInt .u8) v_k_0_8 k_0_8, slP (kInt .u8) v_k_0_10 k_0_10, slP k_api_Instr v_k_0_17 k_0_17, slP (kInt .u8) v_k_0_19 k_0_19, preP b21 [v_k_0_1, v_k_0_3, v_k_0_5, .int .i64 k_0_7, v_k_0_8, v_k_0_10, .int .u8 k_0_12, .bool k_0_13, .int .i64 k_0_14, .int .i64 k_0_15, .int .i64 k_0_16, v_k_0_17, v_k_0_19] 122] [boxO b23 [.int .u8 i_1.Op, .int .i64 i_1.A, .int .i64 i_1.B] 43] w2) ?_ ?_
  ·rintro a w2 ⟨b26, ho, ha, hw⟩
   refine CP.app ha hw ?_
   clear ha hw a w2
   refine CP.cb ho (fun ho => ?_) fun ho => ?_
   ·refine go ?_
    refine SP.val (Val.loadPre1 see 7 rfl Tryz.underlying22 rfl rfl rfl) rfl rfl rfl (go ?_)
    exact QE.meet fun a w2 ha hw => ⟨(k_0_1.length : Int), ho, ha.sub sb, (St.selP [] rfl hw)⟩
   refine go ?_
   refine CP.ci ho (fun ho => ?_) fun ho => ?_
   ·refine go ?_
    refine SP.val (Val.loadPre1 see 7 rfl Tryz.underlying23 rfl rfl rfl) rfl rfl rfl (go ?_)
    exact QE.meet fun a w2 ha hw => ⟨(k_0_5.length : Int), ho, ha.sub sb, (St.selP [] rfl hw)⟩
   refine go ?_
   obtain rfl := Option.some.inj ho
   exact QE.rt (fun _ h => h)
  refine go ?_
  refine CP.ci ho (fun ho => ?_) fun ho => ?_
  ·refine go ?_
   exact QE.meet fun a w2 ha hw => ⟨(decide (i_1.Op = 4)), ho, ha.sub sb, hw⟩
  refine go ?_
  exact QE.meet fun a w2 ha hw => ⟨(decide (i_1.Op = 5)), ho, ha.sub sb, hw⟩
 refine go ?_
 refine CP.ci ho (fun ho => ?_) fun ho => ?_
 ·refine go ?_
  exact QE.meet fun a w2 ha hw => ⟨(decide (i_1.Op = 2)), ho, ha.sub sb, hw⟩
 refine go ?_
 exact QE.meet fun a w2 ha hw => ⟨(decide (i_1.Op = 3)), ho, ha.sub sb, hw⟩
def types_Rows_1_s1.f (i_0 : api_Instr) (c0_1 : List api_Value) (c0_3 : List api_Value) (c0_5 : List api_Method) (c0_7 : Int) (c0_8 : List Int) (c0_10 : List Int) (c0_12 : Int) (c0_13 : Bool) (c0_14 : Int) (c0_15 : Int) (c0_16 : Int) (c0_17 : List api_Instr) (c0_19 : List Int) : Option Bool :=
  (types_look_there_s1.f c0_1 c0_3 c0_5 c0_7 c0_8 c0_10 c0_12 c0_13 c0_14 c0_15 c0_16 c0_17 c0_19 i_0).bind fun t27 => some (!t27)
theorem types_Rows_1_s1.ok (i_0 : api_Instr) (c0_1 : List api_Value) (c0_3 : List api_Value) (c0_5 : List api_Method) (c0_7 : Int) (c0_8 : List Int) (c0_10 : List Int) (c0_12 : Int) (c0_13 : Bool) (c0_14 c0_15 c0_16 : Int) (c0_17 : List api_Instr) (c0_19 : List Int) (v_c0_1 v_c0_3 : Value) (v_c0_5 v_c0_8 : Value) (v_c0_10 v_c0_17 v_c0_19 : Value) (b21 : Nat) (b23 : Nat) (r : Bool) (H : types_Rows_1_s1.f i_0 c0_1 c0_3 c0_5 c0_7 c0_8 c0_10 c0_12 c0_13 c0_14 c0_15 c0_16 c0_17 c0_19 = some r) (w : World) (hV : Hp) (sV : Sub hV (hp w)) (h0 : slR k_api_Value hV v_c0_1 c0_1) (h1 : slR k_api_Value hV v_c0_3 c0_3) (h2 : slR k_api_Method hV v_c0_5 c0_5) (h3 : slR (kInt .u8) hV v_c0_8 c0_8) (h4 : slR (kInt .u8) hV v_c0_10 c0_10) (h5 : slR k_api_Instr hV v_c0_17 c0_17) (h6 : slR (kInt .u8) hV v_c0_19 c0_19) (h7 : (preP b21 [v_c0_1, v_c0_3, v_c0_5, .int .i64 c0_7, v_c0_8, v_c0_10, .int .u8 c0_12, .bool c0_13, .int .i64 c0_14, .int .i64 c0_15, .int .i64 c0_16, v_c0_17, v_c0_19] 122).p hV) (h8 : (boxP b23 [.pointer (some ⟨b21, 0, none⟩)] 116).p hV) :
    Trip Tryz.prog 77 [.agg #[.int .u8 i_0.Op, .int .i64 i_0.A, .int .i64 i_0.B], .pointer (some ⟨b23, 0, none⟩)].toArray em hV w (fun v => HO.pure (v = .bool r)) := by
 refine Trip.go 8 Tryz.func77 sV (aS h0 (aS h1 (aS h2 (aS h3 (aS h4 (aS h5 (aS h6 (All.cons (x := preP b21 [v_c0_1, v_c0_3, v_c0_5, .int .i64 c0_7, v_c0_8, v_c0_10, .int .u8 c0_12, .bool c0_13, .int .i64 c0_14, .int .i64 c0_15, .int .i64 c0_16, v_c0_17, v_c0_19] 122) h7 (All.cons (x := boxP b23 [.pointer (some ⟨b21, 0, none⟩)] 116) h8 (All.nil _)))))))))) fun see => ?_
 have ho := H
 refine go ?_
 refine SP.box rfl rfl rfl rfl fun b25 => ?_
 refine SP.val (Val.assign rfl) rfl rfl rfl ?_
 refine SP.nil ?_
 refine QE.then ?_
 refine CP.seq ?_
 refine CP.region ?_
 refine SP.val (Val.loadB1 see 8 rfl Tryz.underlying116 rfl rfl rfl) rfl rfl rfl ?_
 refine SP.val (Val.loadA 0 rfl Tryz.underlying43 rfl sz43 rfl rfl rfl) rfl rfl rfl ?_
 obtain ⟨t27, hc, ho⟩ := bind_some ho
 refine SP.callV see (caps := []) (.bool t27) fn78 rfl rfl rfl rfl (fun w2 hP hs sub ap => types_look_there_s1.ok _ _ _ _ _ _ _ _ _ _ _ _ _ _ _ _ _ _ _ _ _ _ _ hc w2 hP sub (ap.get 0 rfl) (ap.get 1 rfl) (ap.get 2 rfl) (ap.get 3 rfl) (ap.get 4 rfl) (ap.get 5 rfl) (ap.get 6 rfl) (ap.get 7 rfl)) ?_
 clear hc
 refine go ?_
 obtain rfl := Option.some.inj ho
 exact QE.rt (fun _ h => h)
inductive slices_IndexFunc_api_Instr_api_Instr_s3.S where
  | start
  | l1 (x31 : Int)
def slices_IndexFunc_api_Instr_api_Instr_s3.F (s_0 : (List api_Instr)) (f_1_2 : List api_Value) (f_1_4 : List api_Value) (f_1_6 : List api_Method) (f_1_8 : Int) (f_1_9 : List Int) (f_1_11 : List Int) (f_1_13 : Int) (f_1_14 : Bool) (f_1_15 : Int) (f_1_16 : Int) (f_1_17 : Int) (f_1_18 : List api_Instr) (f_1_20 : List Int) : slices_IndexFunc_api_Instr_api_Instr_s3.S → Option (slices_IndexFunc_api_Instr_api_Instr_s3.S ⊕ Int)
  | .start => some (.inl (.l1 0))
  | .l1 x31 => if x31 < (s_0.length : Int) then ((elt s_0 x31).bind fun x35 => (types_Rows_1_s1.f x35 f_1_2 f_1_4 f_1_6 f_1_8 f_1_9 f_1_11 f_1_13 f_1_14 f_1_15 f_1_16 f_1_17 f_1_18 f_1_20).bind fun t36 => if t36 = true then (some (.inr x31)) else (some (.inl (.l1 (IntKind.i64.wrap (x31 + 1)))))) else (some (.inr (-1)))
def slices_IndexFunc_api_Instr_api_Instr_s3.f (s_0 : (List api_Instr)) (f_1_2 : List api_Value) (f_1_4 : List api_Value) (f_1_6 : List api_Method) (f_1_8 : Int) (f_1_9 : List Int) (f_1_11 : List Int) (f_1_13 : Int) (f_1_14 : Bool) (f_1_15 : Int) (f_1_16 : Int) (f_1_17 : Int) (f_1_18 : List api_Instr) (f_1_20 : List Int) : Option Int := runF (slices_IndexFunc_api_Instr_api_Instr_s3.F s_0 f_1_2 f_1_4 f_1_6 f_1_8 f_1_9 f_1_11 f_1_13 f_1_14 f_1_15 f_1_16 f_1_17 f_1_18 f_1_20) .start
theorem slices_IndexFunc_api_Instr_api_Instr_s3.ok (s_0 : (List api_Instr)) (f_1_2 : List api_Value) (f_1_4 : List api_Value) (f_1_6 : List api_Method) (f_1_8 : Int) (f_1_9 : List Int) (f_1_11 : List Int) (f_1_13 : Int) (f_1_14 : Bool) (f_1_15 f_1_16 f_1_17 : Int) (f_1_18 : List api_Instr) (f_1_20 : List Int) (v_s_0 v_f_1_2 : Value) (v_f_1_4 v_f_1_6 : Value) (v_f_1_9 v_f_1_11 : Value) (v_f_1_18 v_f_1_20 : Value) (b22 : Nat) (b24 : Nat) (r : Int) (H : slices_IndexFunc_api_Instr_api_Instr_s3.f s_0 f_1_2 f_1_4 f_1_6 f_1_8 f_1_9 f_1_11 f_1_13 f_1_14 f_1_15 f_1_16 f_1_17 f_1_18 f_1_20 = some r) (w : World) (hV : Hp) (sV : Sub hV (hp w)) (h0 : slR k_api_Instr hV v_s_0 s_0) (h1 : slR k_api_Value hV v_f_1_2 f_1_2) (h2 : slR k_api_Value hV v_f_1_4 f_1_4) (h3 : slR k_api_Method hV v_f_1_6 f_1_6) (h4 : slR (kInt .u8) hV v_f_1_9 f_1_9) (h5 : slR (kInt .u8) hV v_f_1_11 f_1_11) (h6 : slR k_api_Instr hV v_f_1_18 f_1_18) (h7 : slR (kInt .u8) hV v_f_1_20 f_1_20) (h8 : (preP b22 [v_f_1_2, v_f_1_4, v_f_1_6, .int .i64 f_1_8, v_f_1_9, v_f_1_11, .int .u8 f_1_13, .bool f_1_14, .int .i64 f_1_15, .int .i64 f_1_16, .int .i64 f_1_17, v_f_1_18, v_f_1_20] 122).p hV) (h9 : (boxP b24 [.pointer (some ⟨b22, 0, none⟩)] 116).p hV) :
    Trip Tryz.prog 128 [v_s_0, .func (.func 77) #[] #[.pointer (some ⟨b24, 0, none⟩)]].toArray em hV w (fun v => HO.pure (v = .int .i64 r)) := by
 refine Trip.go 19 Tryz.func128 sV (aS h0 (aS h1 (aS h2 (aS h3 (aS h4 (aS h5 (aS h6 (aS h7 (All.cons (x := preP b22 [v_f_1_2, v_f_1_4, v_f_1_6, .int .i64 f_1_8, v_f_1_9, v_f_1_11, .int .u8 f_1_13, .bool f_1_14, .int .i64 f_1_15, .int .i64 f_1_16, .int .i64 f_1_17, v_f_1_18, v_f_1_20] 122) h8 (All.cons (x := boxP b24 [.pointer (some ⟨b22, 0, none⟩)] 116) h9 (All.nil _))))))))))) fun see => ?_
 obtain ⟨n0, hi⟩ := runF_iff.1 H
 obtain ⟨m0, o, hm0, ho, hr⟩ := iter_some hi
 clear hi
 refine go ?_
 refine CP.seq (go ?_)
 obtain rfl := Option.some.inj ho
 refine CP.loop (fun cl1 a w2 => ∃ x31 : Int, cl1 ≤ m0 ∧ iter (slices_IndexFunc_api_Instr_api_Instr_s3.F s_0 f_1_2 f_1_4 f_1_6 f_1_8 f_1_9 f_1_11 f_1_13 f_1_14 f_1_15 f_1_16 f_1_17 f_1_18 f_1_20) cl1 (.l1 x31) = some r ∧ Env ⟨19, []⟩ [(0, v_s_0), (1, .func (.func 77) #[] #[.pointer (some ⟨b24, 0, none⟩)]), (7, .int .i64 (s_0.length : Int)), (8, .int .i64 x31)] a ∧ St w em hV [slP k_api_Instr v_s_0 s_0, slP k_api_Value v_f_1_2 f_1_2, slP k_api_Value v_f_1_4 f_1_4, slP k_api_Method v_f_1_6 f_1_6, slP (kInt .u8) v_f_1_9 f_1_9, slP (kInt .u8) v_f_1_11 f_1_11, slP k_api_Instr v_f_1_18 f_1_18, slP (kInt .u8) v_f_1_20 f_1_20, preP b22 [v_f_1_2, v_f_1_4, v_f_1_6, .int .i64 f_1_8, v_f_1_9, v_f_1_11, .int .u8 f_1_13, .bool f_1_14, .int .i64 f_1_15, .int .i64 f_1_16, .int .i64 f_1_17, v_f_1_18, v_f_1_20] 122, boxP b24 [.pointer (some ⟨b22, 0, none⟩)] 116] [] w2) m0 (fun a w2 ha hw => ⟨0, Nat.le_refl _, hr, ha.sub sb, hw⟩) ?_
 clear hr
 rintro cl1 a w2 ⟨x31, hc_l1, hi, ha, hw⟩
 obtain ⟨m32, o, hm_m32, ho, hr⟩ := iter_some hi
 refine CP.app ha hw ?_
 clear ha hw a w2 hi
 refine go ?_
 refine CP.seq ?_
 refine CP.ci ho (fun ho => ?_) fun ho => ?_
 ·refine go ?_
  refine CP.seq (go ?_)
  obtain ⟨x35, hx, ho⟩ := elt_bind ho
  refine SP.indexP see 0 rfl Tryz.underlying32 sz43 hx.1 hx.2 rfl rfl rfl rfl (fun p33 => ?_)
  clear hx
  refine k_api_Instr.load see 0 rfl Tryz.underlying43 rfl sz43 rfl rfl rfl ?_
  obtain ⟨t36, hc, ho⟩ := bind_some ho
  refine SP.callV see (caps := [.pointer (some ⟨b24, 0, none⟩)]) (.bool t36) fn77 rfl rfl rfl rfl (fun w2 hP hs sub ap => types_Rows_1_s1.ok _ _ _ _ _ _ _ _ _ _ _ _ _ _ _ _ _ _ _ _ _ _ _ _ hc w2 hP sub (ap.get 2 rfl) (ap.get 3 rfl) (ap.get 4 rfl) (ap.get 5 rfl) (ap.get 6 rfl) (ap.get 7 rfl) (ap.get 8 rfl) (ap.get 9 rfl) (ap.get 10 rfl)) ?_
  clear hc
  refine go ?_
  refine CP.cb ho (fun ho => ?_) fun ho => ?_
  ·refine go ?_
   obtain rfl := fin ho hr
   exact QE.rt (fun _ h => h)
  refine go ?_
  obtain rfl := Option.some.inj ho
  exact QE.lower m32 (by omega) fun a w2 ha hw => ⟨(IntKind.i64.wrap (x31 + 1)), (by omega), hr, ha.sub sb, (St.selP [1, 2, 3, 4, 5, 6, 7, 8, 9, 10] rfl hw)⟩
 refine go ?_
 obtain rfl := fin ho hr
 exact QE.rt (fun _ h => h)
def slices_ContainsFunc_api_Instr_api_Instr_s3.f (s_0 : (List api_Instr)) (f_1_2 : List api_Value) (f_1_4 : List api_Value) (f_1_6 : List api_Method) (f_1_8 : Int) (f_1_9 : List Int) (f_1_11 : List Int) (f_1_13 : Int) (f_1_14 : Bool) (f_1_15 : Int) (f_1_16 : Int) (f_1_17 : Int) (f_1_18 : List api_Instr) (f_1_20 : List Int) : Option Bool :=
  (slices_IndexFunc_api_Instr_api_Instr_s3.f s_0 f_1_2 f_1_4 f_1_6 f_1_8 f_1_9 f_1_11 f_1_13 f_1_14 f_1_15 f_1_16 f_1_17 f_1_18 f_1_20).bind fun t26 => some (decide (t26 ≥ 0))
theorem slices_ContainsFunc_api_Instr_api_Instr_s3.ok (s_0 : (List api_Instr)) (f_1_2 : List api_Value) (f_1_4 : List api_Value) (f_1_6 : List api_Method) (f_1_8 : Int) (f_1_9 : List Int) (f_1_11 : List Int) (f_1_13 : Int) (f_1_14 : Bool) (f_1_15 f_1_16 f_1_17 : Int) (f_1_18 : List api_Instr) (f_1_20 : List Int) (v_s_0 v_f_1_2 : Value) (v_f_1_4 v_f_1_6 : Value) (v_f_1_9 v_f_1_11 : Value) (v_f_1_18 v_f_1_20 : Value) (b22 : Nat) (b24 : Nat) (r : Bool) (H : slices_ContainsFunc_api_Instr_api_Instr_s3.f s_0 f_1_2 f_1_4 f_1_6 f_1_8 f_1_9 f_1_11 f_1_13 f_1_14 f_1_15 f_1_16 f_1_17 f_1_18 f_1_20 = some r) (w : World) (hV : Hp) (sV : Sub hV (hp w)) (h0 : slR k_api_Instr hV v_s_0 s_0) (h1 : slR k_api_Value hV v_f_1_2 f_1_2) (h2 : slR k_api_Value hV v_f_1_4 f_1_4) (h3 : slR k_api_Method hV v_f_1_6 f_1_6) (h4 : slR (kInt .u8) hV v_f_1_9 f_1_9) (h5 : slR (kInt .u8) hV v_f_1_11 f_1_11) (h6 : slR k_api_Instr hV v_f_1_18 f_1_18) (h7 : slR (kInt .u8) hV v_f_1_20 f_1_20) (h8 : (preP b22 [v_f_1_2, v_f_1_4, v_f_1_6, .int .i64 f_1_8, v_f_1_9, v_f_1_11, .int .u8 f_1_13, .bool f_1_14, .int .i64 f_1_15, .int .i64 f_1_16, .int .i64 f_1_17, v_f_1_18, v_f_1_20] 122).p hV) (h9 : (boxP b24 [.pointer (some ⟨b22, 0, none⟩)] 116).p hV) :
    Trip Tryz.prog 66 [v_s_0, .func (.func 77) #[] #[.pointer (some ⟨b24, 0, none⟩)]].toArray em hV w (fun v => HO.pure (v = .bool r)) := by
 refine Trip.go 9 Tryz.func66 sV (aS h0 (aS h1 (aS h2 (aS h3 (aS h4 (aS h5 (aS h6 (aS h7 (All.cons (x := preP b22 [v_f_1_2, v_f_1_4, v_f_1_6, .int .i64 f_1_8, v_f_1_9, v_f_1_11, .int .u8 f_1_13, .bool f_1_14, .int .i64 f_1_15, .int .i64 f_1_16, .int .i64 f_1_17, v_f_1_18, v_f_1_20] 122) h8 (All.cons (x := boxP b24 [.pointer (some ⟨b22, 0, none⟩)] 116) h9 (All.nil _))))))))))) fun see => ?_
 have ho := H
 refine go ?_
 obtain ⟨t26, hc, ho⟩ := bind_some ho
 refine SP.callV see (caps := []) (.int .i64 t26) fn128 rfl rfl rfl rfl (fun w2 hP hs sub ap => slices_IndexFunc_api_Instr_api_Instr_s3.ok _ _ _ _ _ _ _ _ _ _ _ _ _ _ _ _ _ _ _ _ _ _ _ _ _ hc w2 hP sub (ap.get 0 rfl) (ap.get 1 rfl) (ap.get 2 rfl) (ap.get 3 rfl) (ap.get 4 rfl) (ap.get 5 rfl) (ap.get 6 rfl) (ap.get 7 rfl) (ap.get 8 rfl) (ap.get 9 rfl)) ?_
 clear hc
 refine go ?_
 obtain rfl := Option.some.inj ho
 exact QE.rt (fun _ h => h)
def op_Shape_take_s2.f (s_0_2 : List Int) (s_0_5 : List Int) (kind_1 : Int) : Option ((List Int) × (List Int)) :=
  if (s_0_2.length + [kind_1].length) * 1 ≤ 140737488355328 then (some (s_0_2 ++ [kind_1], s_0_5)) else none
theorem op_Shape_take_s2.ok (s_0_2 : List Int) (s_0_5 : List Int) (kind_1 : Int) (v_s_0_2 v_s_0_5 : Value) (r : (List Int) × (List Int)) (H : op_Shape_take_s2.f s_0_2 s_0_5 kind_1 = some r) (w : World) (hV : Hp) (sV : Sub hV (hp w)) (h0 : anyP.p hV) (h1 : anyP.p hV) (b1 : Nat) (hA : Hp) (sA : Sub hA (hp w)) (dA : Dj hV hA) (hI : (HO.seps [boxO b1 [v_s_0_2, v_s_0_5] 255, slO (kInt .u8) 5 v_s_0_2 s_0_2, slO (kInt .u8) 5 v_s_0_5 s_0_5]).p hV hA) :
    Trip Tryz.prog 253 [.pointer (some ⟨b1, 0, none⟩), .int .u8 kind_1].toArray hA hV w (fun v => HO.pand (v = .tuple #[]) (HO.seps [HO.ex fun v12 : Value => HO.ex fun v13 : Value => HO.seps [boxO b1 [v12, v13] 255, slO (kInt .u8) 5 v12 r.1, slO (kInt .u8) 5 v13 r.2]])) := by
 have see : Sees w hA hV := ⟨sV, dA⟩
 refine Trip.of (P := Tryz.prog) (n := ⟨14, []⟩) Tryz.func253 rfl ⟨rfl, rfl⟩ rfl (St.beginA (os := [boxO b1 [v_s_0_2, v_s_0_5] 255, slO (kInt .u8) 5 v_s_0_2 s_0_2, slO (kInt .u8) 5 v_s_0_5 s_0_5]) sA (All.cons (x := anyP) h0 (All.cons (x := anyP) h1 (All.nil _))) hI) ?_
 have ho := H
 refine go ?_
 refine SP.lit (k := (kInt .u8)) (xs := [kind_1]) (vs := [.int .u8 kind_1]) (cells := [.int .u8 kind_1]) Tryz.underlying31 inf5 rfl rfl rfl rfl rfl rfl rfl rfl (fun _ ap => ⟨[.int .u8 kind_1], _, rfl, rfl, rfl⟩) rfl rfl rfl (fun v8 => ?_)
 refine SP.freezeS see 0 rfl ?_
 obtain ⟨hb, ho⟩ := must_some ho
 refine SP.append see 1 rfl 0 rfl Tryz.underlying31 inf5 rfl rfl hb rfl rfl rfl rfl rfl (fun v10 => ?_)
 clear hb
 refine go ?_
 refine SP.have (fun w2 hw => slO.shape (St.own 1 rfl see.sub see.dj hw)) (fun hs_v10 => ?_)
 refine SP.store (v := v10) (vs := [v10]) 0 (by rfl) sz31 (by rfl) (by rfl) (by rfl) (one_cells hs_v10) (one_cons hs_v10 (rfl)) (by rfl) (go ?_)
 obtain rfl := Option.some.inj ho
 exact QE.over (rs := []) (vs := []) Tryz.results253 rfl trivial (fun w2 h => St.done (fun a b p s => ⟨rfl, s⟩) (St.shut v10 (St.shut v_s_0_5 (St.group [boxO b1 [v10, v_s_0_5] 255, slO (kInt .u8) 5 v10 (s_0_2 ++ [kind_1]), slO (kInt .u8) 5 v_s_0_5 s_0_5] (St.selO [0, 1, 2] rfl rfl h)))))
def op_Shape_give_s2.f (s_0_2 : List Int) (s_0_5 : List Int) (kind_1 : Int) : Option ((List Int) × (List Int)) :=
  if (s_0_5.length + [kind_1].length) * 1 ≤ 140737488355328 then (some (s_0_2, s_0_5 ++ [kind_1])) else none
theorem op_Shape_give_s2.ok (s_0_2 : List Int) (s_0_5 : List Int) (kind_1 : Int) (v_s_0_2 v_s_0_5 : Value) (r : (List Int) × (List Int)) (H : op_Shape_give_s2.f s_0_2 s_0_5 kind_1 = some r) (w : World) (hV : Hp) (sV : Sub hV (hp w)) (h0 : anyP.p hV) (h1 : anyP.p hV) (b1 : Nat) (hA : Hp) (sA : Sub hA (hp w)) (dA : Dj hV hA) (hI : (HO.seps [boxO b1 [v_s_0_2, v_s_0_5] 255, slO (kInt .u8) 5 v_s_0_2 s_0_2, slO (kInt .u8) 5 v_s_0_5 s_0_5]).p hV hA) :
    Trip Tryz.prog 254 [.pointer (some ⟨b1, 0, none⟩), .int .u8 kind_1].toArray hA hV w (fun v => HO.pand (v = .tuple #[]) (HO.seps [HO.ex fun v12 : Value => HO.ex fun v13 : Value => HO.seps [boxO b1 [v12, v13] 255, slO (kInt .u8) 5 v12 r.1, slO (kInt .u8) 5 v13 r.2]])) := by
 have see : Sees w hA hV := ⟨sV, dA⟩
 refine Trip.of (P := Tryz.prog) (n := ⟨14, []⟩) Tryz.func254 rfl ⟨rfl, rfl⟩ rfl (St.beginA (os := [boxO b1 [v_s_0_2, v_s_0_5] 255, slO (kInt .u8) 5 v_s_0_2 s_0_2, slO (kInt .u8) 5 v_s_0_5 s_0_5]) sA (All.cons (x := anyP) h0 (All.cons (x := anyP) h1 (All.nil _))) hI) ?_
 have ho := H
 refine go ?_
 refine SP.lit (k := (kInt .u8)) (xs := [kind_1]) (vs := [.int .u8 kind_1]) (cells := [.int .u8 kind_1]) Tryz.underlying31 inf5 rfl rfl rfl rfl rfl rfl rfl rfl (fun _ ap => ⟨[.int .u8 kind_1], _, rfl, rfl, rfl⟩) rfl rfl rfl (fun v8 => ?_)
 refine SP.freezeS see 0 rfl ?_
 obtain ⟨hb, ho⟩ := must_some ho
 refine SP.append see 2 rfl 0 rfl Tryz.underlying31 inf5 rfl rfl hb rfl rfl rfl rfl rfl (fun v10 => ?_)
 clear hb
 refine go ?_
 refine SP.have (fun w2 hw => slO.shape (St.own 2 rfl see.sub see.dj hw)) (fun hs_v10 => ?_)
 refine SP.store (v := v10) (vs := [v10]) 0 (by rfl) sz31 (by rfl) (by rfl) (by rfl) (one_cells hs_v10) (one_cons hs_v10 (rfl)) (by rfl) (go ?_)
 obtain rfl := Option.some.inj ho
 exact QE.over (rs := []) (vs := []) Tryz.results254 rfl trivial (fun w2 h => St.done (fun a b p s => ⟨rfl, s⟩) (St.shut v_s_0_2 (St.shut v10 (St.group [boxO b1 [v_s_0_2, v10] 255, slO (kInt .u8) 5 v_s_0_2 s_0_2, slO (kInt .u8) 5 v10 (s_0_5 ++ [kind_1])] (St.selO [0, 1, 2] rfl rfl h)))))
def op_Of.j1 (op_0 : Int) (l112 : List Int) (l115 : List Int) : Option (op_Shape × Bool) :=
  some ((⟨l112, l115⟩ : op_Shape), true)
def op_Of.j2 (op_0 : Int) (l98 : List Int) (l101 : List Int) : Option (op_Shape × Bool) :=
  (op_Shape_take_s2.f l98 l101 2).bind fun t103 => (op_Shape_give_s2.f t103.1 t103.2 2).bind fun t106 => op_Of.j1 op_0 t106.1 t106.2
def op_Of.j3 (op_0 : Int) (l87 : List Int) (l90 : List Int) : Option (op_Shape × Bool) :=
  (op_Shape_take_s2.f l87 l90 1).bind fun t92 => op_Of.j1 op_0 t92.1 t92.2
def op_Of.j7 (op_0 : Int) (b51 : Bool) : Option (op_Shape × Bool) :=
  if b51 = true then ((op_Shape_take_s2.f ([] : List Int) ([] : List Int) 2).bind fun t52 => op_Of.j2 op_0 t52.1 t52.2) else (if op_0 = 21 then (op_Of.j2 op_0 [] []) else (if op_0 = 22 then ((op_Shape_take_s2.f ([] : List Int) ([] : List Int) 1).bind fun t57 => (op_Shape_give_s2.f t57.1 t57.2 3).bind fun t62 => op_Of.j1 op_0 t62.1 t62.2) else (if op_0 = 23 then ((op_Shape_take_s2.f ([] : List Int) ([] : List Int) 3).bind fun t65 => (op_Shape_take_s2.f t65.1 t65.2 1).bind fun t70 => (op_Shape_give_s2.f t70.1 t70.2 1).bind fun t73 => op_Of.j1 op_0 t73.1 t73.2) else (if op_0 = 25 then ((op_Shape_take_s2.f ([] : List Int) ([] : List Int) 3).bind fun t76 => (op_Shape_give_s2.f t76.1 t76.2 1).bind fun t81 => op_Of.j1 op_0 t81.1 t81.2) else (some ((⟨[], []⟩ : op_Shape), false))))))
def op_Of.j6 (op_0 : Int) (b42 : Bool) : Option (op_Shape × Bool) :=
  if b42 = true then ((op_Shape_give_s2.f ([] : List Int) ([] : List Int) 1).bind fun t43 => (op_Shape_take_s2.f t43.1 t43.2 2).bind fun t48 => op_Of.j1 op_0 t48.1 t48.2) else (if op_0 = 19 then (op_Of.j7 op_0 (decide (op_0 = 19))) else (op_Of.j7 op_0 (decide (op_0 = 20))))
def op_Of.j5 (op_0 : Int) (b19 : Bool) : Option (op_Shape × Bool) :=
  if b19 = true then ((op_Shape_give_s2.f ([] : List Int) ([] : List Int) 1).bind fun t20 => (op_Shape_take_s2.f t20.1 t20.2 1).bind fun t25 => (op_Shape_take_s2.f t25.1 t25.2 1).bind fun t28 => op_Of.j1 op_0 t28.1 t28.2) else (if op_0 = 16 then ((op_Shape_give_s2.f ([] : List Int) ([] : List Int) 2).bind fun t31 => (op_Shape_take_s2.f t31.1 t31.2 1).bind fun t36 => (op_Shape_take_s2.f t36.1 t36.2 1).bind fun t39 => op_Of.j1 op_0 t39.1 t39.2) else (if op_0 = 17 then (op_Of.j6 op_0 (decide (op_0 = 17))) else (op_Of.j6 op_0 (decide (op_0 = 18)))))
def op_Of.j4 (op_0 : Int) (b5 : Bool) : Option (op_Shape × Bool) :=
  if b5 = true then (op_Of.j1 op_0 [] []) else (if op_0 = 6 then ((op_Shape_take_s2.f ([] : List Int) ([] : List Int) 0).bind fun t6 => op_Of.j1 op_0 t6.1 t6.2) else (if op_0 = 24 then ((op_Shape_take_s2.f ([] : List Int) ([] : List Int) 3).bind fun t11 => (op_Shape_take_s2.f t11.1 t11.2 1).bind fun t16 => op_Of.j3 op_0 t16.1 t16.2) else (if op_0 = 27 then (op_Of.j3 op_0 [] []) else (if op_0 = 9 then (op_Of.j5 op_0 (decide (op_0 = 9))) else (if op_0 = 10 then (op_Of.j5 op_0 (decide (op_0 = 10))) else (if op_0 = 11 then (op_Of.j5 op_0 (decide (op_0 = 11))) else (if op_0 = 12 then (op_Of.j5 op_0 (decide (op_0 = 12))) else (if op_0 = 13 then (op_Of.j5 op_0 (decide (op_0 = 13))) else (if op_0 = 14 then (op_Of.j5 op_0 (decide (op_0 = 14))) else (op_Of.j5 op_0 (decide (op_0 = 15))))))))))))
def op_Of.f (op_0 : Int) : Option (op_Shape × Bool) :=
  if op_0 = 0 then (op_Of.j4 op_0 (decide (op_0 = 0))) else (if op_0 = 26 then (op_Of.j4 op_0 (decide (op_0 = 26))) else (if op_0 = 28 then (op_Of.j4 op_0 (decide (op_0 = 28))) else (if op_0 = 29 then (op_Of.j4 op_0 (decide (op_0 = 29))) else (op_Of.j4 op_0 (decide (op_0 = 32))))))
theorem op_Of.ok (op_0 : Int)  (r : op_Shape × Bool) (H : op_Of.f op_0 = some r) (w : World) (hV : Hp) (sV : Sub hV (hp w))  :
    Trip Tryz.prog 239 [.int .u8 op_0].toArray em hV w (fun v => HO.ex fun u0 : Value => HO.ex fun u1 : Value => HO.pand (v = .tuple #[.agg #[u0, u1], .bool r.2]) (HO.seps [slO (kInt .u8) 5 u0 r.1.Takes, slO (kInt .u8) 5 u1 r.1.Gives])) := by
 refine Trip.go 66 Tryz.func239 sV (All.nil _) fun see => ?_
 have ho := H
 refine go ?_
 refine SP.alloc (cs := [(.slice none 0 0), (.slice none 0 0)]) inf255 rfl rfl (fun b1 => go ?_)
 refine SP.alloc (cs := [(.slice none 0 0), (.slice none 0 0)]) inf255 rfl rfl (fun b3 => go ?_)
 refine CP.join (fun a w2 => ∃ l112 : List Int, ∃ l115 : List Int, ∃ v113 : Value, ∃ v116 : Value, op_Of.j1 op_0 l112 l115 = some r ∧ Env ⟨66, []⟩ [(2, .pointer (some ⟨b1, 0, none⟩)), (4, .pointer (some ⟨b3, 0, none⟩))] a ∧ St w em hV [] [slO (kInt .u8) 5 v116 l115, slO (kInt .u8) 5 v113 l112, boxO b3 [v113, v116] 255, boxO b1 [(.slice none 0 0), (.slice none 0 0)] 255] w2) ?_ ?_
 ·rintro a w2 ⟨l112, l115, v113, v116, ho, ha, hw⟩
  refine CP.app ha hw ?_
  clear ha hw a w2
  refine go ?_
  refine SP.val (Val.loadA 2 rfl Tryz.underlying255 rfl sz255 rfl rfl rfl) rfl rfl rfl ?_
  refine SP.have (fun w2 hw => slO.shape (St.own 1 rfl see.sub see.dj hw)) (fun hs_v113 => ?_)
  refine SP.have (fun w2 hw => slO.shape (St.own 0 rfl see.sub see.dj hw)) (fun hs_v116 => ?_)
  refine SP.store (v := .agg #[v113, v116]) (vs := [v113, v116]) 3 (by rfl) sz255 (by rfl) (by rfl) (by rfl) (by rfl) (one_cons hs_v113 (one_cons hs_v116 (rfl))) (by rfl) (go ?_)
  obtain rfl := Option.some.inj ho
  exact QE.rt (fun _ h => St.selO [1, 0] rfl rfl h) (rs := [.cell 2 255, .tmp 3]) (vs := [.agg #[v113, v116], .bool true]) (hv := ⟨RVs.cellA 3 rfl rfl Tryz.underlying255 rfl sz255, RVs.tmp rfl, trivial⟩)
 refine go ?_
 refine CP.seq (go ?_)
 refine CP.seq (go ?_)
 refine CP.seq (go ?_)
 refine CP.seq (go ?_)
 refine CP.join (fun a w2 => ∃ l98 : List Int, ∃ l101 : List Int, ∃ v99 : Value, ∃ v102 : Value, op_Of.j2 op_0 l98 l101 = some r ∧ Env ⟨66, []⟩ [(2, .pointer (some ⟨b1, 0, none⟩)), (4, .pointer (some ⟨b3, 0, none⟩))] a ∧ St w em hV [] [slO (kInt .u8) 5 v102 l101, slO (kInt .u8) 5 v99 l98, boxO b3 [v99, v102] 255, boxO b1 [(.slice none 0 0), (.slice none 0 0)] 255] w2) ?_ ?_
 ·rintro a w2 ⟨l98, l101, v99, v102, ho, ha, hw⟩
  refine CP.app ha hw ?_
  clear ha hw a w2
  refine CP.seq (go ?_)
  refine SP.imp (fun w2 hw => St.selO [2, 1, 0, 3] rfl rfl hw) ?_
  refine SP.imp (fun w2 hw => St.group [boxO b3 [v99, v102] 255, slO (kInt .u8) 5 v99 l98, slO (kInt .u8) 5 v102 l101] hw) ?_
  obtain ⟨t103, hc, ho⟩ := bind_some ho
  refine SP.callA see (caps := []) _ fn253 rfl rfl rfl rfl (fun w2 hP h1 sub s1 d1 ap hI => op_Shape_take_s2.ok _ _ _ v99 v102 _ hc w2 hP sub trivial trivial _ h1 s1 d1 hI) (SP.k0 ?_)
  refine SP.ex (fun w2 h => St.open h) (fun v104 => ?_)
  refine SP.ex (fun w2 h => St.open h) (fun v105 => ?_)
  refine SP.imp (fun w2 h => St.seps h) ?_
  clear hc
  refine go ?_
  refine SP.imp (fun w2 hw => St.group [boxO b3 [v104, v105] 255, slO (kInt .u8) 5 v104 t103.1, slO (kInt .u8) 5 v105 t103.2] hw) ?_
  obtain ⟨t106, hc, ho⟩ := bind_some ho
  refine SP.callA see (caps := []) _ fn254 rfl rfl rfl rfl (fun w2 hP h1 sub s1 d1 ap hI => op_Shape_give_s2.ok _ _ _ v104 v105 _ hc w2 hP sub trivial trivial _ h1 s1 d1 hI) (SP.k0 ?_)
  refine SP.ex (fun w2 h => St.open h) (fun v107 => ?_)
  refine SP.ex (fun w2 h => St.open h) (fun v108 => ?_)
  refine SP.imp (fun w2 h => St.seps h) ?_
  clear hc
  refine go ?_
  exact QE.meet fun a w2 ha hw => ⟨t106.1, t106.2, v107, v108, ho, ha.sub sb, (St.selO [2, 1, 0, 3] rfl rfl hw)⟩
 refine go ?_
 refine CP.seq (go ?_)
 refine CP.seq (go ?_)
 refine CP.seq (go ?_)
 refine CP.seq (go ?_)
 refine CP.join (fun a w2 => ∃ l87 : List Int, ∃ l90 : List Int, ∃ v88 : Value, ∃ v91 : Value, op_Of.j3 op_0 l87 l90 = some r ∧ Env ⟨66, []⟩ [(2, .pointer (some ⟨b1, 0, none⟩)), (4, .pointer (some ⟨b3, 0, none⟩))] a ∧ St w em hV [] [slO (kInt .u8) 5 v91 l90, slO (kInt .u8) 5 v88 l87, boxO b3 [v88, v91] 255, boxO b1 [(.slice none 0 0), (.slice none 0 0)] 255] w2) ?_ ?_
 ·rintro a w2 ⟨l87, l90, v88, v91, ho, ha, hw⟩
  refine CP.app ha hw ?_
  clear ha hw a w2
  refine go ?_
  refine SP.imp (fun w2 hw => St.selO [2, 1, 0, 3] rfl rfl hw) ?_
  refine SP.imp (fun w2 hw => St.group [boxO b3 [v88, v91] 255, slO (kInt .u8) 5 v88 l87, slO (kInt .u8) 5 v91 l90] hw) ?_
  obtain ⟨t92, hc, ho⟩ := bind_some ho
  refine SP.callA see (caps := []) _ fn253 rfl rfl rfl rfl (fun w2 hP h1 sub s1 d1 ap hI => op_Shape_take_s2.ok _ _ _ v88 v91 _ hc w2 hP sub trivial trivial _ h1 s1 d1 hI) (SP.k0 ?_)
  refine SP.ex (fun w2 h => St.open h) (fun v93 => ?_)
  refine SP.ex (fun w2 h => St.open h) (fun v94 => ?_)
  refine SP.imp (fun w2 h => St.seps h) ?_
  clear hc
  refine go ?_
  exact QE.meet fun a w2 ha hw => ⟨t92.1, t92.2, v93, v94, ho, ha.sub sb, (St.selO [2, 1, 0, 3] rfl rfl hw)⟩
 refine go ?_
 refine CP.seq (go ?_)
 refine CP.seq (go ?_)
 refine CP.seq (go ?_)
 refine CP.seq ?_
 refine CP.seq ?_
 refine CP.join (fun a w2 => ∃ b5 : Bool, op_Of.j4 op_0 b5 = some r ∧ Env ⟨66, []⟩ [(2, .pointer (some ⟨b1, 0, none⟩)), (4, .pointer (some ⟨b3, 0, none⟩)), (5, .int .u8 op_0), (6, .bool b5)] a ∧ St w em hV [] [boxO b3 [(.slice none 0 0), (.slice none 0 0)] 255, boxO b1 [(.slice none 0 0), (.slice none 0 0)] 255] w2) ?_ ?_
 ·rintro a w2 ⟨b5, ho, ha, hw⟩
  refine CP.app ha hw ?_
  clear ha hw a w2
  refine CP.cb ho (fun ho => ?_) fun ho => ?_
  ·refine go ?_
   exact QE.meet fun a w2 ha hw => ⟨[], [], (.slice none 0 0), (.slice none 0 0), ho, ha.sub sb, (St.addO (slO.nil (kInt .u8) 5) (St.addO (slO.nil (kInt .u8) 5) hw))⟩
  refine go ?_
  refine CP.seq (go ?_)
  refine CP.ci ho (fun ho => ?_) fun ho => ?_
  ·refine go ?_
   refine SP.imp (fun w2 hw => St.addO (slO.nil (kInt .u8) 5) hw) ?_
   refine SP.imp (fun w2 hw => St.addO (slO.nil (kInt .u8) 5) hw) ?_
   refine SP.imp (fun w2 hw => St.selO [2, 1, 0, 3] rfl rfl hw) ?_
   refine SP.imp (fun w2 hw => St.group [boxO b3 [(.slice none 0 0), (.slice none 0 0)] 255, slO (kInt .u8) 5 (.slice none 0 0) ([] : List Int), slO (kInt .u8) 5 (.slice none 0 0) ([] : List Int)] hw) ?_
   obtain ⟨t6, hc, ho⟩ := bind_some (x := op_Shape_take_s2.f ([] : List Int) ([] : List Int) 0) ho
   refine SP.callA see (caps := []) _ fn253 rfl rfl rfl rfl (fun w2 hP h1 sub s1 d1 ap hI => op_Shape_take_s2.ok _ _ _ (.slice none 0 0) (.slice none 0 0) _ hc w2 hP sub trivial trivial _ h1 s1 d1 hI) (SP.k0 ?_)
   refine SP.ex (fun w2 h => St.open h) (fun v9 => ?_)
   refine SP.ex (fun w2 h => St.open h) (fun v10 => ?_)
   refine SP.imp (fun w2 h => St.seps h) ?_
   clear hc
   refine go ?_
   exact QE.meet fun a w2 ha hw => ⟨t6.1, t6.2, v9, v10, ho, ha.sub sb, (St.selO [2, 1, 0, 3] rfl rfl hw)⟩
  refine go ?_
  refine CP.seq (go ?_)
  refine CP.ci ho (fun ho => ?_) fun ho => ?_
  ·refine go ?_
   refine SP.imp (fun w2 hw => St.addO (slO.nil (kInt .u8) 5) hw) ?_
   refine SP.imp (fun w2 hw => St.addO (slO.nil (kInt .u8) 5) hw) ?_
   refine SP.imp (fun w2 hw => St.selO [2, 1, 0, 3] rfl rfl hw) ?_
   refine SP.imp (fun w2 hw => St.group [boxO b3 [(.slice none 0 0), (.slice none 0 0)] 255, slO (kInt .u8) 5 (.slice none 0 0) ([] : List Int), slO (kInt .u8) 5 (.slice none 0 0) ([] : List Int)] hw) ?_
   obtain ⟨t11, hc, ho⟩ := bind_some (x := op_Shape_take_s2.f ([] : List Int) ([] : List Int) 3) ho
   refine SP.callA see (caps := []) _ fn253 rfl rfl rfl rfl (fun w2 hP h1 sub s1 d1 ap hI => op_Shape_take_s2.ok _ _ _ (.slice none 0 0) (.slice none 0 0) _ hc w2 hP sub trivial trivial _ h1 s1 d1 hI) (SP.k0 ?_)
   refine SP.ex (fun w2 h => St.open h) (fun v14 => ?_)
   refine SP.ex (fun w2 h => St.open h) (fun v15 => ?_)
   refine SP.imp (fun w2 h => St.seps h) ?_
   clear hc
   refine go ?_
   refine SP.imp (fun w2 hw => St.group [boxO b3 [v14, v15] 255, slO (kInt .u8) 5 v14 t11.1, slO (kInt .u8) 5 v15 t11.2] hw) ?_
   obtain ⟨t16, hc, ho⟩ := bind_some ho
   refine SP.callA see (caps := []) _ fn253 rfl rfl rfl rfl (fun w2 hP h1 sub s1 d1 ap hI => op_Shape_take_s2.ok _ _ _ v14 v15 _ hc w2 hP sub trivial trivial _ h1 s1 d1 hI) (SP.k0 ?_)
   refine SP.ex (fun w2 h => St.open h) (fun v17 => ?_)
   refine SP.ex (fun w2 h => St.open h) (fun v18 => ?_)
   refine SP.imp (fun w2 h => St.seps h) ?_
   clear hc
   refine go ?_
   exact QE.meet fun a w2 ha hw => ⟨t16.1, t16.2, v17, v18, ho, ha.sub sb, (St.selO [2, 1, 0, 3] rfl rfl hw)⟩
  refine go ?_
  refine CP.seq (go ?_)
  refine CP.ci ho (fun ho => ?_) fun ho => ?_
  ·refine go ?_
   exact QE.meet fun a w2 ha hw => ⟨[], [], (.slice none 0 0), (.slice none 0 0), ho, ha.sub sb, (St.addO (slO.nil (kInt .u8) 5) (St.addO (slO.nil (kInt .u8) 5) hw))⟩
  refine go ?_
  refine CP.seq ?_
  refine CP.join (fun a w2 => ∃ b19 : Bool, op_Of.j5 op_0 b19 = some r ∧ Env ⟨66, []⟩ [(2, .pointer (some ⟨b1, 0, none⟩)), (4, .pointer (some ⟨b3, 0, none⟩)), (5, .int .u8 op_0), (18, .bool b19)] a ∧ St w em hV [] [boxO b3 [(.slice none 0 0), (.slice none 0 0)] 255, boxO b1 [(.slice none 0 0), (.slice none 0 0)] 255] w2) ?_ ?_
  ·rintro a w2 ⟨b19, ho, ha, hw⟩
   refine CP.app ha hw ?_
   clear ha hw a w2
   refine CP.cb ho (fun ho => ?_) fun ho => ?_
   ·refine go ?_
    refine CP.seq (go ?_)
    refine SP.imp (fun w2 hw => St.addO (slO.nil (kInt .u8) 5) hw) ?_
    refine SP.imp (fun w2 hw => St.addO (slO.nil (kInt .u8) 5) hw) ?_
    refine SP.imp (fun w2 hw => St.selO [2, 1, 0, 3] rfl rfl hw) ?_
    refine SP.imp (fun w2 hw => St.group [boxO b3 [(.slice none 0 0), (.slice none 0 0)] 255, slO (kInt .u8) 5 (.slice none 0 0) ([] : List Int), slO (kInt .u8) 5 (.slice none 0 0) ([] : List Int)] hw) ?_
    obtain ⟨t20, hc, ho⟩ := bind_some (x := op_Shape_give_s2.f ([] : List Int) ([] : List Int) 1) ho
    refine SP.callA see (caps := []) _ fn254 rfl rfl rfl rfl (fun w2 hP h1 sub s1 d1 ap hI => op_Shape_give_s2.ok _ _ _ (.slice none 0 0) (.slice none 0 0) _ hc w2 hP sub trivial trivial _ h1 s1 d1 hI) (SP.k0 ?_)
    refine SP.ex (fun w2 h => St.open h) (fun v23 => ?_)
    refine SP.ex (fun w2 h => St.open h) (fun v24 => ?_)
    refine SP.imp (fun w2 h => St.seps h) ?_
    clear hc
    refine go ?_
    refine SP.imp (fun w2 hw => St.group [boxO b3 [v23, v24] 255, slO (kInt .u8) 5 v23 t20.1, slO (kInt .u8) 5 v24 t20.2] hw) ?_
    obtain ⟨t25, hc, ho⟩ := bind_some ho
    refine SP.callA see (caps := []) _ fn253 rfl rfl rfl rfl (fun w2 hP h1 sub s1 d1 ap hI => op_Shape_take_s2.ok _ _ _ v23 v24 _ hc w2 hP sub trivial trivial _ h1 s1 d1 hI) (SP.k0 ?_)
    refine SP.ex (fun w2 h => St.open h) (fun v26 => ?_)
    refine SP.ex (fun w2 h => St.open h) (fun v27 => ?_)
    refine SP.imp (fun w2 h => St.seps h) ?_
    clear hc
    refine go ?_
    refine SP.imp (fun w2 hw => St.group [boxO b3 [v26, v27] 255, slO (kInt .u8) 5 v26 t25.1, slO (kInt .u8) 5 v27 t25.2] hw) ?_
    obtain ⟨t28, hc, ho⟩ := bind_some ho
    refine SP.callA see (caps := []) _ fn253 rfl rfl rfl rfl (fun w2 hP h1 sub s1 d1 ap hI => op_Shape_take_s2.ok _ _ _ v26 v27 _ hc w2 hP sub trivial trivial _ h1 s1 d1 hI) (SP.k0 ?_)
    refine SP.ex (fun w2 h => St.open h) (fun v29 => ?_)
    refine SP.ex (fun w2 h => St.open h) (fun v30 => ?_)
    refine SP.imp (fun w2 h => St.seps h) ?_
    clear hc
    refine go ?_
    exact QE.meet fun a w2 ha hw => ⟨t28.1, t28.2, v29, v30, ho, ha.sub sb, (St.selO [2, 1, 0, 3] rfl rfl hw)⟩
   refine go ?_
   refine CP.seq (go ?_)
   refine CP.ci ho (fun ho => ?_) fun ho => ?_
   ·refine go ?_
    refine CP.seq (go ?_)
    refine SP.imp (fun w2 hw => St.addO (slO.nil (kInt .u8) 5) hw) ?_
    refine SP.imp (fun w2 hw => St.addO (slO.nil (kInt .u8) 5) hw) ?_
    refine SP.imp (fun w2 hw => St.selO [2, 1, 0, 3] rfl rfl hw) ?_
    refine SP.imp (fun w2 hw => St.group [boxO b3 [(.slice none 0 0), (.slice none 0 0)] 255, slO (kInt .u8) 5 (.slice none 0 0) ([] : List Int), slO (kInt .u8) 5 (.slice none 0 0) ([] : List Int)] hw) ?_
    obtain ⟨t31, hc, ho⟩ := bind_some (x := op_Shape_give_s2.f ([] : List Int) ([] : List Int) 2) ho
    refine SP.callA see (caps := []) _ fn254 rfl rfl rfl rfl (fun w2 hP h1 sub s1 d1 ap hI => op_Shape_give_s2.ok _ _ _ (.slice none 0 0) (.slice none 0 0) _ hc w2 hP sub trivial trivial _ h1 s1 d1 hI) (SP.k0 ?_)
    refine SP.ex (fun w2 h => St.open h) (fun v34 => ?_)
    refine SP.ex (fun w2 h => St.open h) (fun v35 => ?_)
    refine SP.imp (fun w2 h => St.seps h) ?_
    clear hc
    refine go ?_
    refine SP.imp (fun w2 hw => St.group [boxO b3 [v34, v35] 255, slO (kInt .u8) 5 v34 t31.1, slO (kInt .u8) 5 v35 t31.2] hw) ?_
    obtain ⟨t36, hc, ho⟩ := bind_some ho
    refine SP.callA see (caps := []) _ fn253 rfl rfl rfl rfl (fun w2 hP h1 sub s1 d1 ap hI => op_Shape_take_s2.ok _ _ _ v34 v35 _ hc w2 hP sub trivial trivial _ h1 s1 d1 hI) (SP.k0 ?_)
    refine SP.ex (fun w2 h => St.open h) (fun v37 => ?_)
    refine SP.ex (fun w2 h => St.open h) (fun v38 => ?_)
    refine SP.imp (fun w2 h => St.seps h) ?_
    clear hc
    refine go ?_
    refine SP.imp (fun w2 hw => St.group [boxO b3 [v37, v38] 255, slO (kInt .u8) 5 v37 t36.1, slO (kInt .u8) 5 v38 t36.2] hw) ?_
    obtain ⟨t39, hc, ho⟩ := bind_some ho
    refine SP.callA see (caps := []) _ fn253 rfl rfl rfl rfl (fun w2 hP h1 sub s1 d1 ap hI => op_Shape_take_s2.ok _ _ _ v37 v38 _ hc w2 hP sub trivial trivial _ h1 s1 d1 hI) (SP.k0 ?_)
    refine SP.ex (fun w2 h => St.open h) (fun v40 => ?_)
    refine SP.ex (fun w2 h => St.open h) (fun v41 => ?_)
    refine SP.imp (fun w2 h => St.seps h) ?_
    clear hc
    refine go ?_
    exact QE.meet fun a w2 ha hw => ⟨t39.1, t39.2, v40, v41, ho, ha.sub sb, (St.selO [2, 1, 0, 3] rfl rfl hw)⟩
   refine go ?_
   refine CP.seq ?_
   refine CP.join (fun a w2 => ∃ b42 : Bool, op_Of.j6 op_0 b42 = some r ∧ Env ⟨66, []⟩ [(2, .pointer (some ⟨b1, 0, none⟩)), (4, .pointer (some ⟨b3, 0, none⟩)), (5, .int .u8 op_0), (28, .bool b42)] a ∧ St w em hV [] [boxO b3 [(.slice none 0 0), (.slice none 0 0)] 255, boxO b1 [(.slice none 0 0), (.slice none 0 0)] 255] w2) ?_ ?_
   ·rintro a w2 ⟨b42, ho, ha, hw⟩
    refine CP.app ha hw ?_
    clear ha hw a w2
    refine CP.cb ho (fun ho => ?_) fun ho => ?_
    ·refine go ?_
     refine CP.seq (go ?_)
     refine SP.imp (fun w2 hw => St.addO (slO.nil (kInt .u8) 5) hw) ?_
     refine SP.imp (fun w2 hw => St.addO (slO.nil (kInt .u8) 5) hw) ?_
     refine SP.imp (fun w2 hw => St.selO [2, 1, 0, 3] rfl rfl hw) ?_
     refine SP.imp (fun w2 hw => St.group [boxO b3 [(.slice none 0 0), (.slice none 0 0)] 255, slO (kInt .u8) 5 (.slice none 0 0) ([] : List Int), slO (kInt .u8) 5 (.slice none 0 0) ([] : List Int)] hw) ?_
     obtain ⟨t43, hc, ho⟩ := bind_some (x := op_Shape_give_s2.f ([] : List Int) ([] : List Int) 1) ho
     refine SP.callA see (caps := []) _ fn254 rfl rfl rfl rfl (fun w2 hP h1 sub s1 d1 ap hI => op_Shape_give_s2.ok _ _ _ (.slice none 0 0) (.slice none 0 0) _ hc w2 hP sub trivial trivial _ h1 s1 d1 hI) (SP.k0 ?_)
     refine SP.ex (fun w2 h => St.open h) (fun v46 => ?_)
     refine SP.ex (fun w2 h => St.open h) (fun v47 => ?_)
     refine SP.imp (fun w2 h => St.seps h) ?_
     clear hc
     refine go ?_
     refine SP.imp (fun w2 hw => St.group [boxO b3 [v46, v47] 255, slO (kInt .u8) 5 v46 t43.1, slO (kInt .u8) 5 v47 t43.2] hw) ?_
     obtain ⟨t48, hc, ho⟩ := bind_some ho
     refine SP.callA see (caps := []) _ fn253 rfl rfl rfl rfl (fun w2 hP h1 sub s1 d1 ap hI => op_Shape_take_s2.ok _ _ _ v46 v47 _ hc w2 hP sub trivial trivial _ h1 s1 d1 hI) (SP.k0 ?_)
     refine SP.ex (fun w2 h => St.open h) (fun v49 => ?_)
     refine SP.ex (fun w2 h => St.open h) (fun v50 => ?_)
     refine SP.imp (fun w2 h => St.seps h) ?_
     clear hc
     refine go ?_
     exact QE.meet fun a w2 ha hw => ⟨t48.1, t48.2, v49, v50, ho, ha.sub sb, (St.selO [2, 1, 0, 3] rfl rfl hw)⟩
    refine go ?_
    refine CP.seq ?_
    refine CP.join (fun a w2 => ∃ b51 : Bool, op_Of.j7 op_0 b51 = some r ∧ Env ⟨66, []⟩ [(2, .pointer (some ⟨b1, 0, none⟩)), (4, .pointer (some ⟨b3, 0, none⟩)), (5, .int .u8 op_0), (31, .bool b51)] a ∧ St w em hV [] [boxO b3 [(.slice none 0 0), (.slice none 0 0)] 255, boxO b1 [(.slice none 0 0), (.slice none 0 0)] 255] w2) ?_ ?_
    ·rintro a w2 ⟨b51, ho, ha, hw⟩
     refine CP.app ha hw ?_
     clear ha hw a w2
     refine CP.cb ho (fun ho => ?_) fun ho => ?_
     ·refine go ?_
      refine SP.imp (fun w2 hw => St.addO (slO.nil (kInt .u8) 5) hw) ?_
      refine SP.imp (fun w2 hw => St.addO (slO.nil (kInt .u8) 5) hw) ?_
      refine SP.imp (fun w2 hw => St.selO [2, 1, 0, 3] rfl rfl hw) ?_
      refine SP.imp (fun w2 hw => St.group [boxO b3 [(.slice none 0 0), (.slice none 0 0)] 255, slO (kInt .u8) 5 (.slice none 0 0) ([] : List Int), slO (kInt .u8) 5 (.slice none 0 0) ([] : List Int)] hw) ?_
      obtain ⟨t52, hc, ho⟩ := bind_some (x := op_Shape_take_s2.f ([] : List Int) ([] : List Int) 2) ho
      refine SP.callA see (caps := []) _ fn253 rfl rfl rfl rfl (fun w2 hP h1 sub s1 d1 ap hI => op_Shape_take_s2.ok _ _ _ (.slice none 0 0) (.slice none 0 0) _ hc w2 hP sub trivial trivial _ h1 s1 d1 hI) (SP.k0 ?_)
      refine SP.ex (fun w2 h => St.open h) (fun v55 => ?_)
      refine SP.ex (fun w2 h => St.open h) (fun v56 => ?_)
      refine SP.imp (fun w2 h => St.seps h) ?_
      clear hc
      refine go ?_
      exact QE.meet fun a w2 ha hw => ⟨t52.1, t52.2, v55, v56, ho, ha.sub sb, (St.selO [2, 1, 0, 3] rfl rfl hw)⟩
     refine go ?_
     refine CP.seq (go ?_)
     refine CP.ci ho (fun ho => ?_) fun ho => ?_
     ·refine go ?_
      exact QE.meet fun a w2 ha hw => ⟨[], [], (.slice none 0 0), (.slice none 0 0), ho, ha.sub sb, (St.addO (slO.nil (kInt .u8) 5) (St.addO (slO.nil (kInt .u8) 5) hw))⟩
     refine go ?_
     refine CP.seq (go ?_)
     refine CP.ci ho (fun ho => ?_) fun ho => ?_
     ·refine go ?_
      refine CP.seq (go ?_)
      refine SP.imp (fun w2 hw => St.addO (slO.nil (kInt .u8) 5) hw) ?_
      refine SP.imp (fun w2 hw => St.addO (slO.nil (kInt .u8) 5) hw) ?_
      refine SP.imp (fun w2 hw => St.selO [2, 1, 0, 3] rfl rfl hw) ?_
      refine SP.imp (fun w2 hw => St.group [boxO b3 [(.slice none 0 0), (.slice none 0 0)] 255, slO (kInt .u8) 5 (.slice none 0 0) ([] : List Int), slO (kInt .u8) 5 (.slice none 0 0) ([] : List Int)] hw) ?_
      obtain ⟨t57, hc, ho⟩ := bind_some (x := op_Shape_take_s2.f ([] : List Int) ([] : List Int) 1) ho
      refine SP.callA see (caps := []) _ fn253 rfl rfl rfl rfl (fun w2 hP h1 sub s1 d1 ap hI => op_Shape_take_s2.ok _ _ _ (.slice none 0 0) (.slice none 0 0) _ hc w2 hP sub trivial trivial _ h1 s1 d1 hI) (SP.k0 ?_)
      refine SP.ex (fun w2 h => St.open h) (fun v60 => ?_)
      refine SP.ex (fun w2 h => St.open h) (fun v61 => ?_)
      refine SP.imp (fun w2 h => St.seps h) ?_
      clear hc
      refine go ?_
      refine SP.imp (fun w2 hw => St.group [boxO b3 [v60, v61] 255, slO (kInt .u8) 5 v60 t57.1, slO (kInt .u8) 5 v61 t57.2] hw) ?_
      obtain ⟨t62, hc, ho⟩ := bind_some ho
      refine SP.callA see (caps := []) _ fn254 rfl rfl rfl rfl (fun w2 hP h1 sub s1 d1 ap hI => op_Shape_give_s2.ok _ _ _ v60 v61 _ hc w2 hP sub trivial trivial _ h1 s1 d1 hI) (SP.k0 ?_)
      refine SP.ex (fun w2 h => St.open h) (fun v63 => ?_)
      refine SP.ex (fun w2 h => St.open h) (fun v64 => ?_)
      refine SP.imp (fun w2 h => St.seps h) ?_
      clear hc
      refine go ?_
      exact QE.meet fun a w2 ha hw => ⟨t62.1, t62.2, v63, v64, ho, ha.sub sb, (St.selO [2, 1, 0, 3] rfl rfl hw)⟩
     refine go ?_
     refine CP.seq (go ?_)
     refine CP.ci ho (fun ho => ?_) fun ho => ?_
     ·refine go ?_
      refine CP.seq (go ?_)
      refine SP.imp (fun w2 hw => St.addO (slO.nil (kInt .u8) 5) hw) ?_
      refine SP.imp (fun w2 hw => St.addO (slO.nil (kInt .u8) 5) hw) ?_
      refine SP.imp (fun w2 hw => St.selO [2, 1, 0, 3] rfl rfl hw) ?_
      refine SP.imp (fun w2 hw => St.group [boxO b3 [(.slice none 0 0), (.slice none 0 0)] 255, slO (kInt .u8) 5 (.slice none 0 0) ([] : List Int), slO (kInt .u8) 5 (.slice none 0 0) ([] : List Int)] hw) ?_
      obtain ⟨t65, hc, ho⟩ := bind_some (x := op_Shape_take_s2.f ([] : List Int) ([] : List Int) 3) ho
      refine SP.callA see (caps := []) _ fn253 rfl rfl rfl rfl (fun w2 hP h1 sub s1 d1 ap hI => op_Shape_take_s2.ok _ _ _ (.slice none 0 0) (.slice none 0 0) _ hc w2 hP sub trivial trivial _ h1 s1 d1 hI) (SP.k0 ?_)
      refine SP.ex (fun w2 h => St.open h) (fun v68 => ?_)
      refine SP.ex (fun w2 h => St.open h) (fun v69 => ?_)
      refine SP.imp (fun w2 h => St.seps h) ?_
      clear hc
      refine go ?_
      refine SP.imp (fun w2 hw => St.group [boxO b3 [v68, v69] 255, slO (kInt .u8) 5 v68 t65.1, slO (kInt .u8) 5 v69 t65.2] hw) ?_
      obtain ⟨t70, hc, ho⟩ := bind_some ho
      refine SP.callA see (caps := []) _ fn253 rfl rfl rfl rfl (fun w2 hP h1 sub s1 d1 ap hI => op_Shape_take_s2.ok _ _ _ v68 v69 _ hc w2 hP sub trivial trivial _ h1 s1 d1 hI) (SP.k0 ?_)
      refine SP.ex (fun w2 h => St.open h) (fun v71 => ?_)
      refine SP.ex (fun w2 h => St.open h) (fun v72 => ?_)
      refine SP.imp (fun w2 h => St.seps h) ?_
      clear hc
      refine go ?_
      refine SP.imp (fun w2 hw => St.group [boxO b3 [v71, v72] 255, slO (kInt .u8) 5 v71 t70.1, slO (kInt .u8) 5 v72 t70.2] hw) ?_
      obtain ⟨t73, hc, ho⟩ := bind_some ho
      refine SP.callA see (caps := []) _ fn254 rfl rfl rfl rfl (fun w2 hP h1 sub s1 d1 ap hI => op_Shape_give_s2.ok _ _ _ v71 v72 _ hc w2 hP sub trivial trivial _ h1 s1 d1 hI) (SP.k0 ?_)
      refine SP.ex (fun w2 h => St.open h) (fun v74 => ?_)
      refine SP.ex (fun w2 h => St.open h) (fun v75 => ?_)
      refine SP.imp (fun w2 h => St.seps h) ?_
      clear hc
      refine go ?_
      exact QE.meet fun a w2 ha hw => ⟨t73.1, t73.2, v74, v75, ho, ha.sub sb, (St.selO [2, 1, 0, 3] rfl rfl hw)⟩
     refine go ?_
     refine CP.ci ho (fun ho => ?_) fun ho => ?_
     ·refine go ?_
      refine CP.seq (go ?_)
      refine SP.imp (fun w2 hw => St.addO (slO.nil (kInt .u8) 5) hw) ?_
      refine SP.imp (fun w2 hw => St.addO (slO.nil (kInt .u8) 5) hw) ?_
      refine SP.imp (fun w2 hw => St.selO [2, 1, 0, 3] rfl rfl hw) ?_
      refine SP.imp (fun w2 hw => St.group [boxO b3 [(.slice none 0 0), (.slice none 0 0)] 255, slO (kInt .u8) 5 (.slice none 0 0) ([] : List Int), slO (kInt .u8) 5 (.slice none 0 0) ([] : List Int)] hw) ?_
      obtain ⟨t76, hc, ho⟩ := bind_some (x := op_Shape_take_s2.f ([] : List Int) ([] : List Int) 3) ho
      refine SP.callA see (caps := []) _ fn253 rfl rfl rfl rfl (fun w2 hP h1 sub s1 d1 ap hI => op_Shape_take_s2.ok _ _ _ (.slice none 0 0) (.slice none 0 0) _ hc w2 hP sub trivial trivial _ h1 s1 d1 hI) (SP.k0 ?_)
      refine SP.ex (fun w2 h => St.open h) (fun v79 => ?_)
      refine SP.ex (fun w2 h => St.open h) (fun v80 => ?_)
      refine SP.imp (fun w2 h => St.seps h) ?_
      clear hc
      refine go ?_
      refine SP.imp (fun w2 hw => St.group [boxO b3 [v79, v80] 255, slO (kInt .u8) 5 v79 t76.1, slO (kInt .u8) 5 v80 t76.2] hw) ?_
      obtain ⟨t81, hc, ho⟩ := bind_some ho
      refine SP.callA see (caps := []) _ fn254 rfl rfl rfl rfl (fun w2 hP h1 sub s1 d1 ap hI => op_Shape_give_s2.ok _ _ _ v79 v80 _ hc w2 hP sub trivial trivial _ h1 s1 d1 hI) (SP.k0 ?_)
      refine SP.ex (fun w2 h => St.open h) (fun v82 => ?_)
      refine SP.ex (fun w2 h => St.open h) (fun v83 => ?_)
      refine SP.imp (fun w2 h => St.seps h) ?_
      clear hc
      refine go ?_
      exact QE.meet fun a w2 ha hw => ⟨t81.1, t81.2, v82, v83, ho, ha.sub sb, (St.selO [2, 1, 0, 3] rfl rfl hw)⟩
     refine go ?_
     refine CP.seq (go ?_)
     refine SP.val (Val.buildC (us := []) (ucs := []) (cs := [(.slice none 0 0), (.slice none 0 0)]) bt255 rfl rfl trivial (by rfl)) rfl rfl rfl ?_
     refine SP.store (v := .agg #[(.slice none 0 0), (.slice none 0 0)]) (vs := [(.slice none 0 0), (.slice none 0 0)]) 1 (by rfl) sz255 (by rfl) (by rfl) (by rfl) (by rfl) (by rfl) (by rfl) (go ?_)
     obtain rfl := Option.some.inj ho
     exact QE.rt (fun _ h => St.selO [1, 0] rfl rfl (St.addO (slO.nil (kInt .u8) 5) (St.addO (slO.nil (kInt .u8) 5) h))) (rs := [.cell 2 255, .tmp 3]) (vs := [.agg #[(.slice none 0 0), (.slice none 0 0)], .bool false]) (hv := ⟨RVs.cellA 1 rfl rfl Tryz.underlying255 rfl sz255, RVs.tmp rfl, trivial⟩)
    refine go ?_
    refine CP.ci ho (fun ho => ?_) fun ho => ?_
    ·refine go ?_
     exact QE.meet fun a w2 ha hw => ⟨(decide (op_0 = 19)), ho, ha.sub sb, hw⟩
    refine go ?_
    exact QE.meet fun a w2 ha hw => ⟨(decide (op_0 = 20)), ho, ha.sub sb, hw⟩
   refine go ?_
   refine CP.ci ho (fun ho => ?_) fun ho => ?_
   ·refine go ?_
    exact QE.meet fun a w2 ha hw => ⟨(decide (op_0 = 17)), ho, ha.sub sb, hw⟩
   refine go ?_
   exact QE.meet fun a w2 ha hw => ⟨(decide (op_0 = 18)), ho, ha.sub sb, hw⟩
  refine go ?_
  refine CP.ci ho (fun ho => ?_) fun ho => ?_
  ·refine go ?_
   exact QE.meet fun a w2 ha hw => ⟨(decide (op_0 = 9)), ho, ha.sub sb, hw⟩
  refine go ?_
  refine CP.ci ho (fun ho => ?_) fun ho => ?_
  ·refine go ?_
   exact QE.meet fun a w2 ha hw => ⟨(decide (op_0 = 10)), ho, ha.sub sb, hw⟩
  refine go ?_
  refine CP.ci ho (fun ho => ?_) fun ho => ?_
  ·refine go ?_
   exact QE.meet fun a w2 ha hw => ⟨(decide (op_0 = 11)), ho, ha.sub sb, hw⟩
  refine go ?_
  refine CP.ci ho (fun ho => ?_) fun ho => ?_
  ·refine go ?_
   exact QE.meet fun a w2 ha hw => ⟨(decide (op_0 = 12)), ho, ha.sub sb, hw⟩
  refine go ?_
  refine CP.ci ho (fun ho => ?_) fun ho => ?_
  ·refine go ?_
   exact QE.meet fun a w2 ha hw => ⟨(decide (op_0 = 13)), ho, ha.sub sb, hw⟩
  refine go ?_
  refine CP.ci ho (fun ho => ?_) fun ho => ?_
  ·refine go ?_
   exact QE.meet fun a w2 ha hw => ⟨(decide (op_0 = 14)), ho, ha.sub sb, hw⟩
  refine go ?_
  exact QE.meet fun a w2 ha hw => ⟨(decide (op_0 = 15)), ho, ha.sub sb, hw⟩
 refine go ?_
 refine CP.ci ho (fun ho => ?_) fun ho => ?_
 ·refine go ?_
  exact QE.meet fun a w2 ha hw => ⟨(decide (op_0 = 0)), ho, ha.sub sb, hw⟩
 refine go ?_
 refine CP.ci ho (fun ho => ?_) fun ho => ?_
 ·refine go ?_
  exact QE.meet fun a w2 ha hw => ⟨(decide (op_0 = 26)), ho, ha.sub sb, hw⟩
 refine go ?_
 refine CP.ci ho (fun ho => ?_) fun ho => ?_
 ·refine go ?_
  exact QE.meet fun a w2 ha hw => ⟨(decide (op_0 = 28)), ho, ha.sub sb, hw⟩
 refine go ?_
 refine CP.ci ho (fun ho => ?_) fun ho => ?_
 ·refine go ?_
  exact QE.meet fun a w2 ha hw => ⟨(decide (op_0 = 29)), ho, ha.sub sb, hw⟩
 refine go ?_
 exact QE.meet fun a w2 ha hw => ⟨(decide (op_0 = 32)), ho, ha.sub sb, hw⟩
def slices_Clone_uint8_uint8.f (s_0 : (List Int)) : Option (List Int) :=
  nilOr s_0 (some []) (if (([] : List Int).length + s_0.length) * 1 ≤ 140737488355328 then (some (([] : List Int) ++ s_0)) else none)
theorem slices_Clone_uint8_uint8.ok (s_0 : (List Int)) (v_s_0 : Value) (r : (List Int)) (H : slices_Clone_uint8_uint8.f s_0 = some r) (w : World) (hV : Hp) (sV : Sub hV (hp w)) (h0 : slR (kInt .u8) hV v_s_0 s_0) :
    Trip Tryz.prog 81 [v_s_0].toArray em hV w (fun v => HO.ex fun u0 : Value => HO.pand (v = u0) (HO.seps [slO (kInt .u8) 5 u0 r])) := by
 refine Trip.go 8 Tryz.func81 sV (aS h0 (All.nil _)) fun see => ?_
 have ho := H
 refine go ?_
 refine CP.seq (go ?_)
 refine SP.val (Val.eqlNP see 0 rfl Tryz.underlying31 rfl rfl) rfl rfl rfl (go ?_)
 refine CP.have (fun w2 hw => slR.isNil (v := v_s_0) (St.pers 0 rfl see.sub see.dj hw)) (fun hnil => ?_)
 rcases Bool.eq_false_or_eq_true (nilB v_s_0) with hc | hc
 ·replace ho := nilOr_t ho (hnil hc)
  refine CP.condT rfl hc (go ?_)
  obtain rfl := Option.some.inj ho
  exact QE.rt (fun _ h => St.selO [0] rfl rfl (St.addO (slO.nil (kInt .u8) 5) h))
 replace ho := nilOr_f ho
 refine CP.condF rfl hc (go ?_)
 refine SP.lit0 (k := (kInt .u8)) Tryz.underlying31 inf5 rfl rfl (fun v3 => go ?_)
 obtain ⟨hb, ho⟩ := must_some ho
 refine SP.append see 0 rfl 0 rfl Tryz.underlying31 inf5 rfl rfl hb rfl rfl rfl rfl rfl (fun v5 => ?_)
 clear hb
 refine go ?_
 obtain rfl := Option.some.inj ho
 exact QE.rt (fun _ h => St.selO [0] rfl rfl h)
def types_look_named_s1.j1 (k_0_2 : List api_Value) (k_0_4 : List api_Value) (k_0_6 : List api_Method) (k_0_8 : Int) (k_0_9 : List Int) (k_0_11 : List Int) (k_0_13 : Int) (k_0_14 : Bool) (k_0_15 : Int) (k_0_16 : Int) (k_0_17 : Int) (k_0_18 : List api_Instr) (k_0_20 : List Int) (l22 : List types_Row) (i_1 : api_Instr) (b30 : Bool) : Option (Int × (List types_Row)) :=
  if b30 = true then ((elt k_0_2 i_1.A).bind fun x33 => some (x33.Kind, l22)) else ((elt k_0_20 i_1.A).bind fun x38 => some (x38, l22))
def types_look_named_s1.f (k_0_2 : List api_Value) (k_0_4 : List api_Value) (k_0_6 : List api_Method) (k_0_8 : Int) (k_0_9 : List Int) (k_0_11 : List Int) (k_0_13 : Int) (k_0_14 : Bool) (k_0_15 : Int) (k_0_16 : Int) (k_0_17 : Int) (k_0_18 : List api_Instr) (k_0_20 : List Int) (l22 : List types_Row) (i_1 : api_Instr) : Option (Int × (List types_Row)) :=
  if i_1.Op = 1 then ((elt k_0_4 i_1.A).bind fun x27 => some (x27.Kind, l22)) else (if i_1.Op = 4 then (types_look_named_s1.j1 k_0_2 k_0_4 k_0_6 k_0_8 k_0_9 k_0_11 k_0_13 k_0_14 k_0_15 k_0_16 k_0_17 k_0_18 k_0_20 l22 i_1 (decide (i_1.Op = 4))) else (types_look_named_s1.j1 k_0_2 k_0_4 k_0_6 k_0_8 k_0_9 k_0_11 k_0_13 k_0_14 k_0_15 k_0_16 k_0_17 k_0_18 k_0_20 l22 i_1 (decide (i_1.Op = 5))))
theorem types_look_named_s1.ok (k_0_2 : List api_Value) (k_0_4 : List api_Value) (k_0_6 : List api_Method) (k_0_8 : Int) (k_0_9 : List Int) (k_0_11 : List Int) (k_0_13 : Int) (k_0_14 : Bool) (k_0_15 k_0_16 k_0_17 : Int) (k_0_18 : List api_Instr) (k_0_20 : List Int) (l22 : List types_Row) (i_1 : api_Instr) (v_k_0_2 v_k_0_4 : Value) (v_k_0_6 v_k_0_9 : Value) (v_k_0_11 v_k_0_18 v_k_0_20 : Value) (r : Int × (List types_Row)) (H : types_look_named_s1.f k_0_2 k_0_4 k_0_6 k_0_8 k_0_9 k_0_11 k_0_13 k_0_14 k_0_15 k_0_16 k_0_17 k_0_18 k_0_20 l22 i_1 = some r) (w : World) (hV : Hp) (sV : Sub hV (hp w)) (h0 : slR k_api_Value hV v_k_0_2 k_0_2) (h1 : slR k_api_Value hV v_k_0_4 k_0_4) (h2 : slR k_api_Method hV v_k_0_6 k_0_6) (h3 : slR (kInt .u8) hV v_k_0_9 k_0_9) (h4 : slR (kInt .u8) hV v_k_0_11 k_0_11) (h5 : slR k_api_Instr hV v_k_0_18 k_0_18) (h6 : slR (kInt .u8) hV v_k_0_20 k_0_20) (b1 : Nat) (hA : Hp) (sA : Sub hA (hp w)) (dA : Dj hV hA) (hI : (arrK k_types_Row b1 [v_k_0_2, v_k_0_4, v_k_0_6, .int .i64 k_0_8, v_k_0_9, v_k_0_11, .int .u8 k_0_13, .bool k_0_14, .int .i64 k_0_15, .int .i64 k_0_16, .int .i64 k_0_17, v_k_0_18, v_k_0_20] 200 l22 [] 122).p hV hA) :
    Trip Tryz.prog 240 [.pointer (some ⟨b1, 0, none⟩), .agg #[.int .u8 i_1.Op, .int .i64 i_1.A, .int .i64 i_1.B]].toArray hA hV w (fun v => HO.pand (v = .int .u8 r.1) (HO.seps [arrK k_types_Row b1 [v_k_0_2, v_k_0_4, v_k_0_6, .int .i64 k_0_8, v_k_0_9, v_k_0_11, .int .u8 k_0_13, .bool k_0_14, .int .i64 k_0_15, .int .i64 k_0_16, .int .i64 k_0_17, v_k_0_18, v_k_0_20] 200 r.2 [] 122])) := by
 have see : Sees w hA hV := ⟨sV, dA⟩
 refine Trip.of (P := Tryz.prog) (n := ⟨40, []⟩) Tryz.func240 rfl ⟨rfl, rfl⟩ rfl (St.beginA (os := [arrK k_types_Row b1 [v_k_0_2, v_k_0_4, v_k_0_6, .int .i64 k_0_8, v_k_0_9, v_k_0_11, .int .u8 k_0_13, .bool k_0_14, .int .i64 k_0_15, .int .i64 k_0_16, .int .i64 k_0_17, v_k_0_18, v_k_0_20] 200 l22 [] 122]) sA (aS h0 (aS h1 (aS h2 (aS h3 (aS h4 (aS h5 (aS h6 (All.nil _)))))))) ⟨hA, em, Dj.em_right _, Sub.refl _, Sub.em _, hI, trivial⟩) ?_
 have ho := H
 refine go ?_
 refine SP.box rfl rfl rfl rfl fun b23 => go ?_
 refine CP.seq (go ?_)
 refine CP.ci ho (fun ho => ?_) fun ho => ?_
 ·refine CP.seq ?_
  refine CP.drawA (by kernel_rfl) (fun w2 k h => h.drawn k) ?_
  refine DA.ph 0 7 ?_
  refine DT.tk 0 ?_
  refine DT.tk 1 ?_
  refine DT.tk 2 ?_
  refine DT.tk 3 ?_
  refine DT.tv 4 rfl (Val.loadKPre1 see 1 rfl Tryz.underlying22 rfl rfl rfl) ?_
  refine DT.tk 5 ?_
  refine DT.tk 6 ?_
  refine DT.next (by kernel_rfl) ?_
  refine DA.one 7 rfl (by kernel_rfl) ?_
  obtain ⟨x27, hx, ho⟩ := elt_bind ho
  refine SP.indexP see 1 rfl Tryz.underlying22 sz100 hx.1 hx.2 rfl rfl rfl rfl (fun p25 => ?_)
  clear hx
  refine go ?_
  refine QE.atA ?_
  refine DA.one 8 rfl (by kernel_rfl) ?_
  refine SP.fieldP see 0 rfl Tryz.underlying100 rfl sz5 k_api_Value.part_Kind rfl rfl rfl (fun p28 => go ?_)
  refine QE.atA ?_
  refine DA.one 9 rfl (by kernel_rfl) ?_
  refine SP.val (Val.loadP1 see 0 rfl (fun _ _ e => e) Tryz.underlying5 rfl rfl) rfl rfl rfl (go ?_)
  refine QE.atA ?_
  refine DA.one 10 rfl (by kernel_rfl) (go ?_)
  refine QE.atA ?_
  refine DA.done (by kernel_rfl) (go ?_)
  obtain rfl := Option.some.inj ho
  exact QE.rt (fun _ h => St.selO [1] rfl rfl h)
 refine CP.join (fun a w2 => ∃ b30 : Bool, types_look_named_s1.j1 k_0_2 k_0_4 k_0_6 k_0_8 k_0_9 k_0_11 k_0_13 k_0_14 k_0_15 k_0_16 k_0_17 k_0_18 k_0_20 l22 i_1 b30 = some r ∧ Env ⟨40, []⟩ [(0, .pointer (some ⟨b1, 0, none⟩)), (3, .pointer (some ⟨b23, 0, none⟩)), (19, .bool b30)] a ∧ St w hA hV [slP k_api_Value v_k_0_2 k_0_2, slP k_api_Value v_k_0_4 k_0_4, slP k_api_Method v_k_0_6 k_0_6, slP (kInt .u8) v_k_0_9 k_0_9, slP (kInt .u8) v_k_0_11 k_0_11, slP k_api_Instr v_k_0_18 k_0_18, slP (kInt .u8) v_k_0_20 k_0_20] [boxO b23 [.int .u8 i_1.Op, .int .i64 i_1.A, .int .i64 i_1.B] 43, arrK k_types_Row b1 [v_k_0_2, v_k_0_4, v_k_0_6, .int .i64 k_0_8, v_k_0_9, v_k_0_11, .int .u8 k_0_13, .bool k_0_14, .int .i64 k_0_15, .int .i64 k_0_16, .int .i64 k_0_17, v_k_0_18, v_k_0_20] 200 l22 [] 122] w2) ?_ ?_
 ·rintro a w2 ⟨b30, ho, ha, hw⟩
  refine CP.app ha hw ?_
  clear ha hw a w2
  refine CP.cb ho (fun ho => ?_) fun ho => ?_
  ·refine CP.seq ?_
   refine CP.drawA (by kernel_rfl) (fun w2 k h => h.drawn k) ?_
   refine DA.ph 0 7 ?_
   refine DT.tk 0 ?_
   refine DT.tk 1 ?_
   refine DT.tk 2 ?_
   refine DT.tk 3 ?_
   refine DT.tv 4 rfl (Val.loadKPre1 see 1 rfl Tryz.underlying22 rfl rfl rfl) ?_
   refine DT.tk 5 ?_
   refine DT.tk 6 ?_
   refine DT.next (by kernel_rfl) ?_
   refine DA.one 7 rfl (by kernel_rfl) ?_
   obtain ⟨x33, hx, ho⟩ := elt_bind ho
   refine SP.indexP see 0 rfl Tryz.underlying22 sz100 hx.1 hx.2 rfl rfl rfl rfl (fun p31 => ?_)
   clear hx
   refine go ?_
   refine QE.atA ?_
   refine DA.one 8 rfl (by kernel_rfl) ?_
   refine SP.fieldP see 0 rfl Tryz.underlying100 rfl sz5 k_api_Value.part_Kind rfl rfl rfl (fun p34 => go ?_)
   refine QE.atA ?_
   refine DA.one 9 rfl (by kernel_rfl) ?_
   refine SP.val (Val.loadP1 see 0 rfl (fun _ _ e => e) Tryz.underlying5 rfl rfl) rfl rfl rfl (go ?_)
   refine QE.atA ?_
   refine DA.one 10 rfl (by kernel_rfl) (go ?_)
   refine QE.atA ?_
   refine DA.done (by kernel_rfl) (go ?_)
   obtain rfl := Option.some.inj ho
   exact QE.rt (fun _ h => St.selO [1] rfl rfl h)
  refine go ?_
  refine CP.seq ?_
  refine CP.drawA (by kernel_rfl) (fun w2 k h => h.drawn k) ?_
  refine DA.ph 0 6 ?_
  refine DT.tk 0 ?_
  refine DT.tk 1 ?_
  refine DT.tk 2 ?_
  refine DT.tv 3 rfl (Val.loadKPre1 see 1 rfl Tryz.underlying31 rfl rfl rfl) ?_
  refine DT.tk 4 ?_
  refine DT.tk 5 ?_
  refine DT.next (by kernel_rfl) ?_
  refine DA.one 6 rfl (by kernel_rfl) ?_
  obtain ⟨x38, hx, ho⟩ := elt_bind ho
  refine SP.indexP see 6 rfl Tryz.underlying31 sz5 hx.1 hx.2 rfl rfl rfl rfl (fun p36 => ?_)
  clear hx
  refine go ?_
  refine QE.atA ?_
  refine DA.one 7 rfl (by kernel_rfl) ?_
  refine SP.val (Val.loadP1 see 0 rfl (fun _ _ e => e) Tryz.underlying5 rfl rfl) rfl rfl rfl (go ?_)
  refine QE.atA ?_
  refine DA.one 8 rfl (by kernel_rfl) (go ?_)
  refine QE.atA ?_
  refine DA.done (by kernel_rfl) (go ?_)
  obtain rfl := Option.some.inj ho
  exact QE.rt (fun _ h => St.selO [1] rfl rfl h)
 refine go ?_
 refine CP.ci ho (fun ho => ?_) fun ho => ?_
 ·refine go ?_
  exact QE.meet fun a w2 ha hw => ⟨(decide (i_1.Op = 4)), ho, ha.sub sb, hw⟩
 refine go ?_
 exact QE.meet fun a w2 ha hw => ⟨(decide (i_1.Op = 5)), ho, ha.sub sb, hw⟩
shelf_lay_g SlLaysE.n35 Slgn 35 at Tryz 241 as Tryz.reverse241
theorem reverse241_trip {v : Value} {l : List Int} (hll : l.length < 4611686018427387904) {w : World} {hP h1 : Hp} (sub : Sub hP (hp w)) (s1 : Sub h1 (hp w)) (dj : Dj hP h1) (hI : (slO (kInt .u8) 5 v l).p hP h1) :
    Trip Tryz.prog 241 #[v] h1 hP w (fun r => HO.pand (r = .tuple #[]) (HO.seps [slO (kInt .u8) 5 v l.reverse])) := by
  have h := slO.rowTrip (P := Tryz.prog) (f := 241) (fun v => #[v]) (fun _ => .tuple #[]) (fun x => [Value.int .u8 x]) (fun h cs x => Iff.rfl) (fun d : Array Int => d.toList.reverse.toArray) (fun d => by simp) (fun blk cap d w hH hb hsz _ _ => ?_) (fun _ w hV sV => ?_) hll sub s1 dj hI
  · simpa using h
  · have := AnyE.slices_Reverse Tryz.reverse241 (Value.int .u8) (fun _ => rfl) blk 0 cap d.toList w (holdsOne.1 hH) (by simp; omega)
    refine this.mono fun e w' ⟨h1, n, h2⟩ => ⟨h1, n, #[], h2.trans (Eq.trans ?_ (Eq.symm sortOne))⟩
    rw [grow_none]
  · refine (AnyE.slices_Reverse_empty Tryz.reverse241 none 0 w).mono fun e w' ⟨he, hw⟩ => ?_
    subst hw
    exact ⟨_, he, Met.refl _, fun _ _ e _ => e, em, em, fun _ _ _ => rfl, fun _ _ _ => rfl, Dj.em_left _, Sub.em _, Sub.em _, rfl⟩
shelf_lay Lays.n212 Nm 212 at Tryz as Tryz.bitsMul203
def math_bits_Mul.f (x : Int) (y : Int) : Option (Int × Int) := if 0 ≤ x ∧ x < 18446744073709551616 ∧ 0 ≤ y ∧ y < 18446744073709551616 then some (x * y / 18446744073709551616, x * y % 18446744073709551616) else none
theorem math_bits_Mul.ok (x : Int) (y : Int) (r : Int × Int) (H : math_bits_Mul.f x y = some r) (w : World) (hV : Hp) (sV : Sub hV (hp w)) :
    Trip Tryz.prog 203 [.int .u64 x, .int .u64 y].toArray em hV w (fun v => HO.pure (v = .tuple #[.int .u64 r.1, .int .u64 r.2])) := by
  unfold math_bits_Mul.f at H
  obtain ⟨⟨h1, h2, h3, h4⟩, H⟩ := must_some H
  obtain rfl := Option.some.inj H
  obtain ⟨a, rfl⟩ := Int.eq_ofNat_of_zero_le h1
  obtain ⟨b, rfl⟩ := Int.eq_ofNat_of_zero_le h3
  refine (Any.bits_Mul Tryz.bitsMul203 a b (by omega) (by omega) w).mono fun e w' ⟨he, hw⟩ => ?_
  subst hw
  refine ⟨_, he, Met.refl _, fun _ _ e _ => e, em, em, fun _ _ _ => rfl, fun _ _ _ => rfl, Dj.em_left _, Sub.em _, Sub.em _, ?_⟩
  show Value.tuple _ = Value.tuple _
  simp
inductive slices_Repeat_uint8_uint8.S where
  | start
  | l1 (l12 : List Int) (x14 : Int)
def slices_Repeat_uint8_uint8.j2 (x_0 : (List Int)) (count_1 : Int) (t3 : Int × Int) : Option (slices_Repeat_uint8_uint8.S ⊕ (List Int)) :=
  if (0 : Int) ≤ (IntKind.i64.wrap t3.2) ∧ (1 : Int) * (IntKind.i64.wrap t3.2) ≤ 281474976710656 ∧ ((IntKind.i64.wrap t3.2) : Int) ≤ 9223372036854775807 then (some (.inl (.l1 (x_0.take (List.replicate (IntKind.i64.wrap t3.2 : Int).toNat 0 : List Int).length ++ (List.replicate (IntKind.i64.wrap t3.2 : Int).toNat 0 : List Int).drop x_0.length) ((min x_0.length (List.replicate (IntKind.i64.wrap t3.2 : Int).toNat 0 : List Int).length : Nat) : Int)))) else none
def slices_Repeat_uint8_uint8.j1 (x_0 : (List Int)) (count_1 : Int)  : Option (slices_Repeat_uint8_uint8.S ⊕ (List Int)) :=
  (math_bits_Mul.f (IntKind.u64.wrap (x_0.length : Int)) (IntKind.u64.wrap count_1)).bind fun t3 => if ((decide (t3.1 > 0)) || (decide (t3.2 > 9223372036854775807))) = true then (none) else (slices_Repeat_uint8_uint8.j2 x_0 count_1 t3)
def slices_Repeat_uint8_uint8.F (x_0 : (List Int)) (count_1 : Int) : slices_Repeat_uint8_uint8.S → Option (slices_Repeat_uint8_uint8.S ⊕ (List Int))
  | .start => if count_1 < 0 then (none) else (slices_Repeat_uint8_uint8.j1 x_0 count_1)
  | .l1 l12 x14 => if x14 < (l12.length : Int) then (if (0 : Int) ≤ x14 ∧ x14 ≤ (l12.length : Int) then (if (0 : Int) ≤ x14 ∧ x14 ≤ (l12.length : Int) then (some (.inl (.l1 (l12.take (x14 : Int).toNat ++ l12.take (min (x14 : Int).toNat (l12.length - (x14 : Int).toNat)) ++ l12.drop ((x14 : Int).toNat + min (x14 : Int).toNat (l12.length - (x14 : Int).toNat))) (IntKind.i64.wrap (x14 + ((min (x14 : Int).toNat (l12.length - (x14 : Int).toNat) : Nat) : Int)))))) else none) else none) else (some (.inr l12))
def slices_Repeat_uint8_uint8.f (x_0 : (List Int)) (count_1 : Int) : Option (List Int) := runF (slices_Repeat_uint8_uint8.F x_0 count_1) .start
theorem slices_Repeat_uint8_uint8.ok (x_0 : (List Int)) (count_1 : Int) (v_x_0 : Value) (r : (List Int)) (H : slices_Repeat_uint8_uint8.f x_0 count_1 = some r) (w : World) (hV : Hp) (sV : Sub hV (hp w)) (h0 : slR (kInt .u8) hV v_x_0 x_0) :
    Trip Tryz.prog 242 [v_x_0, .int .i64 count_1].toArray em hV w (fun v => HO.ex fun u0 : Value => HO.pand (v = u0) (HO.seps [slO (kInt .u8) 5 u0 r])) := by
 refine Trip.go 48 Tryz.func242 sV (aS h0 (All.nil _)) fun see => ?_
 obtain ⟨n0, hi⟩ := runF_iff.1 H
 obtain ⟨m0, o, hm0, ho, hr⟩ := iter_some hi
 clear hi
 refine go ?_
 refine CP.join (fun a w2 => ∃ (m2 : Nat) (o : (slices_Repeat_uint8_uint8.S ⊕ (List Int))), m2 ≤ m0 ∧ slices_Repeat_uint8_uint8.j1 x_0 count_1 = some o ∧ next (slices_Repeat_uint8_uint8.F x_0 count_1) m2 o = some r ∧ Env ⟨48, []⟩ [(0, v_x_0), (1, .int .i64 count_1)] a ∧ St w em hV [slP (kInt .u8) v_x_0 x_0] [] w2) ?_ ?_
 ·rintro a w2 ⟨m2, o, hm_m2, ho, hr, ha, hw⟩
  refine CP.app ha hw ?_
  clear ha hw a w2
  refine go ?_
  refine SP.val (Val.conv (by rw [Tryz.underlying3]; rfl) Tryz.underlying148 rfl) rfl rfl rfl (go ?_)
  refine SP.val (Val.conv (by rw [Tryz.underlying3]; rfl) Tryz.underlying148 rfl) rfl rfl rfl ?_
  obtain ⟨t3, hc, ho⟩ := bind_some ho
  refine SP.callV see (caps := []) (.tuple #[.int .u64 t3.1, .int .u64 t3.2]) fn203 rfl rfl rfl rfl (fun w2 hP hs sub ap => math_bits_Mul.ok _ _  _ hc w2 hP sub ) ?_
  clear hc
  refine go ?_
  refine CP.join (fun a w2 => ∃ (m6 : Nat) (o : (slices_Repeat_uint8_uint8.S ⊕ (List Int))), m6 ≤ m2 ∧ slices_Repeat_uint8_uint8.j2 x_0 count_1 t3 = some o ∧ next (slices_Repeat_uint8_uint8.F x_0 count_1) m6 o = some r ∧ Env ⟨48, []⟩ [(0, v_x_0), (6, .int .u64 t3.2)] a ∧ St w em hV [slP (kInt .u8) v_x_0 x_0] [] w2) ?_ ?_
  ·rintro a w2 ⟨m6, o, hm_m6, ho, hr, ha, hw⟩
   refine CP.app ha hw ?_
   clear ha hw a w2
   refine go ?_
   refine SP.val (Val.conv (by rw [Tryz.underlying148]; rfl) Tryz.underlying3 rfl) rfl rfl rfl ?_
   obtain ⟨hb, ho⟩ := must_some ho
   refine SP.makeO (k := (kInt .u8)) (z := 0) Tryz.underlying31 inf5 rfl (fun _ => rfl) rfl rfl rfl rfl hb (fun v7 => ?_)
   clear hb
   refine go ?_
   refine SP.copyIn see 0 rfl 0 rfl Tryz.underlying31 sz5 rfl rfl rfl rfl rfl (go ?_)
   refine CP.seq (go ?_)
   obtain rfl := Option.some.inj ho
   refine CP.loop (fun cl1 a w2 => ∃ l12 : List Int, ∃ x14 : Int, ∃ v13 : Value, cl1 ≤ m6 ∧ iter (slices_Repeat_uint8_uint8.F x_0 count_1) cl1 (.l1 l12 x14) = some r ∧ Env ⟨48, []⟩ [(7, v13), (8, .int .i64 x14)] a ∧ St w em hV [] [slO (kInt .u8) 5 v13 l12] w2) m6 (fun a w2 ha hw => ⟨(x_0.take (List.replicate (IntKind.i64.wrap t3.2 : Int).toNat 0 : List Int).length ++ (List.replicate (IntKind.i64.wrap t3.2 : Int).toNat 0 : List Int).drop x_0.length), ((min x_0.length (List.replicate (IntKind.i64.wrap t3.2 : Int).toNat 0 : List Int).length : Nat) : Int), v7, Nat.le_refl _, hr, ha.sub sb, (St.selP [] rfl hw)⟩) ?_
   clear hr
   rintro cl1 a w2 ⟨l12, x14, v13, hc_l1, hi, ha, hw⟩
   obtain ⟨m15, o, hm_m15, ho, hr⟩ := iter_some hi
   refine CP.app ha hw ?_
   clear ha hw a w2 hi
   refine CP.seq (go ?_)
   refine SP.val (Val.lenW (fun w2 hw => slO.whole (St.own 0 rfl see.sub see.dj hw)) Tryz.underlying31 rfl) rfl rfl rfl (go ?_)
   refine CP.ci ho (fun ho => ?_) fun ho => ?_
   ·refine go ?_
    refine CP.drawA (by kernel_rfl) (fun w2 k h => h.drawn k) ?_
    refine DA.phase (fun _ => true) (fun _ => True) ?_
    refine DT.take 0 rfl rfl rfl rfl (by kernel_rfl) (fun _ _ _ h => h) (Val.move rfl) (fun _ _ => trivial) ?_
    refine DT.take 1 rfl rfl rfl rfl (by kernel_rfl) (fun _ _ _ h => h) (Val.move rfl) (fun _ _ => trivial) ?_
    refine DT.take 2 rfl rfl rfl rfl (by kernel_rfl) (fun _ _ _ h => h) (Val.move rfl) (fun _ _ => trivial) ?_
    refine DT.take 4 rfl rfl rfl rfl (by kernel_rfl) (fun _ _ _ h => h) (Val.move rfl) (fun _ _ => trivial) ?_
    refine DT.take 5 rfl rfl rfl rfl (by kernel_rfl) (fun _ _ _ h => h) (Val.move rfl) (fun _ _ => trivial) ?_
    refine DT.list (l2 := #[true, true, true, false, true, true, false, false, false, false]) (by kernel_rfl) ?_
    refine DT.free ?_
    obtain ⟨hz16, ho⟩ := must_some ho
    obtain ⟨hz17, ho⟩ := must_some ho
    refine DA.ph 0 7 ?_
    refine DT.tv 3 rfl (Val.sliceFrom see 0 rfl Tryz.underlying31 sz5 rfl rfl hz16) ?_
    refine DT.tv 6 rfl (Val.sliceTo see 0 rfl Tryz.underlying31 sz5 rfl rfl hz17) ?_
    refine DT.next (by kernel_rfl) ?_
    refine DA.one 7 rfl (by kernel_rfl) ?_
    refine SP.copyOver see 0 rfl Tryz.underlying31 sz5 rfl (by omega) rfl rfl rfl rfl (go ?_)
    refine QE.atA ?_
    refine DA.one 8 rfl (by kernel_rfl) (go ?_)
    refine QE.atA ?_
    refine DA.one 9 rfl (by kernel_rfl) (go ?_)
    refine QE.atA ?_
    refine DA.done (by kernel_rfl) (go ?_)
    obtain rfl := Option.some.inj ho
    exact QE.lower m15 (by omega) fun a w2 ha hw => ⟨(l12.take (x14 : Int).toNat ++ l12.take (min (x14 : Int).toNat (l12.length - (x14 : Int).toNat)) ++ l12.drop ((x14 : Int).toNat + min (x14 : Int).toNat (l12.length - (x14 : Int).toNat))), (IntKind.i64.wrap (x14 + ((min (x14 : Int).toNat (l12.length - (x14 : Int).toNat) : Nat) : Int))), v13, (by omega), hr, ha.sub sb, hw⟩
   refine go ?_
   obtain rfl := fin ho hr
   exact QE.rt (fun _ h => St.selO [0] rfl rfl h)
  refine go ?_
  refine SP.jn 3 [0, 6] 26 (.bool ((decide (t3.1 > 0)) || (decide (t3.2 > 9223372036854775807)))) ?_ ?_
  ·refine go ?_
   refine CP.cb ho (fun ho => ?_) fun ho => ?_
   ·cases ho
   refine go ?_
   exact QE.meet fun a w2 ha hw => ⟨m2, _, (by omega), ho, hr, ha.sub sb, hw⟩
  refine SP.bb 23 (fun hq5 => ?_) fun hq5 => ?_
  ·refine go ?_
   exact QE.jb (or_t hq5) fun w2 hw => hw
  refine go ?_
  exact QE.jb (or_f hq5 rfl) fun w2 hw => hw
 refine go ?_
 refine CP.ci ho (fun ho => ?_) fun ho => ?_
 ·cases ho
 refine go ?_
 exact QE.meet fun a w2 ha hw => ⟨m0, _, (by omega), ho, hr, ha.sub sb, hw⟩
def types_look_shape_s1.j1 (k_0_2 : List api_Value) (k_0_4 : List api_Value) (k_0_6 : List api_Method) (k_0_8 : Int) (k_0_9 : List Int) (k_0_11 : List Int) (k_0_13 : Int) (k_0_14 : Bool) (k_0_15 : Int) (k_0_16 : Int) (k_0_17 : Int) (k_0_18 : List api_Instr) (k_0_20 : List Int) (l22 : List types_Row) (i_1 : api_Instr) (row_2 : (List Int)) (l5302 : List types_Row) (l5304 : List Int) (l5307 : List Int) : Option (op_Shape × (List types_Row)) :=
  some ((⟨l5304, l5307⟩ : op_Shape), l5302)
def types_look_shape_s1.j2 (k_0_2 : List api_Value) (k_0_4 : List api_Value) (k_0_6 : List api_Method) (k_0_8 : Int) (k_0_9 : List Int) (k_0_11 : List Int) (k_0_13 : Int) (k_0_14 : Bool) (k_0_15 : Int) (k_0_16 : Int) (k_0_17 : Int) (k_0_18 : List api_Instr) (k_0_20 : List Int) (l22 : List types_Row) (i_1 : api_Instr) (row_2 : (List Int)) (t28 : op_Shape × Bool) (l5300 : List Int) : Option (op_Shape × (List types_Row)) :=
  types_look_shape_s1.j1 k_0_2 k_0_4 k_0_6 k_0_8 k_0_9 k_0_11 k_0_13 k_0_14 k_0_15 k_0_16 k_0_17 k_0_18 k_0_20 l22 i_1 row_2 l22 [0] l5300
def types_look_shape_s1.j4 (k_0_2 : List api_Value) (k_0_4 : List api_Value) (k_0_6 : List api_Method) (k_0_8 : Int) (k_0_9 : List Int) (k_0_11 : List Int) (k_0_13 : Int) (k_0_14 : Bool) (k_0_15 : Int) (k_0_16 : Int) (k_0_17 : Int) (k_0_18 : List api_Instr) (k_0_20 : List Int) (l22 : List types_Row) (i_1 : api_Instr) (row_2 : (List Int)) (t28 : op_Shape × Bool) (t37 : (List Int)) (b46 : Bool) : Option (op_Shape × (List types_Row)) :=
  if b46 = true then ((types_look_named_s1.f k_0_2 k_0_4 k_0_6 k_0_8 k_0_9 k_0_11 k_0_13 k_0_14 k_0_15 k_0_16 k_0_17 k_0_18 k_0_20 l22 i_1).bind fun t47 => types_look_shape_s1.j1 k_0_2 k_0_4 k_0_6 k_0_8 k_0_9 k_0_11 k_0_13 k_0_14 k_0_15 k_0_16 k_0_17 k_0_18 k_0_20 l22 i_1 row_2 t47.2 [t47.1] t28.1.Gives) else (if i_1.Op = 30 then ((elt k_0_6 i_1.A).bind fun x52 => (elt k_0_6 i_1.A).bind fun x60 => types_look_shape_s1.j1 k_0_2 k_0_4 k_0_6 k_0_8 k_0_9 k_0_11 k_0_13 k_0_14 k_0_15 k_0_16 k_0_17 k_0_18 k_0_20 l22 i_1 row_2 l22 x52.Args [x60.Result]) else (if i_1.Op = 31 then (types_look_shape_s1.j1 k_0_2 k_0_4 k_0_6 k_0_8 k_0_9 k_0_11 k_0_13 k_0_14 k_0_15 k_0_16 k_0_17 k_0_18 k_0_20 l22 i_1 row_2 l22 [k_0_13] t28.1.Gives) else (if i_1.Op = 8 then (if t37.length < 4611686018427387904 then (if ([0].length + [0].length) * 1 ≤ 140737488355328 then (types_look_shape_s1.j1 k_0_2 k_0_4 k_0_6 k_0_8 k_0_9 k_0_11 k_0_13 k_0_14 k_0_15 k_0_16 k_0_17 k_0_18 k_0_20 l22 i_1 row_2 l22 ([0] ++ [0]) t37.reverse) else none) else none) else (if i_1.Op = 7 then (if (t37.length : Int) > 0 then (if (0 : Int) ≤ (IntKind.i64.wrap ((t37.length : Int) - 1)) ∧ (IntKind.i64.wrap ((t37.length : Int) - 1)) ≤ (t37.length : Int) then ((slices_Repeat_uint8_uint8.f (t37.drop (IntKind.i64.wrap ((t37.length : Int) - 1) : Int).toNat) 2).bind fun t5296 => types_look_shape_s1.j2 k_0_2 k_0_4 k_0_6 k_0_8 k_0_9 k_0_11 k_0_13 k_0_14 k_0_15 k_0_16 k_0_17 k_0_18 k_0_20 l22 i_1 row_2 t28 t5296) else none) else (types_look_shape_s1.j2 k_0_2 k_0_4 k_0_6 k_0_8 k_0_9 k_0_11 k_0_13 k_0_14 k_0_15 k_0_16 k_0_17 k_0_18 k_0_20 l22 i_1 row_2 t28 t28.1.Gives)) else (types_look_shape_s1.j2 k_0_2 k_0_4 k_0_6 k_0_8 k_0_9 k_0_11 k_0_13 k_0_14 k_0_15 k_0_16 k_0_17 k_0_18 k_0_20 l22 i_1 row_2 t28 t28.1.Gives)))))
def types_look_shape_s1.j3 (k_0_2 : List api_Value) (k_0_4 : List api_Value) (k_0_6 : List api_Method) (k_0_8 : Int) (k_0_9 : List Int) (k_0_11 : List Int) (k_0_13 : Int) (k_0_14 : Bool) (k_0_15 : Int) (k_0_16 : Int) (k_0_17 : Int) (k_0_18 : List api_Instr) (k_0_20 : List Int) (l22 : List types_Row) (i_1 : api_Instr) (row_2 : (List Int)) (t28 : op_Shape × Bool) (t37 : (List Int)) (b42 : Bool) : Option (op_Shape × (List types_Row)) :=
  if b42 = true then ((types_look_named_s1.f k_0_2 k_0_4 k_0_6 k_0_8 k_0_9 k_0_11 k_0_13 k_0_14 k_0_15 k_0_16 k_0_17 k_0_18 k_0_20 l22 i_1).bind fun t43 => types_look_shape_s1.j1 k_0_2 k_0_4 k_0_6 k_0_8 k_0_9 k_0_11 k_0_13 k_0_14 k_0_15 k_0_16 k_0_17 k_0_18 k_0_20 l22 i_1 row_2 t43.2 t28.1.Takes [t43.1]) else (if i_1.Op = 3 then (types_look_shape_s1.j4 k_0_2 k_0_4 k_0_6 k_0_8 k_0_9 k_0_11 k_0_13 k_0_14 k_0_15 k_0_16 k_0_17 k_0_18 k_0_20 l22 i_1 row_2 t28 t37 (decide (i_1.Op = 3))) else (types_look_shape_s1.j4 k_0_2 k_0_4 k_0_6 k_0_8 k_0_9 k_0_11 k_0_13 k_0_14 k_0_15 k_0_16 k_0_17 k_0_18 k_0_20 l22 i_1 row_2 t28 t37 (decide (i_1.Op = 5))))
def types_look_shape_s1.f (k_0_2 : List api_Value) (k_0_4 : List api_Value) (k_0_6 : List api_Method) (k_0_8 : Int) (k_0_9 : List Int) (k_0_11 : List Int) (k_0_13 : Int) (k_0_14 : Bool) (k_0_15 : Int) (k_0_16 : Int) (k_0_17 : Int) (k_0_18 : List api_Instr) (k_0_20 : List Int) (l22 : List types_Row) (i_1 : api_Instr) (row_2 : (List Int)) : Option (op_Shape × (List types_Row)) :=
  (op_Of.f i_1.Op).bind fun t28 => if t28.2 = true then (some (t28.1, l22)) else (if (0 : Int) ≤ (if (IntKind.i64.wrap ((row_2.length : Int) - 2)) > 0 then IntKind.i64.wrap ((row_2.length : Int) - 2) else 0) ∧ (if (IntKind.i64.wrap ((row_2.length : Int) - 2)) > 0 then IntKind.i64.wrap ((row_2.length : Int) - 2) else 0) ≤ (row_2.length : Int) then ((slices_Clone_uint8_uint8.f (row_2.drop (if (IntKind.i64.wrap ((row_2.length : Int) - 2)) > 0 then IntKind.i64.wrap ((row_2.length : Int) - 2) else 0 : Int).toNat)).bind fun t37 => if i_1.Op = 1 then (types_look_shape_s1.j3 k_0_2 k_0_4 k_0_6 k_0_8 k_0_9 k_0_11 k_0_13 k_0_14 k_0_15 k_0_16 k_0_17 k_0_18 k_0_20 l22 i_1 row_2 t28 t37 (decide (i_1.Op = 1))) else (if i_1.Op = 2 then (types_look_shape_s1.j3 k_0_2 k_0_4 k_0_6 k_0_8 k_0_9 k_0_11 k_0_13 k_0_14 k_0_15 k_0_16 k_0_17 k_0_18 k_0_20 l22 i_1 row_2 t28 t37 (decide (i_1.Op = 2))) else (types_look_shape_s1.j3 k_0_2 k_0_4 k_0_6 k_0_8 k_0_9 k_0_11 k_0_13 k_0_14 k_0_15 k_0_16 k_0_17 k_0_18 k_0_20 l22 i_1 row_2 t28 t37 (decide (i_1.Op = 4))))) else none)
theorem types_look_shape_s1.ok (k_0_2 : List api_Value) (k_0_4 : List api_Value) (k_0_6 : List api_Method) (k_0_8 : Int) (k_0_9 : List Int) (k_0_11 : List Int) (k_0_13 : Int) (k_0_14 : Bool) (k_0_15 k_0_16 k_0_17 : Int) (k_0_18 : List api_Instr) (k_0_20 : List Int) (l22 : List types_Row) (i_1 : api_Instr) (row_2 : (List Int)) (v_k_0_2 v_k_0_4 : Value) (v_k_0_6 v_k_0_9 : Value) (v_k_0_11 v_k_0_18 : Value) (v_k_0_20 v_row_2 : Value) (r : op_Shape × (List types_Row)) (H : types_look_shape_s1.f k_0_2 k_0_4 k_0_6 k_0_8 k_0_9 k_0_11 k_0_13 k_0_14 k_0_15 k_0_16 k_0_17 k_0_18 k_0_20 l22 i_1 row_2 = some r) (w : World) (hV : Hp) (sV : Sub hV (hp w)) (h0 : slR k_api_Value hV v_k_0_2 k_0_2) (h1 : slR k_api_Value hV v_k_0_4 k_0_4) (h2 : slR k_api_Method hV v_k_0_6 k_0_6) (h3 : slR (kInt .u8) hV v_k_0_9 k_0_9) (h4 : slR (kInt .u8) hV v_k_0_11 k_0_11) (h5 : slR k_api_Instr hV v_k_0_18 k_0_18) (h6 : slR (kInt .u8) hV v_k_0_20 k_0_20) (h7 : slR (kInt .u8) hV v_row_2 row_2) (b1 : Nat) (hA : Hp) (sA : Sub hA (hp w)) (dA : Dj hV hA) (hI : (arrK k_types_Row b1 [v_k_0_2, v_k_0_4, v_k_0_6, .int .i64 k_0_8, v_k_0_9, v_k_0_11, .int .u8 k_0_13, .bool k_0_14, .int .i64 k_0_15, .int .i64 k_0_16, .int .i64 k_0_17, v_k_0_18, v_k_0_20] 200 l22 [] 122).p hV hA) :
    Trip Tryz.prog 199 [.pointer (some ⟨b1, 0, none⟩), .agg #[.int .u8 i_1.Op, .int .i64 i_1.A, .int .i64 i_1.B], v_row_2].toArray hA hV w (fun v => HO.ex fun u0 : Value => HO.ex fun u1 : Value => HO.pand (v = .agg #[u0, u1]) (HO.seps [HO.ofP (slP (kInt .u8) u0 r.1.Takes), slO (kInt .u8) 5 u1 r.1.Gives, arrK k_types_Row b1 [v_k_0_2, v_k_0_4, v_k_0_6, .int .i64 k_0_8, v_k_0_9, v_k_0_11, .int .u8 k_0_13, .bool k_0_14, .int .i64 k_0_15, .int .i64 k_0_16, .int .i64 k_0_17, v_k_0_18, v_k_0_20] 200 r.2 [] 122])) := by
 have see : Sees w hA hV := ⟨sV, dA⟩
 refine Trip.of (P := Tryz.prog) (n := ⟨106, []⟩) Tryz.func199 rfl ⟨rfl, rfl⟩ rfl (St.beginA (os := [arrK k_types_Row b1 [v_k_0_2, v_k_0_4, v_k_0_6, .int .i64 k_0_8, v_k_0_9, v_k_0_11, .int .u8 k_0_13, .bool k_0_14, .int .i64 k_0_15, .int .i64 k_0_16, .int .i64 k_0_17, v_k_0_18, v_k_0_20] 200 l22 [] 122]) sA (aS h0 (aS h1 (aS h2 (aS h3 (aS h4 (aS h5 (aS h6 (aS h7 (All.nil _))))))))) ⟨hA, em, Dj.em_right _, Sub.refl _, Sub.em _, hI, trivial⟩) ?_
 have ho := H
 refine go ?_
 refine SP.box rfl rfl rfl rfl fun b24 => ?_
 refine SP.alloc (cs := [(.slice none 0 0), (.slice none 0 0)]) inf255 rfl rfl (fun b26 => go ?_)
 obtain ⟨t28, hc, ho⟩ := bind_some ho
 refine SP.callK see (caps := []) _ fn239 rfl rfl rfl rfl (fun w2 hP hs sub ap => op_Of.ok _  _ hc w2 hP sub ) (SP.k2 fun v29 v30 => ?_)
 clear hc
 refine go ?_
 refine SP.alloc (cs := [(.slice none 0 0), (.slice none 0 0)]) inf255 rfl rfl (fun b33 => ?_)
 refine SP.have (fun w2 hw => slO.shape (St.own 1 rfl see.sub see.dj hw)) (fun hs_v29 => ?_)
 refine SP.have (fun w2 hw => slO.shape (St.own 2 rfl see.sub see.dj hw)) (fun hs_v30 => ?_)
 refine SP.store (v := .agg #[v29, v30]) (vs := [v29, v30]) 0 (by rfl) sz255 (by rfl) (by rfl) (by rfl) (by rfl) (one_cons hs_v29 (one_cons hs_v30 (rfl))) (by rfl) (go ?_)
 refine CP.seq (go ?_)
 refine CP.cb ho (fun ho => ?_) fun ho => ?_
 ·refine go ?_
  refine SP.val (Val.loadA 0 rfl Tryz.underlying255 rfl sz255 rfl rfl rfl) rfl rfl rfl ?_
  refine SP.have (fun w2 hw => slO.shape (St.own 1 rfl see.sub see.dj hw)) (fun hs_v29 => ?_)
  refine SP.have (fun w2 hw => slO.shape (St.own 2 rfl see.sub see.dj hw)) (fun hs_v30 => ?_)
  refine SP.store (v := .agg #[v29, v30]) (vs := [v29, v30]) 3 (by rfl) sz255 (by rfl) (by rfl) (by rfl) (by rfl) (one_cons hs_v29 (one_cons hs_v30 (rfl))) (by rfl) (go ?_)
  obtain rfl := Option.some.inj ho
  exact QE.rt (fun _ h => St.selO [1, 4] rfl rfl (St.freezeS h 1 rfl see)) (rs := [.cell 6 255]) (vs := [.agg #[v29, v30]]) (hv := ⟨RVs.cellA 3 rfl rfl Tryz.underlying255 rfl sz255, trivial⟩) (hk := fun a b p s => ⟨_, _, rfl, ⟨em, _, Dj.em_left _, Sub.em _, Sub.refl _, p.get 0 rfl, s⟩⟩)
 refine go ?_
 refine SP.val (Val.max2 rfl rfl) rfl rfl rfl ?_
 obtain ⟨hz, ho⟩ := must_some ho
 refine SP.sliceFromP see 7 rfl Tryz.underlying31 sz5 rfl rfl hz rfl rfl (fun v35 => ?_)
 clear hz
 obtain ⟨t37, hc, ho⟩ := bind_some ho
 refine SP.callK see (caps := []) _ fn81 rfl rfl rfl rfl (fun w2 hP hs sub ap => slices_Clone_uint8_uint8.ok _ _ _ hc w2 hP sub (ap.get 0 rfl)) (SP.k1 fun v38 => ?_)
 clear hc
 refine go ?_
 refine SP.lit (k := (kInt .u8)) (xs := [0]) (vs := [.int .u8 0]) (cells := [.int .u8 0]) Tryz.underlying31 inf5 rfl rfl rfl rfl rfl rfl rfl rfl (fun _ ap => ⟨[.int .u8 0], _, rfl, rfl, rfl⟩) rfl rfl rfl (fun v40 => go ?_)
 refine CP.join (fun a w2 => ∃ l5302 : List types_Row, ∃ l5304 : List Int, ∃ l5307 : List Int, ∃ v5305 : Value, ∃ v5308 : Value, types_look_shape_s1.j1 k_0_2 k_0_4 k_0_6 k_0_8 k_0_9 k_0_11 k_0_13 k_0_14 k_0_15 k_0_16 k_0_17 k_0_18 k_0_20 l22 i_1 row_2 l5302 l5304 l5307 = some r ∧ Env ⟨106, []⟩ [(6, .pointer (some ⟨b26, 0, none⟩)), (7, .pointer (some ⟨b33, 0, none⟩))] a ∧ St w hA hV [slP (kInt .u8) v5305 l5304, slP k_api_Value v_k_0_2 k_0_2, slP k_api_Value v_k_0_4 k_0_4, slP k_api_Method v_k_0_6 k_0_6, slP (kInt .u8) v_k_0_9 k_0_9, slP (kInt .u8) v_k_0_11 k_0_11, slP k_api_Instr v_k_0_18 k_0_18, slP (kInt .u8) v_k_0_20 k_0_20] [slO (kInt .u8) 5 v5308 l5307, arrK k_types_Row b1 [v_k_0_2, v_k_0_4, v_k_0_6, .int .i64 k_0_8, v_k_0_9, v_k_0_11, .int .u8 k_0_13, .bool k_0_14, .int .i64 k_0_15, .int .i64 k_0_16, .int .i64 k_0_17, v_k_0_18, v_k_0_20] 200 l5302 [] 122, boxO b33 [v5305, v5308] 255, boxO b26 [(.slice none 0 0), (.slice none 0 0)] 255] w2) ?_ ?_
 ·rintro a w2 ⟨l5302, l5304, l5307, v5305, v5308, ho, ha, hw⟩
  refine CP.app ha hw ?_
  clear ha hw a w2
  refine go ?_
  refine SP.val (Val.loadA 2 rfl Tryz.underlying255 rfl sz255 rfl rfl rfl) rfl rfl rfl ?_
  refine SP.have (fun w2 hw => slR.shape (St.pers 0 rfl see.sub see.dj hw)) (fun hs_v5305 => ?_)
  refine SP.have (fun w2 hw => slO.shape (St.own 0 rfl see.sub see.dj hw)) (fun hs_v5308 => ?_)
  refine SP.store (v := .agg #[v5305, v5308]) (vs := [v5305, v5308]) 3 (by rfl) sz255 (by rfl) (by rfl) (by rfl) (by rfl) (one_cons hs_v5305 (one_cons hs_v5308 (rfl))) (by rfl) (go ?_)
  obtain rfl := Option.some.inj ho
  exact QE.rt (fun _ h => St.selO [0, 1] rfl rfl h) (rs := [.cell 6 255]) (vs := [.agg #[v5305, v5308]]) (hv := ⟨RVs.cellA 3 rfl rfl Tryz.underlying255 rfl sz255, trivial⟩) (hk := fun a b p s => ⟨_, _, rfl, ⟨em, _, Dj.em_left _, Sub.em _, Sub.refl _, p.get 0 rfl, s⟩⟩)
 refine go ?_
 refine CP.join (fun a w2 => ∃ l5300 : List Int, ∃ v5301 : Value, types_look_shape_s1.j2 k_0_2 k_0_4 k_0_6 k_0_8 k_0_9 k_0_11 k_0_13 k_0_14 k_0_15 k_0_16 k_0_17 k_0_18 k_0_20 l22 i_1 row_2 t28 l5300 = some r ∧ Env ⟨106, []⟩ [(6, .pointer (some ⟨b26, 0, none⟩)), (7, .pointer (some ⟨b33, 0, none⟩)), (10, v40)] a ∧ St w hA hV [slP k_api_Value v_k_0_2 k_0_2, slP k_api_Value v_k_0_4 k_0_4, slP k_api_Method v_k_0_6 k_0_6, slP (kInt .u8) v_k_0_9 k_0_9, slP (kInt .u8) v_k_0_11 k_0_11, slP k_api_Instr v_k_0_18 k_0_18, slP (kInt .u8) v_k_0_20 k_0_20] [slO (kInt .u8) 5 v5301 l5300, slO (kInt .u8) 5 v40 [0], boxO b33 [v29, v5301] 255, slO (kInt .u8) 5 v29 t28.1.Takes, boxO b26 [(.slice none 0 0), (.slice none 0 0)] 255, arrK k_types_Row b1 [v_k_0_2, v_k_0_4, v_k_0_6, .int .i64 k_0_8, v_k_0_9, v_k_0_11, .int .u8 k_0_13, .bool k_0_14, .int .i64 k_0_15, .int .i64 k_0_16, .int .i64 k_0_17, v_k_0_18, v_k_0_20] 200 l22 [] 122] w2) ?_ ?_
 ·rintro a w2 ⟨l5300, v5301, ho, ha, hw⟩
  refine CP.app ha hw ?_
  clear ha hw a w2
  refine go ?_
  refine SP.have (fun w2 hw => slO.shape (St.own 1 rfl see.sub see.dj hw)) (fun hs_v40 => ?_)
  refine SP.store (v := v40) (vs := [v40]) 2 (by rfl) sz31 (by rfl) (by rfl) (by rfl) (one_cells hs_v40) (one_cons hs_v40 (rfl)) (by rfl) (go ?_)
  exact QE.meet fun a w2 ha hw => ⟨l22, [0], l5300, v40, v5301, ho, ha.sub sb, (St.selO [0, 4, 1, 3] rfl rfl (St.freezeS hw 1 rfl see))⟩
 refine go ?_
 refine CP.seq (go ?_)
 refine CP.seq (go ?_)
 refine CP.seq (go ?_)
 refine CP.seq (go ?_)
 refine CP.seq (go ?_)
 refine CP.seq (go ?_)
 refine CP.seq ?_
 refine CP.seq ?_
 refine CP.join (fun a w2 => ∃ b42 : Bool, types_look_shape_s1.j3 k_0_2 k_0_4 k_0_6 k_0_8 k_0_9 k_0_11 k_0_13 k_0_14 k_0_15 k_0_16 k_0_17 k_0_18 k_0_20 l22 i_1 row_2 t28 t37 b42 = some r ∧ Env ⟨106, []⟩ [(0, .pointer (some ⟨b1, 0, none⟩)), (4, .pointer (some ⟨b24, 0, none⟩)), (6, .pointer (some ⟨b26, 0, none⟩)), (7, .pointer (some ⟨b33, 0, none⟩)), (9, v38), (10, v40), (28, .int .u8 i_1.Op), (29, .bool b42)] a ∧ St w hA hV [slP k_api_Value v_k_0_2 k_0_2, slP k_api_Value v_k_0_4 k_0_4, slP k_api_Method v_k_0_6 k_0_6, slP (kInt .u8) v_k_0_9 k_0_9, slP (kInt .u8) v_k_0_11 k_0_11, slP k_api_Instr v_k_0_18 k_0_18, slP (kInt .u8) v_k_0_20 k_0_20] [slO (kInt .u8) 5 v40 [0], slO (kInt .u8) 5 v38 t37, boxO b33 [v29, v30] 255, slO (kInt .u8) 5 v29 t28.1.Takes, slO (kInt .u8) 5 v30 t28.1.Gives, boxO b26 [(.slice none 0 0), (.slice none 0 0)] 255, boxO b24 [.int .u8 i_1.Op, .int .i64 i_1.A, .int .i64 i_1.B] 43, arrK k_types_Row b1 [v_k_0_2, v_k_0_4, v_k_0_6, .int .i64 k_0_8, v_k_0_9, v_k_0_11, .int .u8 k_0_13, .bool k_0_14, .int .i64 k_0_15, .int .i64 k_0_16, .int .i64 k_0_17, v_k_0_18, v_k_0_20] 200 l22 [] 122] w2) ?_ ?_
 ·rintro a w2 ⟨b42, ho, ha, hw⟩
  refine CP.app ha hw ?_
  clear ha hw a w2
  refine CP.cb ho (fun ho => ?_) fun ho => ?_
  ·refine go ?_
   refine SP.val (Val.loadA 6 rfl Tryz.underlying43 rfl sz43 rfl rfl rfl) rfl rfl rfl ?_
   refine SP.imp (fun w2 hw => St.selO [7, 0, 1, 2, 3, 4, 5, 6] rfl rfl hw) ?_
   obtain ⟨t43, hc, ho⟩ := bind_some ho
   refine SP.callA see (caps := []) _ fn240 rfl rfl rfl rfl (fun w2 hP h1 sub s1 d1 ap hI => types_look_named_s1.ok _ _ _ _ _ _ _ _ _ _ _ _ _ _ _ _ _ _ _ _ _ _ _ hc w2 hP sub (ap.get 0 rfl) (ap.get 1 rfl) (ap.get 2 rfl) (ap.get 3 rfl) (ap.get 4 rfl) (ap.get 5 rfl) (ap.get 6 rfl) _ h1 s1 d1 hI) (SP.k0 ?_)
   clear hc
   refine SP.lit (k := (kInt .u8)) (xs := [t43.1]) (vs := [.int .u8 t43.1]) (cells := [.int .u8 t43.1]) Tryz.underlying31 inf5 rfl rfl rfl rfl rfl rfl rfl rfl (fun _ ap => ⟨[.int .u8 t43.1], _, rfl, rfl, rfl⟩) rfl rfl rfl (fun v44 => go ?_)
   refine SP.have (fun w2 hw => slO.shape (St.own 0 rfl see.sub see.dj hw)) (fun hs_v44 => ?_)
   refine SP.store (v := v44) (vs := [v44]) 4 (by rfl) sz31 (by rfl) (by rfl) (by rfl) (one_cells hs_v44) (one_cons hs_v44 (rfl)) (by rfl) (go ?_)
   exact QE.meet fun a w2 ha hw => ⟨t43.2, t28.1.Takes, [t43.1], v29, v44, ho, ha.sub sb, (St.selO [0, 1, 4, 6] rfl rfl (St.freezeS hw 5 rfl see))⟩
  refine go ?_
  refine CP.seq ?_
  refine CP.join (fun a w2 => ∃ b46 : Bool, types_look_shape_s1.j4 k_0_2 k_0_4 k_0_6 k_0_8 k_0_9 k_0_11 k_0_13 k_0_14 k_0_15 k_0_16 k_0_17 k_0_18 k_0_20 l22 i_1 row_2 t28 t37 b46 = some r ∧ Env ⟨106, []⟩ [(0, .pointer (some ⟨b1, 0, none⟩)), (4, .pointer (some ⟨b24, 0, none⟩)), (6, .pointer (some ⟨b26, 0, none⟩)), (7, .pointer (some ⟨b33, 0, none⟩)), (9, v38), (10, v40), (28, .int .u8 i_1.Op), (33, .bool b46)] a ∧ St w hA hV [slP k_api_Value v_k_0_2 k_0_2, slP k_api_Value v_k_0_4 k_0_4, slP k_api_Method v_k_0_6 k_0_6, slP (kInt .u8) v_k_0_9 k_0_9, slP (kInt .u8) v_k_0_11 k_0_11, slP k_api_Instr v_k_0_18 k_0_18, slP (kInt .u8) v_k_0_20 k_0_20] [slO (kInt .u8) 5 v40 [0], slO (kInt .u8) 5 v38 t37, boxO b33 [v29, v30] 255, slO (kInt .u8) 5 v29 t28.1.Takes, slO (kInt .u8) 5 v30 t28.1.Gives, boxO b26 [(.slice none 0 0), (.slice none 0 0)] 255, boxO b24 [.int .u8 i_1.Op, .int .i64 i_1.A, .int .i64 i_1.B] 43, arrK k_types_Row b1 [v_k_0_2, v_k_0_4, v_k_0_6, .int .i64 k_0_8, v_k_0_9, v_k_0_11, .int .u8 k_0_13, .bool k_0_14, .int .i64 k_0_15, .int .i64 k_0_16, .int .i64 k_0_17, v_k_0_18, v_k_0_20] 200 l22 [] 122] w2) ?_ ?_
  ·rintro a w2 ⟨b46, ho, ha, hw⟩
   refine CP.app ha hw ?_
   clear ha hw a w2
   refine CP.cb ho (fun ho => ?_) fun ho => ?_
   ·refine go ?_
    refine SP.val (Val.loadA 6 rfl Tryz.underlying43 rfl sz43 rfl rfl rfl) rfl rfl rfl ?_
    refine SP.imp (fun w2 hw => St.selO [7, 0, 1, 2, 3, 4, 5, 6] rfl rfl hw) ?_
    obtain ⟨t47, hc, ho⟩ := bind_some ho
    refine SP.callA see (caps := []) _ fn240 rfl rfl rfl rfl (fun w2 hP h1 sub s1 d1 ap hI => types_look_named_s1.ok _ _ _ _ _ _ _ _ _ _ _ _ _ _ _ _ _ _ _ _ _ _ _ hc w2 hP sub (ap.get 0 rfl) (ap.get 1 rfl) (ap.get 2 rfl) (ap.get 3 rfl) (ap.get 4 rfl) (ap.get 5 rfl) (ap.get 6 rfl) _ h1 s1 d1 hI) (SP.k0 ?_)
    clear hc
    refine SP.lit (k := (kInt .u8)) (xs := [t47.1]) (vs := [.int .u8 t47.1]) (cells := [.int .u8 t47.1]) Tryz.underlying31 inf5 rfl rfl rfl rfl rfl rfl rfl rfl (fun _ ap => ⟨[.int .u8 t47.1], _, rfl, rfl, rfl⟩) rfl rfl rfl (fun v48 => go ?_)
    refine SP.have (fun w2 hw => slO.shape (St.own 0 rfl see.sub see.dj hw)) (fun hs_v48 => ?_)
    refine SP.store (v := v48) (vs := [v48]) 4 (by rfl) sz31 (by rfl) (by rfl) (by rfl) (one_cells hs_v48) (one_cons hs_v48 (rfl)) (by rfl) (go ?_)
    exact QE.meet fun a w2 ha hw => ⟨t47.2, [t47.1], t28.1.Gives, v48, v30, ho, ha.sub sb, (St.selO [5, 0, 3, 6] rfl rfl (St.freezeS hw 0 rfl see))⟩
   refine go ?_
   refine CP.seq (go ?_)
   refine CP.ci ho (fun ho => ?_) fun ho => ?_
   ·refine go ?_
    refine CP.seq ?_
    refine CP.drawA (by kernel_rfl) (fun w2 k h => h.drawn k) ?_
    obtain ⟨x52, hx, ho⟩ := elt_bind ho
    refine DA.ghost (fun w2 h => h.elem see 2 rfl hx.1 hx.2) (fun p50 h_p50 => ?_)
    clear hx
    refine DA.ghost (fun w2 h => h.fieldE see 0 rfl k_api_Method.part_Args) (fun p53 h_p53 => ?_)
    refine DA.ghost (fun w2 h => h.openE see 0 rfl (fun (v55 : Value) => [v55]) (fun (v55 : Value) => [slP (kInt .u8) v55 x52.Args]) (fun h cs ⟨v55, e, p0⟩ => ⟨v55, e, All.cons p0 (All.nil _)⟩)) (fun z_ _ => ?_)
    rename Value => v55
    obtain ⟨x60, hx, ho⟩ := elt_bind ho
    refine DA.ghost (fun w2 h => h.elem see 6 rfl hx.1 hx.2) (fun p58 h_p58 => ?_)
    clear hx
    refine DA.ghost (fun w2 h => h.fieldE see 0 rfl k_api_Method.part_Result) (fun p61 h_p61 => ?_)
    refine DA.ghost (fun w2 h => h.openE see 0 rfl (fun _ : Unit => [.int .u8 x60.Result]) (fun _ => []) (fun h cs e => ⟨(), e, All.nil _⟩)) (fun _ _ => ?_)
    refine (DA.phase (fun i => Nat.ble 0 i && Nat.blt i 23) (fun w2 => St w hA hV [atP p61 [.int .u8 x60.Result], elP (kInt .u8) p61 x60.Result, elP k_api_Method p58 x60, atP p53 [v55], slP (kInt .u8) v55 x52.Args, elP (kSl (kInt .u8)) p53 x52.Args, elP k_api_Method p50 x52, slP k_api_Value v_k_0_2 k_0_2, slP k_api_Value v_k_0_4 k_0_4, slP k_api_Method v_k_0_6 k_0_6, slP (kInt .u8) v_k_0_9 k_0_9, slP (kInt .u8) v_k_0_11 k_0_11, slP k_api_Instr v_k_0_18 k_0_18, slP (kInt .u8) v_k_0_20 k_0_20] [slO (kInt .u8) 5 v40 [0], slO (kInt .u8) 5 v38 t37, slO (kInt .u8) 5 v29 t28.1.Takes, slO (kInt .u8) 5 v30 t28.1.Gives, boxO b26 [(.slice none 0 0), (.slice none 0 0)] 255, boxO b24 [.int .u8 i_1.Op, .int .i64 i_1.A, .int .i64 i_1.B] 43, arrK k_types_Row b1 [v_k_0_2, v_k_0_4, v_k_0_6, .int .i64 k_0_8, v_k_0_9, v_k_0_11, .int .u8 k_0_13, .bool k_0_14, .int .i64 k_0_15, .int .i64 k_0_16, .int .i64 k_0_17, v_k_0_18, v_k_0_20] 200 l22 [] 122] w2) ?_)
    refine DT.ts 0 rfl (Val.move rfl) (fun w2 hw => (St.selO [0, 1, 3, 4, 5, 6, 7] rfl rfl hw)) ?_
    refine DT.ts 1 rfl (Val.nilCheck rfl) (fun w2 hw => (St.selO [0, 1, 3, 4, 5, 6, 7] rfl rfl hw)) ?_
    refine DT.ts 2 rfl (Val.fieldAddr Tryz.underlying122 rfl sz25 rfl) (fun w2 hw => (St.selO [0, 1, 3, 4, 5, 6, 7] rfl rfl hw)) ?_
    refine DT.ts 3 rfl (Val.fieldAddr Tryz.underlying25 rfl sz23 rfl) (fun w2 hw => (St.selO [0, 1, 3, 4, 5, 6, 7] rfl rfl hw)) ?_
    refine DT.ts 4 rfl (Val.loadKPre1 see 6 rfl Tryz.underlying23 rfl rfl rfl) (fun w2 hw => (St.selO [0, 1, 3, 4, 5, 6, 7] rfl rfl hw)) ?_
    refine DT.ts 5 rfl (Val.fieldAddr Tryz.underlying43 rfl sz3 rfl) (fun w2 hw => (St.selO [0, 1, 3, 4, 5, 6, 7] rfl rfl hw)) ?_
    refine DT.ts 6 rfl (Val.load1 5 rfl Tryz.underlying3 rfl rfl rfl) (fun w2 hw => (St.selO [0, 1, 3, 4, 5, 6, 7] rfl rfl hw)) ?_
    refine DT.ts 7 rfl (Val.indexE h_p50 Tryz.underlying23 sz34 rfl rfl) (fun w2 hw => (St.selO [0, 1, 3, 4, 5, 6, 7] rfl rfl hw)) ?_
    refine DT.ts 8 rfl (Val.fieldE h_p53 Tryz.underlying34 rfl rfl sz31 rfl) (fun w2 hw => (St.selO [0, 1, 3, 4, 5, 6, 7] rfl rfl hw)) ?_
    refine DT.ts 9 rfl (Val.loadAt1 see 3 rfl Tryz.underlying31 rfl rfl) (fun w2 hw => (St.selO [0, 1, 3, 4, 5, 6, 7] rfl rfl hw)) ?_
    refine DT.ts 10 rfl (Val.move rfl) (fun w2 hw => (St.selO [0, 1, 3, 4, 5, 6, 7] rfl rfl hw)) ?_
    refine DT.ts 11 rfl (Val.nilCheck rfl) (fun w2 hw => (St.selO [0, 1, 3, 4, 5, 6, 7] rfl rfl hw)) ?_
    refine DT.ts 12 rfl (Val.fieldAddr Tryz.underlying122 rfl sz25 rfl) (fun w2 hw => (St.selO [0, 1, 3, 4, 5, 6, 7] rfl rfl hw)) ?_
    refine DT.ts 13 rfl (Val.fieldAddr Tryz.underlying25 rfl sz23 rfl) (fun w2 hw => (St.selO [0, 1, 3, 4, 5, 6, 7] rfl rfl hw)) ?_
    refine DT.ts 14 rfl (Val.loadKPre1 see 6 rfl Tryz.underlying23 rfl rfl rfl) (fun w2 hw => (St.selO [0, 1, 3, 4, 5, 6, 7] rfl rfl hw)) ?_
    refine DT.ts 15 rfl (Val.fieldAddr Tryz.underlying43 rfl sz3 rfl) (fun w2 hw => (St.selO [0, 1, 3, 4, 5, 6, 7] rfl rfl hw)) ?_
    refine DT.ts 16 rfl (Val.load1 5 rfl Tryz.underlying3 rfl rfl rfl) (fun w2 hw => (St.selO [0, 1, 3, 4, 5, 6, 7] rfl rfl hw)) ?_
    refine DT.ts 17 rfl (Val.indexE h_p58 Tryz.underlying23 sz34 rfl rfl) (fun w2 hw => (St.selO [0, 1, 3, 4, 5, 6, 7] rfl rfl hw)) ?_
    refine DT.ts 18 rfl (Val.fieldE h_p61 Tryz.underlying34 rfl rfl sz5 rfl) (fun w2 hw => (St.selO [0, 1, 3, 4, 5, 6, 7] rfl rfl hw)) ?_
    refine DT.ts 19 rfl (Val.loadAt1 see 0 rfl Tryz.underlying5 rfl rfl) (fun w2 hw => (St.selO [0, 1, 3, 4, 5, 6, 7] rfl rfl hw)) ?_
    refine DT.ts 21 rfl (Val.fieldAddr Tryz.underlying255 rfl sz31 rfl) (fun w2 hw => (St.selO [0, 1, 3, 4, 5, 6, 7] rfl rfl hw)) ?_
    refine DT.list (l2 := #[true, true, true, true, true, true, true, true, true, true, true, true, true, true, true, true, true, true, true, true, false, true, false, false, false]) (by kernel_rfl) ?_
    refine DT.cut (ι := Value) (fun z => [(6, .pointer (some ⟨b26, 0, none⟩)), (7, .pointer (some ⟨b33, 0, none⟩)), (74, z)]) (fun z w2 => St w hA hV [atP p61 [.int .u8 x60.Result], elP (kInt .u8) p61 x60.Result, elP k_api_Method p58 x60, atP p53 [v55], slP (kInt .u8) v55 x52.Args, elP (kSl (kInt .u8)) p53 x52.Args, elP k_api_Method p50 x52, slP k_api_Value v_k_0_2 k_0_2, slP k_api_Value v_k_0_4 k_0_4, slP k_api_Method v_k_0_6 k_0_6, slP (kInt .u8) v_k_0_9 k_0_9, slP (kInt .u8) v_k_0_11 k_0_11, slP k_api_Instr v_k_0_18 k_0_18, slP (kInt .u8) v_k_0_20 k_0_20] [slO (kInt .u8) 5 z [x60.Result], slO (kInt .u8) 5 v40 [0], slO (kInt .u8) 5 v38 t37, boxO b33 [v55, v30] 255, slO (kInt .u8) 5 v29 t28.1.Takes, slO (kInt .u8) 5 v30 t28.1.Gives, boxO b26 [(.slice none 0 0), (.slice none 0 0)] 255, boxO b24 [.int .u8 i_1.Op, .int .i64 i_1.A, .int .i64 i_1.B] 43, arrK k_types_Row b1 [v_k_0_2, v_k_0_4, v_k_0_6, .int .i64 k_0_8, v_k_0_9, v_k_0_11, .int .u8 k_0_13, .bool k_0_14, .int .i64 k_0_15, .int .i64 k_0_16, .int .i64 k_0_17, v_k_0_18, v_k_0_20] 200 l22 [] 122] w2) 2 #[true, true, true, true, true, true, true, true, true, true, true, true, true, true, true, true, true, true, true, true, true, true, true, false, false] (fun z => ?_) (fun J5282 => ?_)
    ·rename Value => v4270
     refine DT.next (by kernel_rfl) ?_
     refine DA.one 23 rfl (by kernel_rfl) (go ?_)
     refine QE.atA ?_
     refine DA.one 24 rfl (by kernel_rfl) ?_
     refine SP.have (fun w2 hw => slO.shape (St.own 0 rfl see.sub see.dj hw)) (fun hs_v4270 => ?_)
     refine SP.store (v := v4270) (vs := [v4270]) 3 (by rfl) sz31 (by rfl) (by rfl) (by rfl) (one_cells hs_v4270) (one_cons hs_v4270 (rfl)) (by rfl) (go ?_)
     refine QE.atA ?_
     refine DA.done (by kernel_rfl) (go ?_)
     exact QE.meet fun a w2 ha hw => ⟨l22, x52.Args, [x60.Result], v55, v4270, ho, ha.sub sb, (St.selP [4, 7, 8, 9, 10, 11, 12, 13] rfl (St.selO [0, 8, 3, 6] rfl rfl hw))⟩
    refine DT.cut (ι := Value) (fun z => [(6, .pointer (some ⟨b26, 0, none⟩)), (7, .pointer (some ⟨b33, 0, none⟩)), (63, v55), (74, z), (75, .pointer (some ⟨b33, 0, none⟩))]) (fun z w2 => St w hA hV [atP p61 [.int .u8 x60.Result], elP (kInt .u8) p61 x60.Result, elP k_api_Method p58 x60, atP p53 [v55], slP (kInt .u8) v55 x52.Args, elP (kSl (kInt .u8)) p53 x52.Args, elP k_api_Method p50 x52, slP k_api_Value v_k_0_2 k_0_2, slP k_api_Value v_k_0_4 k_0_4, slP k_api_Method v_k_0_6 k_0_6, slP (kInt .u8) v_k_0_9 k_0_9, slP (kInt .u8) v_k_0_11 k_0_11, slP k_api_Instr v_k_0_18 k_0_18, slP (kInt .u8) v_k_0_20 k_0_20] [slO (kInt .u8) 5 z [x60.Result], slO (kInt .u8) 5 v40 [0], slO (kInt .u8) 5 v38 t37, boxO b33 [v29, v30] 255, slO (kInt .u8) 5 v29 t28.1.Takes, slO (kInt .u8) 5 v30 t28.1.Gives, boxO b26 [(.slice none 0 0), (.slice none 0 0)] 255, boxO b24 [.int .u8 i_1.Op, .int .i64 i_1.A, .int .i64 i_1.B] 43, arrK k_types_Row b1 [v_k_0_2, v_k_0_4, v_k_0_6, .int .i64 k_0_8, v_k_0_9, v_k_0_11, .int .u8 k_0_13, .bool k_0_14, .int .i64 k_0_15, .int .i64 k_0_16, .int .i64 k_0_17, v_k_0_18, v_k_0_20] 200 l22 [] 122] w2) 3 #[true, true, true, true, true, true, true, true, true, true, true, true, true, true, true, true, true, true, true, true, true, true, false, false, false] (fun z => ?_) (fun J5283 => ?_)
    ·rename Value => v4270
     refine DT.one 22 rfl (by kernel_rfl) rfl ?_
     refine SP.have (fun w2 hw => slR.shape (St.pers 4 rfl see.sub see.dj hw)) (fun hs_v55 => ?_)
     refine SP.store (v := v55) (vs := [v55]) 3 (by rfl) sz31 (by rfl) (by rfl) (by rfl) (one_cells hs_v55) (one_cons hs_v55 (rfl)) (by rfl) (go ?_)
     refine QE.atT (fun w2 hw => (St.selO [1, 2, 4, 5, 6, 7, 8] rfl rfl hw)) ?_
     refine DT.list (l2 := #[true, true, true, true, true, true, true, true, true, true, true, true, true, true, true, true, true, true, true, true, true, true, true, false, false]) (by kernel_rfl) ?_
     exact DT.weak (by exact ⟨rfl, rfl, rfl, trivial⟩) (by exact fun w2 hw => hw) (J5282 v4270)
    refine DT.cut (ι := Unit) (fun z => [(6, .pointer (some ⟨b26, 0, none⟩)), (7, .pointer (some ⟨b33, 0, none⟩)), (73, .int .u8 x60.Result)]) (fun z w2 => St w hA hV [atP p61 [.int .u8 x60.Result], elP (kInt .u8) p61 x60.Result, elP k_api_Method p58 x60, atP p53 [v55], slP (kInt .u8) v55 x52.Args, elP (kSl (kInt .u8)) p53 x52.Args, elP k_api_Method p50 x52, slP k_api_Value v_k_0_2 k_0_2, slP k_api_Value v_k_0_4 k_0_4, slP k_api_Method v_k_0_6 k_0_6, slP (kInt .u8) v_k_0_9 k_0_9, slP (kInt .u8) v_k_0_11 k_0_11, slP k_api_Instr v_k_0_18 k_0_18, slP (kInt .u8) v_k_0_20 k_0_20] [slO (kInt .u8) 5 v40 [0], slO (kInt .u8) 5 v38 t37, boxO b33 [v55, v30] 255, slO (kInt .u8) 5 v29 t28.1.Takes, slO (kInt .u8) 5 v30 t28.1.Gives, boxO b26 [(.slice none 0 0), (.slice none 0 0)] 255, boxO b24 [.int .u8 i_1.Op, .int .i64 i_1.A, .int .i64 i_1.B] 43, arrK k_types_Row b1 [v_k_0_2, v_k_0_4, v_k_0_6, .int .i64 k_0_8, v_k_0_9, v_k_0_11, .int .u8 k_0_13, .bool k_0_14, .int .i64 k_0_15, .int .i64 k_0_16, .int .i64 k_0_17, v_k_0_18, v_k_0_20] 200 l22 [] 122] w2) 3 #[true, true, true, true, true, true, true, true, true, true, true, true, true, true, true, true, true, true, true, true, false, true, true, false, false] (fun z => ?_) (fun J5284 => ?_)
    ·refine DT.one 20 rfl (by kernel_rfl) rfl ?_
     refine SP.lit (k := (kInt .u8)) (xs := [x60.Result]) (vs := [.int .u8 x60.Result]) (cells := [.int .u8 x60.Result]) Tryz.underlying31 inf5 rfl rfl rfl rfl rfl rfl rfl rfl (fun _ ap => ⟨[.int .u8 x60.Result], _, rfl, rfl, rfl⟩) rfl rfl rfl (fun v4270 => go ?_)
     refine QE.atT (fun w2 hw => (St.selO [1, 2, 4, 5, 6, 7, 8] rfl rfl hw)) ?_
     refine DT.list (l2 := #[true, true, true, true, true, true, true, true, true, true, true, true, true, true, true, true, true, true, true, true, true, true, true, false, false]) (by kernel_rfl) ?_
     exact DT.weak (by exact ⟨rfl, rfl, rfl, trivial⟩) (by exact fun w2 hw => hw) (J5282 v4270)
    refine DT.any 20 [22] (by kernel_rfl) ⟨⟨_, rfl, rfl, ?_⟩, ⟨_, rfl, rfl, ?_⟩, trivial⟩
    ·refine SP.lit (k := (kInt .u8)) (xs := [x60.Result]) (vs := [.int .u8 x60.Result]) (cells := [.int .u8 x60.Result]) Tryz.underlying31 inf5 rfl rfl rfl rfl rfl rfl rfl rfl (fun _ ap => ⟨[.int .u8 x60.Result], _, rfl, rfl, rfl⟩) rfl rfl rfl (fun v4270 => go ?_)
     refine QE.atT (fun w2 hw => (St.selO [1, 2, 4, 5, 6, 7, 8] rfl rfl hw)) ?_
     refine DT.list (l2 := #[true, true, true, true, true, true, true, true, true, true, true, true, true, true, true, true, true, true, true, true, true, true, false, false, false]) (by kernel_rfl) ?_
     exact DT.weak (by exact ⟨rfl, rfl, rfl, rfl, rfl, trivial⟩) (by exact fun w2 hw => hw) (J5283 v4270)
    refine SP.have (fun w2 hw => slR.shape (St.pers 4 rfl see.sub see.dj hw)) (fun hs_v55 => ?_)
    refine SP.store (v := v55) (vs := [v55]) 2 (by rfl) sz31 (by rfl) (by rfl) (by rfl) (one_cells hs_v55) (one_cons hs_v55 (rfl)) (by rfl) (go ?_)
    refine QE.atT (fun w2 hw => (St.selO [0, 1, 3, 4, 5, 6, 7] rfl rfl hw)) ?_
    refine DT.list (l2 := #[true, true, true, true, true, true, true, true, true, true, true, true, true, true, true, true, true, true, true, true, false, true, true, false, false]) (by kernel_rfl) ?_
    exact DT.weak (by exact ⟨rfl, rfl, rfl, trivial⟩) (by exact fun w2 hw => hw) (J5284 ())
   refine go ?_
   refine CP.seq (go ?_)
   refine CP.ci ho (fun ho => ?_) fun ho => ?_
   ·refine go ?_
    refine SP.val (Val.loadKPre1 see 7 rfl Tryz.underlying5 rfl rfl rfl) rfl rfl rfl ?_
    refine SP.lit (k := (kInt .u8)) (xs := [k_0_13]) (vs := [.int .u8 k_0_13]) (cells := [.int .u8 k_0_13]) Tryz.underlying31 inf5 rfl rfl rfl rfl rfl rfl rfl rfl (fun _ ap => ⟨[.int .u8 k_0_13], _, rfl, rfl, rfl⟩) rfl rfl rfl (fun v5287 => go ?_)
    refine SP.have (fun w2 hw => slO.shape (St.own 0 rfl see.sub see.dj hw)) (fun hs_v5287 => ?_)
    refine SP.store (v := v5287) (vs := [v5287]) 3 (by rfl) sz31 (by rfl) (by rfl) (by rfl) (one_cells hs_v5287) (one_cons hs_v5287 (rfl)) (by rfl) (go ?_)
    exact QE.meet fun a w2 ha hw => ⟨l22, [k_0_13], t28.1.Gives, v5287, v30, ho, ha.sub sb, (St.selO [4, 7, 2, 5] rfl rfl (St.freezeS hw 0 rfl see))⟩
   refine go ?_
   refine CP.seq (go ?_)
   refine CP.ci ho (fun ho => ?_) fun ho => ?_
   ·refine go ?_
    refine CP.seq (go ?_)
    refine SP.have (fun w2 hw => slO.shape (St.own 1 rfl see.sub see.dj hw)) (fun hs_v38 => ?_)
    refine SP.store (v := v38) (vs := [v38]) 2 (by rfl) sz31 (by rfl) (by rfl) (by rfl) (one_cells hs_v38) (one_cons hs_v38 (rfl)) (by rfl) (go ?_)
    refine SP.imp (fun w2 hw => St.selO [1, 0, 2, 3, 4, 5, 6, 7] rfl rfl hw) ?_
    obtain ⟨hb, ho⟩ := must_some ho
    refine SP.callA see (caps := []) (fun r => HO.pand (r = .tuple #[]) (HO.seps [slO (kInt .u8) 5 v38 t37.reverse])) fn241 rfl rfl rfl rfl (fun w2 hP h1 sub s1 d1 ap hI => reverse241_trip hb sub s1 d1 hI) (SP.k0 ?_)
    clear hb
    refine go ?_
    refine SP.lit (k := (kInt .u8)) (xs := [0]) (vs := [.int .u8 0]) (cells := [.int .u8 0]) Tryz.underlying31 inf5 rfl rfl rfl rfl rfl rfl rfl rfl (fun _ ap => ⟨[.int .u8 0], _, rfl, rfl, rfl⟩) rfl rfl rfl (fun v5290 => ?_)
    refine SP.freezeS see 0 rfl ?_
    obtain ⟨hb, ho⟩ := must_some ho
    refine SP.append see 1 rfl 0 rfl Tryz.underlying31 inf5 rfl rfl hb rfl rfl rfl rfl rfl (fun v5292 => ?_)
    clear hb
    refine go ?_
    refine SP.have (fun w2 hw => slO.shape (St.own 1 rfl see.sub see.dj hw)) (fun hs_v5292 => ?_)
    refine SP.store (v := v5292) (vs := [v5292]) 2 (by rfl) sz31 (by rfl) (by rfl) (by rfl) (one_cells hs_v5292) (one_cons hs_v5292 (rfl)) (by rfl) (go ?_)
    exact QE.meet fun a w2 ha hw => ⟨l22, ([0] ++ [0]), t37.reverse, v5292, v38, ho, ha.sub sb, (St.selP [0, 2, 3, 4, 5, 6, 7, 8] rfl (St.selO [0, 6, 1, 4] rfl rfl (St.freezeS hw 1 rfl see)))⟩
   refine go ?_
   refine CP.ci ho (fun ho => ?_) fun ho => ?_
   ·refine go ?_
    refine SP.val (Val.lenW (fun w2 hw => slO.whole (St.own 1 rfl see.sub see.dj hw)) Tryz.underlying31 rfl) rfl rfl rfl (go ?_)
    refine CP.ci ho (fun ho => ?_) fun ho => ?_
    ·refine go ?_
     refine SP.val (Val.lenW (fun w2 hw => slO.whole (St.own 1 rfl see.sub see.dj hw)) Tryz.underlying31 rfl) rfl rfl rfl (go ?_)
     refine SP.freezeS see 1 rfl ?_
     obtain ⟨hz, ho⟩ := must_some ho
     refine SP.sliceFromP see 0 rfl Tryz.underlying31 sz5 rfl rfl hz rfl rfl (fun v5294 => ?_)
     clear hz
     obtain ⟨t5296, hc, ho⟩ := bind_some ho
     refine SP.callK see (caps := []) _ fn242 rfl rfl rfl rfl (fun w2 hP hs sub ap => slices_Repeat_uint8_uint8.ok _ _ _ _ hc w2 hP sub (ap.get 0 rfl)) (SP.k1 fun v5297 => ?_)
     clear hc
     refine go ?_
     refine SP.have (fun w2 hw => slO.shape (St.own 0 rfl see.sub see.dj hw)) (fun hs_v5297 => ?_)
     refine SP.store (v := v5297) (vs := [v5297]) 2 (by rfl) sz31 (by rfl) (by rfl) (by rfl) (one_cells hs_v5297) (one_cons hs_v5297 (rfl)) (by rfl) (go ?_)
     exact QE.meet fun a w2 ha hw => ⟨t5296, v5297, ho, ha.sub sb, (St.selP [2, 3, 4, 5, 6, 7, 8] rfl (St.selO [0, 1, 2, 3, 5, 7] rfl rfl hw))⟩
    refine go ?_
    exact QE.meet fun a w2 ha hw => ⟨t28.1.Gives, v30, ho, ha.sub sb, (St.selO [4, 0, 2, 3, 5, 7] rfl rfl hw)⟩
   refine go ?_
   exact QE.meet fun a w2 ha hw => ⟨t28.1.Gives, v30, ho, ha.sub sb, (St.selO [4, 0, 2, 3, 5, 7] rfl rfl hw)⟩
  refine go ?_
  refine CP.ci ho (fun ho => ?_) fun ho => ?_
  ·refine go ?_
   exact QE.meet fun a w2 ha hw => ⟨(decide (i_1.Op = 3)), ho, ha.sub sb, hw⟩
  refine go ?_
  exact QE.meet fun a w2 ha hw => ⟨(decide (i_1.Op = 5)), ho, ha.sub sb, hw⟩
 refine go ?_
 refine CP.ci ho (fun ho => ?_) fun ho => ?_
 ·refine go ?_
  exact QE.meet fun a w2 ha hw => ⟨(decide (i_1.Op = 1)), ho, ha.sub sb, (St.selP [1, 2, 3, 4, 5, 6, 7] rfl hw)⟩
 refine go ?_
 refine CP.ci ho (fun ho => ?_) fun ho => ?_
 ·refine go ?_
  exact QE.meet fun a w2 ha hw => ⟨(decide (i_1.Op = 2)), ho, ha.sub sb, (St.selP [1, 2, 3, 4, 5, 6, 7] rfl hw)⟩
 refine go ?_
 exact QE.meet fun a w2 ha hw => ⟨(decide (i_1.Op = 4)), ho, ha.sub sb, (St.selP [1, 2, 3, 4, 5, 6, 7] rfl hw)⟩
inductive types_look_after_s1.S where
  | start
  | l1 (t26 : op_Shape × (List types_Row)) (x60 : Int)
def types_look_after_s1.F (k_0_2 : List api_Value) (k_0_4 : List api_Value) (k_0_6 : List api_Method) (k_0_8 : Int) (k_0_9 : List Int) (k_0_11 : List Int) (k_0_13 : Int) (k_0_14 : Bool) (k_0_15 : Int) (k_0_16 : Int) (k_0_17 : Int) (k_0_18 : List api_Instr) (k_0_20 : List Int) (l22 : List types_Row) (i_1 : api_Instr) (row_2 : (List Int)) : types_look_after_s1.S → Option (types_look_after_s1.S ⊕ (((List Int) × Int) × (List types_Row)))
  | .start => (types_look_shape_s1.f k_0_2 k_0_4 k_0_6 k_0_8 k_0_9 k_0_11 k_0_13 k_0_14 k_0_15 k_0_16 k_0_17 k_0_18 k_0_20 l22 i_1 row_2).bind fun t26 => if (IntKind.i64.wrap ((row_2.length : Int) - (t26.1.Takes.length : Int))) < 0 then (some (.inr (([], 101), t26.2))) else (some (.inl (.l1 t26 0)))
  | .l1 t26 x60 => if x60 < (t26.1.Takes.length : Int) then ((elt t26.1.Takes x60).bind fun x64 => (if x64 ≠ 0 then ((elt row_2 (IntKind.i64.wrap ((IntKind.i64.wrap ((row_2.length : Int) - (t26.1.Takes.length : Int))) + x60))).bind fun x69 => some (decide (x64 ≠ x69))) else (some false)).bind fun t70 => if t70 = true then (some (.inr (([], 100), t26.2))) else (some (.inl (.l1 t26 (IntKind.i64.wrap (x60 + 1)))))) else (if (0 : Int) ≤ (IntKind.i64.wrap ((row_2.length : Int) - (t26.1.Takes.length : Int))) ∧ (IntKind.i64.wrap ((row_2.length : Int) - (t26.1.Takes.length : Int))) ≤ (row_2.length : Int) then ((slices_Concat_uint8_uint8.f [(row_2.take (IntKind.i64.wrap ((row_2.length : Int) - (t26.1.Takes.length : Int)) : Int).toNat), t26.1.Gives]).bind fun t84 => some (.inr ((t84, 0), t26.2))) else none)
def types_look_after_s1.f (k_0_2 : List api_Value) (k_0_4 : List api_Value) (k_0_6 : List api_Method) (k_0_8 : Int) (k_0_9 : List Int) (k_0_11 : List Int) (k_0_13 : Int) (k_0_14 : Bool) (k_0_15 : Int) (k_0_16 : Int) (k_0_17 : Int) (k_0_18 : List api_Instr) (k_0_20 : List Int) (l22 : List types_Row) (i_1 : api_Instr) (row_2 : (List Int)) : Option (((List Int) × Int) × (List types_Row)) := runF (types_look_after_s1.F k_0_2 k_0_4 k_0_6 k_0_8 k_0_9 k_0_11 k_0_13 k_0_14 k_0_15 k_0_16 k_0_17 k_0_18 k_0_20 l22 i_1 row_2) .start
theorem types_look_after_s1.ok (k_0_2 : List api_Value) (k_0_4 : List api_Value) (k_0_6 : List api_Method) (k_0_8 : Int) (k_0_9 : List Int) (k_0_11 : List Int) (k_0_13 : Int) (k_0_14 : Bool) (k_0_15 k_0_16 k_0_17 : Int) (k_0_18 : List api_Instr) (k_0_20 : List Int) (l22 : List types_Row) (i_1 : api_Instr) (row_2 : (List Int)) (v_k_0_2 v_k_0_4 : Value) (v_k_0_6 v_k_0_9 : Value) (v_k_0_11 v_k_0_18 : Value) (v_k_0_20 v_row_2 : Value) (r : ((List Int) × Int) × (List types_Row)) (H : types_look_after_s1.f k_0_2 k_0_4 k_0_6 k_0_8 k_0_9 k_0_11 k_0_13 k_0_14 k_0_15 k_0_16 k_0_17 k_0_18 k_0_20 l22 i_1 row_2 = some r) (w : World) (hV : Hp) (sV : Sub hV (hp w)) (h0 : slR k_api_Value hV v_k_0_2 k_0_2) (h1 : slR k_api_Value hV v_k_0_4 k_0_4) (h2 : slR k_api_Method hV v_k_0_6 k_0_6) (h3 : slR (kInt .u8) hV v_k_0_9 k_0_9) (h4 : slR (kInt .u8) hV v_k_0_11 k_0_11) (h5 : slR k_api_Instr hV v_k_0_18 k_0_18) (h6 : slR (kInt .u8) hV v_k_0_20 k_0_20) (h7 : slR (kInt .u8) hV v_row_2 row_2) (b1 : Nat) (hA : Hp) (sA : Sub hA (hp w)) (dA : Dj hV hA) (hI : (arrK k_types_Row b1 [v_k_0_2, v_k_0_4, v_k_0_6, .int .i64 k_0_8, v_k_0_9, v_k_0_11, .int .u8 k_0_13, .bool k_0_14, .int .i64 k_0_15, .int .i64 k_0_16, .int .i64 k_0_17, v_k_0_18, v_k_0_20] 200 l22 [] 122).p hV hA) :
    Trip Tryz.prog 136 [.pointer (some ⟨b1, 0, none⟩), .agg #[.int .u8 i_1.Op, .int .i64 i_1.A, .int .i64 i_1.B], v_row_2].toArray hA hV w (fun v => HO.ex fun u0 : Value => HO.pand (v = .tuple #[u0, .int .i64 r.1.2]) (HO.seps [slO (kInt .u8) 5 u0 r.1.1, arrK k_types_Row b1 [v_k_0_2, v_k_0_4, v_k_0_6, .int .i64 k_0_8, v_k_0_9, v_k_0_11, .int .u8 k_0_13, .bool k_0_14, .int .i64 k_0_15, .int .i64 k_0_16, .int .i64 k_0_17, v_k_0_18, v_k_0_20] 200 r.2 [] 122])) := by
 have see : Sees w hA hV := ⟨sV, dA⟩
 refine Trip.of (P := Tryz.prog) (n := ⟨52, []⟩) Tryz.func136 rfl ⟨rfl, rfl⟩ rfl (St.beginA (os := [arrK k_types_Row b1 [v_k_0_2, v_k_0_4, v_k_0_6, .int .i64 k_0_8, v_k_0_9, v_k_0_11, .int .u8 k_0_13, .bool k_0_14, .int .i64 k_0_15, .int .i64 k_0_16, .int .i64 k_0_17, v_k_0_18, v_k_0_20] 200 l22 [] 122]) sA (aS h0 (aS h1 (aS h2 (aS h3 (aS h4 (aS h5 (aS h6 (aS h7 (All.nil _))))))))) ⟨hA, em, Dj.em_right _, Sub.refl _, Sub.em _, hI, trivial⟩) ?_
 obtain ⟨n0, hi⟩ := runF_iff.1 H
 obtain ⟨m0, o, hm0, ho, hr⟩ := iter_some hi
 clear hi
 refine go ?_
 refine SP.box rfl rfl rfl rfl fun b24 => go ?_
 refine SP.val (Val.loadA 0 rfl Tryz.underlying43 rfl sz43 rfl rfl rfl) rfl rfl rfl (go ?_)
 refine SP.imp (fun w2 hw => St.selO [1, 0] rfl rfl hw) ?_
 obtain ⟨t26, hc, ho⟩ := bind_some ho
 refine SP.callA see (caps := []) _ fn199 rfl rfl rfl rfl (fun w2 hP h1 sub s1 d1 ap hI => types_look_shape_s1.ok _ _ _ _ _ _ _ _ _ _ _ _ _ _ _ _ _ _ _ _ _ _ _ _ _ hc w2 hP sub (ap.get 0 rfl) (ap.get 1 rfl) (ap.get 2 rfl) (ap.get 3 rfl) (ap.get 4 rfl) (ap.get 5 rfl) (ap.get 6 rfl) (ap.get 7 rfl) _ h1 s1 d1 hI) (SP.k2 fun v27 v28 => ?_)
 refine SP.imp (fun w2 h => St.toP 0 rfl h) ?_
 clear hc
 refine SP.alloc (cs := [(.slice none 0 0), (.slice none 0 0)]) inf255 rfl rfl (fun b31 => ?_)
 refine SP.have (fun w2 hw => slR.shape (St.pers 0 rfl see.sub see.dj hw)) (fun hs_v27 => ?_)
 refine SP.have (fun w2 hw => slO.shape (St.own 1 rfl see.sub see.dj hw)) (fun hs_v28 => ?_)
 refine SP.store (v := .agg #[v27, v28]) (vs := [v27, v28]) 0 (by rfl) sz255 (by rfl) (by rfl) (by rfl) (by rfl) (one_cons hs_v27 (one_cons hs_v28 (rfl))) (by rfl) (go ?_)
 refine CP.seq (go ?_)
 refine CP.ci ho (fun ho => ?_) fun ho => ?_
 ·refine go ?_
  obtain rfl := fin ho hr
  exact QE.rt (fun _ h => St.selO [0, 3] rfl rfl (St.addO (slO.nil (kInt .u8) 5) h))
 refine go ?_
 refine CP.seq (go ?_)
 obtain rfl := Option.some.inj ho
 refine CP.loop (fun cl1 a w2 => ∃ x60 : Int, cl1 ≤ m0 ∧ iter (types_look_after_s1.F k_0_2 k_0_4 k_0_6 k_0_8 k_0_9 k_0_11 k_0_13 k_0_14 k_0_15 k_0_16 k_0_17 k_0_18 k_0_20 l22 i_1 row_2) cl1 (.l1 t26 x60) = some r ∧ Env ⟨52, []⟩ [(2, v_row_2), (8, .pointer (some ⟨b31, 0, none⟩)), (9, .int .i64 (IntKind.i64.wrap ((row_2.length : Int) - (t26.1.Takes.length : Int)))), (25, v27), (26, .int .i64 (t26.1.Takes.length : Int)), (27, .int .i64 x60)] a ∧ St w hA hV [slP (kInt .u8) v27 t26.1.Takes, slP k_api_Value v_k_0_2 k_0_2, slP k_api_Value v_k_0_4 k_0_4, slP k_api_Method v_k_0_6 k_0_6, slP (kInt .u8) v_k_0_9 k_0_9, slP (kInt .u8) v_k_0_11 k_0_11, slP k_api_Instr v_k_0_18 k_0_18, slP (kInt .u8) v_k_0_20 k_0_20, slP (kInt .u8) v_row_2 row_2] [boxO b31 [v27, v28] 255, slO (kInt .u8) 5 v28 t26.1.Gives, arrK k_types_Row b1 [v_k_0_2, v_k_0_4, v_k_0_6, .int .i64 k_0_8, v_k_0_9, v_k_0_11, .int .u8 k_0_13, .bool k_0_14, .int .i64 k_0_15, .int .i64 k_0_16, .int .i64 k_0_17, v_k_0_18, v_k_0_20] 200 t26.2 [] 122] w2) m0 (fun a w2 ha hw => ⟨0, Nat.le_refl _, hr, ha.sub sb, (St.selO [0, 1, 2] rfl rfl hw)⟩) ?_
 clear hr
 rintro cl1 a w2 ⟨x60, hc_l1, hi, ha, hw⟩
 obtain ⟨m61, o, hm_m61, ho, hr⟩ := iter_some hi
 refine CP.app ha hw ?_
 clear ha hw a w2 hi
 refine go ?_
 refine CP.seq ?_
 refine CP.ci ho (fun ho => ?_) fun ho => ?_
 ·refine go ?_
  refine CP.seq (go ?_)
  obtain ⟨x64, hx, ho⟩ := elt_bind ho
  refine SP.indexP see 0 rfl Tryz.underlying31 sz5 hx.1 hx.2 rfl rfl rfl rfl (fun p62 => ?_)
  clear hx
  refine SP.val (Val.loadP1 see 0 rfl (fun _ _ e => e) Tryz.underlying5 rfl rfl) rfl rfl rfl (go ?_)
  obtain ⟨t70, hg_t70, ho⟩ := bind_some ho
  refine SP.jn 9 [2, 8, 9, 25, 26, 27] 43 (.bool t70) ?_ ?_
  ·clear hg_t70
   refine go ?_
   refine CP.cb ho (fun ho => ?_) fun ho => ?_
   ·refine go ?_
    obtain rfl := fin ho hr
    exact QE.rt (fun _ h => St.selO [0, 3] rfl rfl (St.addO (slO.nil (kInt .u8) 5) h))
   refine go ?_
   obtain rfl := Option.some.inj ho
   exact QE.lower m61 (by omega) fun a w2 ha hw => ⟨(IntKind.i64.wrap (x60 + 1)), (by omega), hr, ha.sub sb, (St.selP [1, 2, 3, 4, 5, 6, 7, 8, 9] rfl hw)⟩
  refine SP.ci 34 hg_t70 (fun hq66 ho => ?_) fun hq66 ho => ?_
  ·refine go ?_
   obtain ⟨x69, hx, ho⟩ := elt_bind ho
   refine SP.indexP see 9 rfl Tryz.underlying31 sz5 hx.1 hx.2 rfl rfl rfl rfl (fun p67 => ?_)
   clear hx
   refine SP.val (Val.loadP1 see 0 rfl (fun _ _ e => e) Tryz.underlying5 rfl rfl) rfl rfl rfl (go ?_)
   obtain rfl := Option.some.inj ho
   exact QE.jn fun w2 hw => (St.selP [1, 2, 3, 4, 5, 6, 7, 8, 9, 10] rfl hw)
  refine go ?_
  obtain rfl := Option.some.inj ho
  exact QE.jn fun w2 hw => hw
 refine go ?_
 refine CP.seq ?_
 refine CP.drawA (by kernel_rfl) (fun w2 k h => h.drawn k) ?_
 refine DA.ph 0 5 ?_
 refine DT.tk 0 ?_
 refine DT.tk 1 ?_
 refine DT.tk 3 ?_
 refine DT.tk 4 ?_
 refine DT.one 2 rfl (by kernel_rfl) rfl ?_
 obtain ⟨hz, ho⟩ := must_some ho
 refine SP.sliceToP see 8 rfl Tryz.underlying31 sz5 rfl rfl hz rfl rfl (fun v80 => ?_)
 clear hz
 refine go ?_
 refine QE.atT (fun w2 hw => (St.selP [1, 2, 3, 4, 5, 6, 7, 8, 9] rfl hw)) ?_
 refine DT.next (by kernel_rfl) ?_
 refine DA.one 5 rfl (by kernel_rfl) ?_
 refine SP.freezeS see 1 rfl ?_
 refine SP.litS (k := (kSl (kInt .u8))) (xs := [(row_2.take (IntKind.i64.wrap ((row_2.length : Int) - (t26.1.Takes.length : Int)) : Int).toNat), t26.1.Gives]) (vs := [v80, v28]) Tryz.underlying191 inf31 rfl rfl rfl rfl rfl rfl (fun _ ap => ⟨slR.cells1 (ap.get 1 rfl), slR.cells1 (ap.get 0 rfl), trivial⟩) (fun _ ap => ⟨[v80], _, rfl, ⟨_, rfl, ap.get 1 rfl⟩, ⟨[v28], _, rfl, ⟨_, rfl, ap.get 0 rfl⟩, rfl⟩⟩) rfl rfl rfl (fun v82 => go ?_)
 refine QE.atA ?_
 refine DA.one 6 rfl (by kernel_rfl) ?_
 obtain ⟨t84, hc, ho⟩ := bind_some ho
 refine SP.callKO see (caps := []) _ fn76 rfl rfl rfl rfl (fun w2 hs => slices_Concat_uint8_uint8.ok _ _ _ hc w2 (hp w2) (Sub.refl _) (slO.read (St.own 0 rfl see.sub see.dj hs) (Sub.refl _) (Sub.refl _))) (fun v a a2 b ⟨v85, e, h⟩ => ⟨v85, e, (Sep.fcons (fun _ => slO.flip (fun _ _ _ _ h => h)) (fun _ => Sep.fnil)) h⟩) (SP.k1 fun v85 => ?_)
 clear hc
 refine go ?_
 refine QE.atA ?_
 refine DA.one 7 rfl (by kernel_rfl) (go ?_)
 refine QE.atA ?_
 refine DA.one 8 rfl (by kernel_rfl) (go ?_)
 refine QE.atA ?_
 refine DA.done (by kernel_rfl) (go ?_)
 obtain rfl := fin ho hr
 exact QE.rt (fun _ h => St.selO [0, 3] rfl rfl h)
def op_Goes.f (op_0 : Int) : Option Bool :=
  (op_Known.f op_0).bind fun t1 => some (((t1 && (decide (op_0 ≠ 26))) && (decide (op_0 ≠ 31))) && (decide (op_0 ≠ 32)))
theorem op_Goes.ok (op_0 : Int)  (r : Bool) (H : op_Goes.f op_0 = some r) (w : World) (hV : Hp) (sV : Sub hV (hp w))  :
    Trip Tryz.prog 200 [.int .u8 op_0].toArray em hV w (fun v => HO.pure (v = .bool r)) := by
 refine Trip.go 17 Tryz.func200 sV (All.nil _) fun see => ?_
 have ho := H
 refine go ?_
 obtain ⟨t1, hc, ho⟩ := bind_some ho
 refine SP.callV see (caps := []) (.bool t1) fn188 rfl rfl rfl rfl (fun w2 hP hs sub ap => op_Known.ok _  _ hc w2 hP sub ) ?_
 clear hc
 refine go ?_
 refine SP.jn 3 [0] 8 (.bool (t1 && (decide (op_0 ≠ 26)))) ?_ ?_
 ·refine go ?_
  refine SP.jn 3 [0] 12 (.bool ((t1 && (decide (op_0 ≠ 26))) && (decide (op_0 ≠ 31)))) ?_ ?_
  ·refine go ?_
   refine SP.jn 3 [] 16 (.bool (((t1 && (decide (op_0 ≠ 26))) && (decide (op_0 ≠ 31))) && (decide (op_0 ≠ 32)))) ?_ ?_
   ·refine go ?_
    obtain rfl := Option.some.inj ho
    exact QE.rt (fun _ h => h)
   refine SP.bb 13 (fun hq7 => ?_) fun hq7 => ?_
   ·refine go ?_
    exact QE.jb (and_t hq7 rfl) fun w2 hw => hw
   refine go ?_
   exact QE.jb (and_f hq7) fun w2 hw => hw
  refine SP.bb 9 (fun hq5 => ?_) fun hq5 => ?_
  ·refine go ?_
   exact QE.jb (and_t hq5 rfl) fun w2 hw => hw
  refine go ?_
  exact QE.jb (and_f hq5) fun w2 hw => hw
 refine SP.bb 5 (fun hq3 => ?_) fun hq3 => ?_
 ·refine go ?_
  exact QE.jb (and_t hq3 rfl) fun w2 hw => hw
 refine go ?_
 exact QE.jb (and_f hq3) fun w2 hw => hw
def op_Leads.f (op_0 : Int) : Option Bool :=
  (op_sign.f op_0).bind fun t1 => some (decide (t1 = 5))
theorem op_Leads.ok (op_0 : Int)  (r : Bool) (H : op_Leads.f op_0 = some r) (w : World) (hV : Hp) (sV : Sub hV (hp w))  :
    Trip Tryz.prog 201 [.int .u8 op_0].toArray em hV w (fun v => HO.pure (v = .bool r)) := by
 refine Trip.go 6 Tryz.func201 sV (All.nil _) fun see => ?_
 have ho := H
 refine go ?_
 obtain ⟨t1, hc, ho⟩ := bind_some ho
 refine SP.callV see (caps := []) (.int .i64 t1) fn189 rfl rfl rfl rfl (fun w2 hP hs sub ap => op_sign.ok _  _ hc w2 hP sub ) ?_
 clear hc
 refine go ?_
 obtain rfl := Option.some.inj ho
 exact QE.rt (fun _ h => h)
shelf_lay_g SlLaysM.n5 Slgm 5 at Tryz 48 as Tryz.sorti48
theorem srti48_trip {v : Value} {l : List Int} (hll : l.length < 4611686018427387904) {w : World} {hP h1 : Hp} (sub : Sub hP (hp w)) (s1 : Sub h1 (hp w)) (dj : Dj hP h1) (hI : (slO (kInt .i64) 3 v l).p hP h1) :
    Trip Tryz.prog 48 #[v] h1 hP w (fun r => HO.pand (r = .tuple #[]) (HO.seps [slO (kInt .i64) 3 v (l.mergeSort fun x y => decide (x ≤ y))])) := by
  have h := slO.rowTrip (P := Tryz.prog) (f := 48) (fun v => #[v]) (fun _ => .tuple #[]) (fun x => [Value.int .i64 x]) (fun h cs x => Iff.rfl) (fun d : Array Int => (d.toList.mergeSort fun x y => decide (x ≤ y)).toArray) (fun d => by simp) (fun blk cap d w hH hb hsz _ _ => ?_) (fun _ w hV sV => ?_) hll sub s1 dj hI
  · simpa using h
  · have := AnyM.slices_Sort_int Tryz.sorti48 blk 0 cap d.toList w (holdsOne.1 hH) hb (by simpa using hsz)
    refine this.mono fun e w' ⟨h1, n, os, h2⟩ => ⟨h1, n, os, h2.trans (Eq.symm sortOne)⟩
  · refine (AnyM.slices_Sort_int_none Tryz.sorti48 none 0 w).mono fun e w' ⟨he, hw⟩ => ?_
    subst hw
    exact ⟨_, he, Met.refl _, fun _ _ e _ => e, em, em, fun _ _ _ => rfl, fun _ _ _ => rfl, Dj.em_left _, Sub.em _, Sub.em _, rfl⟩
shelf_lay_g SlLaysN.n43 Slgn 43 at Tryz 49 as Tryz.compacti49
theorem compacti49_trip {v : Value} {l : List Int} (hll : l.length < 4611686018427387904) {w : World} {hP h1 : Hp} (sub : Sub hP (hp w)) (s1 : Sub h1 (hp w)) (dj : Dj hP h1) (hI : (slO (kInt .i64) 3 v l).p hP h1) :
    Trip Tryz.prog 49 #[v] h1 hP w (fun r => HO.ex fun u : Value => HO.pand (r = u) (HO.seps [slO (kInt .i64) 3 u (Lib.compact l)])) := by
  have hle : (Lib.compact l).length ≤ l.length := compact_le l
  have h := slO.rowTrip (P := Tryz.prog) (f := 49) (fun v => #[v]) (fun v => shrinkV v (Lib.compact l).length) (fun x => [Value.int .i64 x]) (fun h cs x => Iff.rfl) (fun d : Array Int => (Lib.compact d.toList ++ List.replicate (d.size - (Lib.compact d.toList).length) 0).toArray) (fun d => by have := compact_le d.toList; simp at this ⊢; omega) (fun blk cap d w hH hb hsz hcap hd => ?_) (fun h0 w hV sV => ?_) hll sub s1 dj hI
  · exact slO.shrinkT (by simp only [List.length_append]; omega) (by simp) h
  · have := AnyG.slices_Compact_int Tryz.compacti49 blk 0 cap d.toList w (holdsOne.1 hH) (by simp; omega) (by simpa using hcap)
    refine this.mono fun e w' ⟨h1, n, h2⟩ => ⟨?_, n, #[], h2.trans (Eq.trans ?_ (Eq.symm sortOne))⟩
    · rw [h1, hd]; rfl
    · rw [grow_none]; simp
  · refine (AnyG.slices_Compact_int_empty Tryz.compacti49 none 0 w).mono fun e w' ⟨he, hw⟩ => ?_
    subst hw
    exact ⟨_, he, Met.refl _, fun _ _ e _ => e, em, em, fun _ _ _ => rfl, fun _ _ _ => rfl, Dj.em_left _, Sub.em _, Sub.em _, rfl⟩
def flow_Ways.j2 (l_0 : (List api_Instr)) (a1 : Int) (l31 : List Int) : Option ((List Int) × Int) :=
  if l31.length < 4611686018427387904 then (if (l31.mergeSort fun x y => decide (x ≤ y)).length < 4611686018427387904 then (some ((Lib.compact (l31.mergeSort fun x y => decide (x ≤ y))), 0)) else none) else none
def flow_Ways.j1 (l_0 : (List api_Instr)) (a1 : Int) (x9 : api_Instr) (l19 : List Int) : Option ((List Int) × Int) :=
  if x9.Op = 29 then (if (l19.length + [IntKind.i64.wrap (x9.A + 1)].length) * 8 ≤ 140737488355328 then (flow_Ways.j2 l_0 a1 (l19 ++ [IntKind.i64.wrap (x9.A + 1)])) else none) else ((op_Leads.f x9.Op).bind fun t25 => if t25 = true then (if (l19.length + [x9.A].length) * 8 ≤ 140737488355328 then (flow_Ways.j2 l_0 a1 (l19 ++ [x9.A])) else none) else (flow_Ways.j2 l_0 a1 l19))
def flow_Ways.f (l_0 : (List api_Instr)) (a1 : Int) : Option ((List Int) × Int) :=
  (flow_Check.f l_0).bind fun t2 => if t2 ≠ 0 then (some ([], t2)) else (if ((decide (a1 < 0)) || (decide (a1 ≥ (l_0.length : Int)))) = true then (some ([], 2)) else ((elt l_0 a1).bind fun x9 => (op_Goes.f x9.Op).bind fun t12 => if t12 = true then (if (([] : List Int).length + [IntKind.i64.wrap (a1 + 1)].length) * 8 ≤ 140737488355328 then (flow_Ways.j1 l_0 a1 x9 (([] : List Int) ++ [IntKind.i64.wrap (a1 + 1)])) else none) else (flow_Ways.j1 l_0 a1 x9 [])))
theorem flow_Ways.ok (l_0 : (List api_Instr)) (a1 : Int) (v_l_0 : Value)  (r : (List Int) × Int) (H : flow_Ways.f l_0 a1 = some r) (w : World) (hV : Hp) (sV : Sub hV (hp w)) (h0 : slR k_api_Instr hV v_l_0 l_0) (h1 : (arrP k_arr245 0 tab0).p hV) :
    Trip Tryz.prog 137 [v_l_0, .int .i64 a1].toArray em hV w (fun v => HO.ex fun u0 : Value => HO.pand (v = .tuple #[u0, .int .i64 r.2]) (HO.seps [slO (kInt .i64) 3 u0 r.1])) := by
 refine Trip.go 57 Tryz.func137 sV (aS h0 (All.cons (x := arrP k_arr245 0 tab0) h1 (All.nil _))) fun see => ?_
 have ho := H
 refine go ?_
 refine CP.seq (go ?_)
 obtain ⟨t2, hc, ho⟩ := bind_some ho
 refine SP.callV see (caps := []) (.int .i64 t2) fn12 rfl rfl rfl rfl (fun w2 hP hs sub ap => flow_Check.ok _ _ _ hc w2 hP sub (ap.get 0 rfl) (ap.get 1 rfl)) ?_
 clear hc
 refine go ?_
 refine CP.ci ho (fun ho => ?_) fun ho => ?_
 ·refine go ?_
  obtain rfl := Option.some.inj ho
  exact QE.rt (fun _ h => St.selO [0] rfl rfl (St.addO (slO.nil (kInt .i64) 3) h))
 refine go ?_
 refine CP.seq (go ?_)
 refine SP.jn 5 [0, 1] 21 (.bool ((decide (a1 < 0)) || (decide (a1 ≥ (l_0.length : Int))))) ?_ ?_
 ·refine go ?_
  refine CP.cb ho (fun ho => ?_) fun ho => ?_
  ·refine go ?_
   obtain rfl := Option.some.inj ho
   exact QE.rt (fun _ h => St.selO [0] rfl rfl (St.addO (slO.nil (kInt .i64) 3) h))
  refine go ?_
  obtain ⟨x9, hx, ho⟩ := elt_bind ho
  refine SP.indexP see 0 rfl Tryz.underlying32 sz43 hx.1 hx.2 rfl rfl rfl rfl (fun p7 => ?_)
  clear hx
  refine k_api_Instr.load see 0 rfl Tryz.underlying43 rfl sz43 rfl rfl rfl ?_
  refine SP.alloc (cs := [.int .u8 0, .int .i64 0, .int .i64 0]) inf43 rfl rfl (fun b10 => ?_)
  refine SP.store (v := .agg #[.int .u8 x9.Op, .int .i64 x9.A, .int .i64 x9.B]) (vs := [.int .u8 x9.Op, .int .i64 x9.A, .int .i64 x9.B]) 0 (by rfl) sz43 (by rfl) (by rfl) (by rfl) (by rfl) (by rfl) (by rfl) (go ?_)
  refine CP.join (fun a w2 => ∃ l19 : List Int, ∃ v20 : Value, flow_Ways.j1 l_0 a1 x9 l19 = some r ∧ Env ⟨57, []⟩ [(7, v20), (8, .pointer (some ⟨b10, 0, none⟩))] a ∧ St w em hV [arrP k_arr245 0 tab0] [slO (kInt .i64) 3 v20 l19, boxO b10 [.int .u8 x9.Op, .int .i64 x9.A, .int .i64 x9.B] 43] w2) ?_ ?_
  ·rintro a w2 ⟨l19, v20, ho, ha, hw⟩
   refine CP.app ha hw ?_
   clear ha hw a w2
   refine CP.join (fun a w2 => ∃ l31 : List Int, ∃ v32 : Value, flow_Ways.j2 l_0 a1 l31 = some r ∧ Env ⟨57, []⟩ [(7, v32)] a ∧ St w em hV [arrP k_arr245 0 tab0] [slO (kInt .i64) 3 v32 l31] w2) ?_ ?_
   ·rintro a w2 ⟨l31, v32, ho, ha, hw⟩
    refine CP.app ha hw ?_
    clear ha hw a w2
    refine go ?_
    obtain ⟨hb, ho⟩ := must_some ho
    refine SP.callA see (caps := []) (fun r => HO.pand (r = .tuple #[]) (HO.seps [slO (kInt .i64) 3 v32 (l31.mergeSort fun x y => decide (x ≤ y))])) fn48 rfl rfl rfl rfl (fun w2 hP h1 sub s1 d1 ap hI => srti48_trip hb sub s1 d1 hI) (SP.k0 ?_)
    clear hb
    refine go ?_
    obtain ⟨hb, ho⟩ := must_some ho
    refine SP.callA see (caps := []) (fun r => HO.ex fun u : Value => HO.pand (r = u) (HO.seps [slO (kInt .i64) 3 u (Lib.compact (l31.mergeSort fun x y => decide (x ≤ y)))])) fn49 rfl rfl rfl rfl (fun w2 hP h1 sub s1 d1 ap hI => compacti49_trip hb sub s1 d1 hI) (SP.k1 fun v35 => ?_)
    clear hb
    refine go ?_
    obtain rfl := Option.some.inj ho
    exact QE.rt (fun _ h => St.selO [0] rfl rfl h)
   refine go ?_
   refine CP.ci ho (fun ho => ?_) fun ho => ?_
   ·refine go ?_
    refine SP.lit (k := (kInt .i64)) (xs := [IntKind.i64.wrap (x9.A + 1)]) (vs := [.int .i64 (IntKind.i64.wrap (x9.A + 1))]) (cells := [.int .i64 (IntKind.i64.wrap (x9.A + 1))]) Tryz.underlying48 inf3 rfl rfl rfl rfl rfl rfl rfl rfl (fun _ ap => ⟨[.int .i64 (IntKind.i64.wrap (x9.A + 1))], _, rfl, rfl, rfl⟩) rfl rfl rfl (fun v21 => ?_)
    refine SP.freezeS see 0 rfl ?_
    obtain ⟨hb, ho⟩ := must_some ho
    refine SP.append see 0 rfl 0 rfl Tryz.underlying48 inf3 rfl rfl hb rfl rfl rfl rfl rfl (fun v23 => ?_)
    clear hb
    refine go ?_
    exact QE.meet fun a w2 ha hw => ⟨(l19 ++ [IntKind.i64.wrap (x9.A + 1)]), v23, ho, ha.sub sb, (St.selP [1] rfl (St.selO [0] rfl rfl hw))⟩
   refine go ?_
   obtain ⟨t25, hc, ho⟩ := bind_some ho
   refine SP.callV see (caps := []) (.bool t25) fn201 rfl rfl rfl rfl (fun w2 hP hs sub ap => op_Leads.ok _  _ hc w2 hP sub ) ?_
   clear hc
   refine go ?_
   refine CP.cb ho (fun ho => ?_) fun ho => ?_
   ·refine go ?_
    refine SP.lit (k := (kInt .i64)) (xs := [x9.A]) (vs := [.int .i64 x9.A]) (cells := [.int .i64 x9.A]) Tryz.underlying48 inf3 rfl rfl rfl rfl rfl rfl rfl rfl (fun _ ap => ⟨[.int .i64 x9.A], _, rfl, rfl, rfl⟩) rfl rfl rfl (fun v26 => ?_)
    refine SP.freezeS see 0 rfl ?_
    obtain ⟨hb, ho⟩ := must_some ho
    refine SP.append see 0 rfl 0 rfl Tryz.underlying48 inf3 rfl rfl hb rfl rfl rfl rfl rfl (fun v28 => ?_)
    clear hb
    refine go ?_
    exact QE.meet fun a w2 ha hw => ⟨(l19 ++ [x9.A]), v28, ho, ha.sub sb, (St.selP [1] rfl (St.selO [0] rfl rfl hw))⟩
   refine go ?_
   exact QE.meet fun a w2 ha hw => ⟨l19, v20, ho, ha.sub sb, (St.selO [0] rfl rfl hw)⟩
  refine go ?_
  obtain ⟨t12, hc, ho⟩ := bind_some ho
  refine SP.callV see (caps := []) (.bool t12) fn200 rfl rfl rfl rfl (fun w2 hP hs sub ap => op_Goes.ok _  _ hc w2 hP sub ) ?_
  clear hc
  refine go ?_
  refine CP.cb ho (fun ho => ?_) fun ho => ?_
  ·refine go ?_
   refine SP.lit (k := (kInt .i64)) (xs := [IntKind.i64.wrap (a1 + 1)]) (vs := [.int .i64 (IntKind.i64.wrap (a1 + 1))]) (cells := [.int .i64 (IntKind.i64.wrap (a1 + 1))]) Tryz.underlying48 inf3 rfl rfl rfl rfl rfl rfl rfl rfl (fun _ ap => ⟨[.int .i64 (IntKind.i64.wrap (a1 + 1))], _, rfl, rfl, rfl⟩) rfl rfl rfl (fun v13 => ?_)
   refine SP.imp (fun w2 hw => St.addO (slO.nil (kInt .i64) 3) hw) ?_
   refine SP.freezeS see 1 rfl ?_
   obtain ⟨hb, ho⟩ := must_some ho
   refine SP.append see 0 rfl 0 rfl Tryz.underlying48 inf3 rfl rfl hb rfl rfl rfl rfl rfl (fun v16 => ?_)
   clear hb
   refine go ?_
   exact QE.meet fun a w2 ha hw => ⟨(([] : List Int) ++ [IntKind.i64.wrap (a1 + 1)]), v16, ho, ha.sub sb, (St.selP [3] rfl hw)⟩
  refine go ?_
  exact QE.meet fun a w2 ha hw => ⟨[], (.slice none 0 0), ho, ha.sub sb, (St.selP [2] rfl (St.addO (slO.nil (kInt .i64) 3) hw))⟩
 refine SP.bb 16 (fun hq5 => ?_) fun hq5 => ?_
 ·refine go ?_
  exact QE.jb (or_t hq5) fun w2 hw => hw
 refine go ?_
 exact QE.jb (or_f hq5 rfl) fun w2 hw => hw
inductive slices_Equal_uint8_uint8.S where
  | start
  | l1 (x12 : Int)
def slices_Equal_uint8_uint8.F (s1_0 : (List Int)) (s2_1 : (List Int)) : slices_Equal_uint8_uint8.S → Option (slices_Equal_uint8_uint8.S ⊕ Bool)
  | .start => if (s1_0.length : Int) ≠ (s2_1.length : Int) then (some (.inr false)) else (some (.inl (.l1 0)))
  | .l1 x12 => if x12 < (s1_0.length : Int) then ((elt s1_0 x12).bind fun x16 => (elt s2_1 x12).bind fun x20 => if x16 ≠ x20 then (some (.inr false)) else (some (.inl (.l1 (IntKind.i64.wrap (x12 + 1)))))) else (some (.inr true))
def slices_Equal_uint8_uint8.f (s1_0 : (List Int)) (s2_1 : (List Int)) : Option Bool := runF (slices_Equal_uint8_uint8.F s1_0 s2_1) .start
theorem slices_Equal_uint8_uint8.ok (s1_0 : (List Int)) (s2_1 : (List Int)) (v_s1_0 v_s2_1 : Value) (r : Bool) (H : slices_Equal_uint8_uint8.f s1_0 s2_1 = some r) (w : World) (hV : Hp) (sV : Sub hV (hp w)) (h0 : slR (kInt .u8) hV v_s1_0 s1_0) (h1 : slR (kInt .u8) hV v_s2_1 s2_1) :
    Trip Tryz.prog 138 [v_s1_0, v_s2_1].toArray em hV w (fun v => HO.pure (v = .bool r)) := by
 refine Trip.go 26 Tryz.func138 sV (aS h0 (aS h1 (All.nil _))) fun see => ?_
 obtain ⟨n0, hi⟩ := runF_iff.1 H
 obtain ⟨m0, o, hm0, ho, hr⟩ := iter_some hi
 clear hi
 refine go ?_
 refine CP.seq (go ?_)
 refine CP.ci ho (fun ho => ?_) fun ho => ?_
 ·refine go ?_
  obtain rfl := fin ho hr
  exact QE.rt (fun _ h => h)
 refine go ?_
 refine CP.seq (go ?_)
 obtain rfl := Option.some.inj ho
 refine CP.loop (fun cl1 a w2 => ∃ x12 : Int, cl1 ≤ m0 ∧ iter (slices_Equal_uint8_uint8.F s1_0 s2_1) cl1 (.l1 x12) = some r ∧ Env ⟨26, []⟩ [(0, v_s1_0), (1, v_s2_1), (12, .int .i64 (s1_0.length : Int)), (13, .int .i64 x12)] a ∧ St w em hV [slP (kInt .u8) v_s1_0 s1_0, slP (kInt .u8) v_s2_1 s2_1] [] w2) m0 (fun a w2 ha hw => ⟨0, Nat.le_refl _, hr, ha.sub sb, hw⟩) ?_
 clear hr
 rintro cl1 a w2 ⟨x12, hc_l1, hi, ha, hw⟩
 obtain ⟨m13, o, hm_m13, ho, hr⟩ := iter_some hi
 refine CP.app ha hw ?_
 clear ha hw a w2 hi
 refine go ?_
 refine CP.seq ?_
 refine CP.ci ho (fun ho => ?_) fun ho => ?_
 ·refine go ?_
  refine CP.seq (go ?_)
  refine CP.seq ?_
  refine CP.drawA (by kernel_rfl) (fun w2 k h => h.drawn k) ?_
  obtain ⟨x16, hx, ho⟩ := elt_bind ho
  refine DA.ghost (fun w2 h => h.elem see 0 rfl hx.1 hx.2) (fun p14 h_p14 => ?_)
  clear hx
  refine DA.ghost (fun w2 h => h.openE see 0 rfl (fun _ : Unit => [.int .u8 x16]) (fun _ => []) (fun h cs e => ⟨(), e, All.nil _⟩)) (fun _ _ => ?_)
  obtain ⟨x20, hx, ho⟩ := elt_bind ho
  refine DA.ghost (fun w2 h => h.elem see 3 rfl hx.1 hx.2) (fun p18 h_p18 => ?_)
  clear hx
  refine DA.ghost (fun w2 h => h.openE see 0 rfl (fun _ : Unit => [.int .u8 x20]) (fun _ => []) (fun h cs e => ⟨(), e, All.nil _⟩)) (fun _ _ => ?_)
  refine DA.ph 0 8 ?_
  refine DT.tk 0 ?_
  refine DT.tk 1 ?_
  refine DT.tv 2 rfl (Val.indexE h_p14 Tryz.underlying31 sz5 rfl rfl) ?_
  refine DT.tv 3 rfl (Val.loadAt1 see 2 rfl Tryz.underlying5 rfl rfl) ?_
  refine DT.tk 4 ?_
  refine DT.tk 5 ?_
  refine DT.tv 6 rfl (Val.indexE h_p18 Tryz.underlying31 sz5 rfl rfl) ?_
  refine DT.tv 7 rfl (Val.loadAt1 see 0 rfl Tryz.underlying5 rfl rfl) ?_
  refine DT.next (by kernel_rfl) ?_
  refine DA.one 8 rfl (by kernel_rfl) (go ?_)
  refine QE.atA ?_
  refine DA.done (by kernel_rfl) (go ?_)
  refine CP.ci ho (fun ho => ?_) fun ho => ?_
  ·refine go ?_
   obtain rfl := fin ho hr
   exact QE.rt (fun _ h => h)
  refine go ?_
  obtain rfl := Option.some.inj ho
  exact QE.lower m13 (by omega) fun a w2 ha hw => ⟨(IntKind.i64.wrap (x12 + 1)), (by omega), hr, ha.sub sb, (St.selP [4, 5] rfl hw)⟩
 refine go ?_
 obtain rfl := fin ho hr
 exact QE.rt (fun _ h => h)
inductive types_look_place_s1.S where
  | start
  | l1 (t32 : ((List Int) × Int) × (List types_Row)) (t35 : (List Int) × Int) (l58 : List types_Row) (x59 : Int)
def types_look_place_s1.F (k_0_2 : List api_Value) (k_0_4 : List api_Value) (k_0_6 : List api_Method) (k_0_8 : Int) (k_0_9 : List Int) (k_0_11 : List Int) (k_0_13 : Int) (k_0_14 : Bool) (k_0_15 : Int) (k_0_16 : Int) (k_0_17 : Int) (k_0_18 : List api_Instr) (k_0_20 : List Int) (l22 : List types_Row) (a1 : Int) : types_look_place_s1.S → Option (types_look_place_s1.S ⊕ (Int × (List types_Row)))
  | .start => (elt l22 a1).bind fun x23 => if (!x23.Reached) = true then (some (.inr (0, l22))) else ((elt k_0_18 a1).bind fun x30 => (types_look_after_s1.f k_0_2 k_0_4 k_0_6 k_0_8 k_0_9 k_0_11 k_0_13 k_0_14 k_0_15 k_0_16 k_0_17 k_0_18 k_0_20 l22 x30 x23.Kinds).bind fun t32 => if t32.1.2 ≠ 0 then (some (.inr (t32.1.2, t32.2))) else ((flow_Ways.f k_0_18 a1).bind fun t35 => some (.inl (.l1 t32 t35 t32.2 0))))
  | .l1 t32 t35 l58 x59 => if x59 < (t35.1.length : Int) then ((elt t35.1 x59).bind fun x62 => (elt l58 x62).bind fun x63 => (if x63.Reached = true then ((slices_Equal_uint8_uint8.f x63.Kinds t32.1.1).bind fun t68 => some (!t68)) else (some false)).bind fun t69 => if t69 = true then (some (.inr (100, l58))) else (some (.inl (.l1 t32 t35 (l58.set x62.toNat (⟨true, t32.1.1⟩ : types_Row)) (IntKind.i64.wrap (x59 + 1)))))) else (some (.inr (0, l58)))
def types_look_place_s1.f (k_0_2 : List api_Value) (k_0_4 : List api_Value) (k_0_6 : List api_Method) (k_0_8 : Int) (k_0_9 : List Int) (k_0_11 : List Int) (k_0_13 : Int) (k_0_14 : Bool) (k_0_15 : Int) (k_0_16 : Int) (k_0_17 : Int) (k_0_18 : List api_Instr) (k_0_20 : List Int) (l22 : List types_Row) (a1 : Int) : Option (Int × (List types_Row)) := runF (types_look_place_s1.F k_0_2 k_0_4 k_0_6 k_0_8 k_0_9 k_0_11 k_0_13 k_0_14 k_0_15 k_0_16 k_0_17 k_0_18 k_0_20 l22 a1) .start
theorem types_look_place_s1.ok (k_0_2 : List api_Value) (k_0_4 : List api_Value) (k_0_6 : List api_Method) (k_0_8 : Int) (k_0_9 : List Int) (k_0_11 : List Int) (k_0_13 : Int) (k_0_14 : Bool) (k_0_15 k_0_16 k_0_17 : Int) (k_0_18 : List api_Instr) (k_0_20 : List Int) (l22 : List types_Row) (a1 : Int) (v_k_0_2 v_k_0_4 : Value) (v_k_0_6 v_k_0_9 : Value) (v_k_0_11 v_k_0_18 v_k_0_20 : Value)  (r : Int × (List types_Row)) (H : types_look_place_s1.f k_0_2 k_0_4 k_0_6 k_0_8 k_0_9 k_0_11 k_0_13 k_0_14 k_0_15 k_0_16 k_0_17 k_0_18 k_0_20 l22 a1 = some r) (w : World) (hV : Hp) (sV : Sub hV (hp w)) (h0 : slR k_api_Value hV v_k_0_2 k_0_2) (h1 : slR k_api_Value hV v_k_0_4 k_0_4) (h2 : slR k_api_Method hV v_k_0_6 k_0_6) (h3 : slR (kInt .u8) hV v_k_0_9 k_0_9) (h4 : slR (kInt .u8) hV v_k_0_11 k_0_11) (h5 : slR k_api_Instr hV v_k_0_18 k_0_18) (h6 : slR (kInt .u8) hV v_k_0_20 k_0_20) (h7 : (arrP k_arr245 0 tab0).p hV) (b1 : Nat) (hA : Hp) (sA : Sub hA (hp w)) (dA : Dj hV hA) (hI : (arrK k_types_Row b1 [v_k_0_2, v_k_0_4, v_k_0_6, .int .i64 k_0_8, v_k_0_9, v_k_0_11, .int .u8 k_0_13, .bool k_0_14, .int .i64 k_0_15, .int .i64 k_0_16, .int .i64 k_0_17, v_k_0_18, v_k_0_20] 200 l22 [] 122).p hV hA) :
    Trip Tryz.prog 79 [.pointer (some ⟨b1, 0, none⟩), .int .i64 a1].toArray hA hV w (fun v => HO.pand (v = .int .i64 r.1) (HO.seps [arrK k_types_Row b1 [v_k_0_2, v_k_0_4, v_k_0_6, .int .i64 k_0_8, v_k_0_9, v_k_0_11, .int .u8 k_0_13, .bool k_0_14, .int .i64 k_0_15, .int .i64 k_0_16, .int .i64 k_0_17, v_k_0_18, v_k_0_20] 200 r.2 [] 122])) := by
 have see : Sees w hA hV := ⟨sV, dA⟩
 refine Trip.of (P := Tryz.prog) (n := ⟨79, []⟩) Tryz.func79 rfl ⟨rfl, rfl⟩ rfl (St.beginA (os := [arrK k_types_Row b1 [v_k_0_2, v_k_0_4, v_k_0_6, .int .i64 k_0_8, v_k_0_9, v_k_0_11, .int .u8 k_0_13, .bool k_0_14, .int .i64 k_0_15, .int .i64 k_0_16, .int .i64 k_0_17, v_k_0_18, v_k_0_20] 200 l22 [] 122]) sA (aS h0 (aS h1 (aS h2 (aS h3 (aS h4 (aS h5 (aS h6 (All.cons (x := arrP k_arr245 0 tab0) h7 (All.nil _))))))))) ⟨hA, em, Dj.em_right _, Sub.refl _, Sub.em _, hI, trivial⟩) ?_
 obtain ⟨n0, hi⟩ := runF_iff.1 H
 obtain ⟨m0, o, hm0, ho, hr⟩ := iter_some hi
 clear hi
 refine go ?_
 obtain ⟨x23, hx_x23, ho⟩ := elt_bind ho
 refine SP.val (Val.indexK see 0 rfl Tryz.underlying120 sz119 hx_x23.1 hx_x23.2 rfl rfl) rfl rfl rfl ?_
 refine SP.loadKO (j := a1) see 0 (fun (v24 : Value) => [.bool x23.Reached, v24]) (fun (v24 : Value) => [slP (kInt .u8) v24 x23.Kinds]) rfl hx_x23.2 (fun a cs ⟨v24, e, p0⟩ => ⟨v24, e, All.cons p0 (All.nil _)⟩) Tryz.underlying119 rfl sz119 rfl rfl rfl (fun z_ => ?_)
 rename Value => v24
 refine SP.alloc (cs := [.bool false, (.slice none 0 0)]) inf119 rfl rfl (fun b26 => ?_)
 refine SP.have (fun w2 hw => slR.shape (St.pers 0 rfl see.sub see.dj hw)) (fun hs_v24 => ?_)
 refine SP.store (v := .agg #[.bool x23.Reached, v24]) (vs := [.bool x23.Reached, v24]) 0 (by rfl) sz119 (by rfl) (by rfl) (by rfl) (by rfl) (one_cons rfl (one_cons hs_v24 (rfl))) (by rfl) (go ?_)
 refine CP.seq (go ?_)
 refine CP.cb ho (fun ho => ?_) fun ho => ?_
 ·refine go ?_
  obtain rfl := fin ho hr
  exact QE.rt (fun _ h => St.selO [1] rfl rfl h)
 refine go ?_
 refine CP.seq ?_
 refine CP.drawA (by kernel_rfl) (fun w2 k h => h.drawn k) ?_
 obtain ⟨x30, hx, ho⟩ := elt_bind ho
 refine DA.ghost (fun w2 h => h.elem see 6 rfl hx.1 hx.2) (fun p28 h_p28 => ?_)
 clear hx
 refine DA.ghost (fun w2 h => h.openE see 0 rfl (fun _ : Unit => [.int .u8 x30.Op, .int .i64 x30.A, .int .i64 x30.B]) (fun _ => []) (fun h cs e => ⟨(), e, All.nil _⟩)) (fun _ _ => ?_)
 refine DA.ph 0 11 ?_
 refine DT.tk 0 ?_
 refine DT.tk 1 ?_
 refine DT.tk 2 ?_
 refine DT.tk 3 ?_
 refine DT.tk 4 ?_
 refine DT.tv 5 rfl (Val.loadKPre1 see 1 rfl Tryz.underlying32 rfl rfl rfl) ?_
 refine DT.tk 6 ?_
 refine DT.tv 7 rfl (Val.indexE h_p28 Tryz.underlying32 sz43 rfl rfl) ?_
 refine DT.tv 8 rfl (Val.loadAtA see 0 rfl Tryz.underlying43 rfl sz43 rfl) ?_
 refine DT.tk 9 ?_
 refine DT.tk 10 ?_
 refine DT.next (by kernel_rfl) ?_
 refine DA.one 11 rfl (by kernel_rfl) ?_
 refine SP.imp (fun w2 hw => St.selO [1, 0] rfl rfl hw) ?_
 obtain ⟨t32, hc, ho⟩ := bind_some ho
 refine SP.callA see (caps := []) _ fn136 rfl rfl rfl rfl (fun w2 hP h1 sub s1 d1 ap hI => types_look_after_s1.ok _ _ _ _ _ _ _ _ _ _ _ _ _ _ _ _ _ _ _ _ _ _ _ _ _ hc w2 hP sub (ap.get 3 rfl) (ap.get 4 rfl) (ap.get 5 rfl) (ap.get 6 rfl) (ap.get 7 rfl) (ap.get 8 rfl) (ap.get 9 rfl) (ap.get 2 rfl) _ h1 s1 d1 hI) (SP.k1 fun v33 => ?_)
 clear hc
 refine go ?_
 refine QE.atA ?_
 refine DA.one 12 rfl (by kernel_rfl) (go ?_)
 refine QE.atA ?_
 refine DA.ph 13 16 ?_
 refine DT.tk 13 ?_
 refine DT.tk 14 ?_
 refine DT.tk 15 ?_
 refine DT.next (by kernel_rfl) ?_
 refine DA.one 16 rfl (by kernel_rfl) (go ?_)
 refine QE.atA ?_
 refine DA.done (by kernel_rfl) (go ?_)
 refine CP.seq (go ?_)
 refine CP.ci ho (fun ho => ?_) fun ho => ?_
 ·refine go ?_
  obtain rfl := fin ho hr
  exact QE.rt (fun _ h => St.selO [1] rfl rfl h)
 refine go ?_
 refine SP.val (Val.loadKPre1 see 1 rfl Tryz.underlying32 rfl rfl rfl) rfl rfl rfl (go ?_)
 obtain ⟨t35, hc, ho⟩ := bind_some ho
 refine SP.callK see (caps := []) _ fn137 rfl rfl rfl rfl (fun w2 hP hs sub ap => flow_Ways.ok _ _ _ _ hc w2 hP sub (ap.get 8 rfl) (ap.get 10 rfl)) (SP.k1 fun v36 => ?_)
 clear hc
 refine go ?_
 refine CP.seq (go ?_)
 refine SP.val (Val.lenW (fun w2 hw => slO.whole (St.own 0 rfl see.sub see.dj hw)) Tryz.underlying48 rfl) rfl rfl rfl (go ?_)
 refine CP.freezeS see 1 rfl ?_
 obtain rfl := Option.some.inj ho
 refine CP.loop (fun cl1 a w2 => ∃ l58 : List types_Row, ∃ x59 : Int, cl1 ≤ m0 ∧ iter (types_look_place_s1.F k_0_2 k_0_4 k_0_6 k_0_8 k_0_9 k_0_11 k_0_13 k_0_14 k_0_15 k_0_16 k_0_17 k_0_18 k_0_20 l22 a1) cl1 (.l1 t32 t35 l58 x59) = some r ∧ Env ⟨79, []⟩ [(0, .pointer (some ⟨b1, 0, none⟩)), (6, v33), (50, v36), (51, .int .i64 (t35.1.length : Int)), (52, .int .i64 x59)] a ∧ St w hA hV [slP (kInt .u8) v33 t32.1.1, slP k_api_Value v_k_0_2 k_0_2, slP k_api_Value v_k_0_4 k_0_4, slP k_api_Method v_k_0_6 k_0_6, slP (kInt .u8) v_k_0_9 k_0_9, slP (kInt .u8) v_k_0_11 k_0_11, slP k_api_Instr v_k_0_18 k_0_18, slP (kInt .u8) v_k_0_20 k_0_20, arrP k_arr245 0 tab0] [slO (kInt .i64) 3 v36 t35.1, arrK k_types_Row b1 [v_k_0_2, v_k_0_4, v_k_0_6, .int .i64 k_0_8, v_k_0_9, v_k_0_11, .int .u8 k_0_13, .bool k_0_14, .int .i64 k_0_15, .int .i64 k_0_16, .int .i64 k_0_17, v_k_0_18, v_k_0_20] 200 l58 [] 122] w2) m0 (fun a w2 ha hw => ⟨t32.2, 0, Nat.le_refl _, hr, ha.sub sb, (St.selP [0, 4, 5, 6, 7, 8, 9, 10, 11] rfl (St.selO [0, 1] rfl rfl hw))⟩) ?_
 clear hr
 rintro cl1 a w2 ⟨l58, x59, hc_l1, hi, ha, hw⟩
 obtain ⟨m60, o, hm_m60, ho, hr⟩ := iter_some hi
 refine CP.app ha hw ?_
 clear ha hw a w2 hi
 refine go ?_
 refine CP.seq ?_
 refine CP.ci ho (fun ho => ?_) fun ho => ?_
 ·refine go ?_
  refine CP.seq (go ?_)
  obtain ⟨x62, hx_x62, ho⟩ := elt_bind ho
  refine SP.indexW (fun w2 hw => slO.whole (St.own 0 rfl see.sub see.dj hw)) Tryz.underlying48 sz3 hx_x62.1 hx_x62.2 rfl rfl rfl rfl (fun p61 h_p61 => ?_)
  refine SP.val (Val.loadW1 (off := 0) (k := (kInt .i64)) (fun w2 hw => slO.whole (St.own 0 rfl see.sub see.dj hw)) hx_x62.2 h_p61 (fun _ _ e => by subst e; rfl) Tryz.underlying3 rfl rfl) rfl rfl rfl (go ?_)
  obtain ⟨x63, hx_x63, ho⟩ := elt_bind ho
  refine SP.val (Val.indexK see 1 rfl Tryz.underlying120 sz119 hx_x63.1 hx_x63.2 rfl rfl) rfl rfl rfl (go ?_)
  refine CP.seq ?_
  refine CP.seq ?_
  refine CP.region ?_
  refine SP.val (Val.move rfl) rfl rfl rfl ?_
  refine SP.val (Val.nilCheck rfl) rfl rfl rfl ?_
  refine SP.val (Val.fieldX Tryz.underlying119 rfl sz4 rfl) rfl rfl rfl ?_
  refine SP.val (Val.loadK1 (j := x62) see 1 0 rfl hx_x63.2 (fun _ _ ⟨v0_, e, p0_⟩ => by subst e; rfl) Tryz.underlying4 rfl rfl) rfl rfl rfl (go ?_)
  obtain ⟨t69, hg_t69, ho⟩ := bind_some ho
  refine SP.jn 8 [0, 6, 50, 51, 52, 12] 73 (.bool t69) ?_ ?_
  ·clear hg_t69
   refine go ?_
   refine CP.cb ho (fun ho => ?_) fun ho => ?_
   ·refine go ?_
    obtain rfl := fin ho hr
    exact QE.rt (fun _ h => St.selO [1] rfl rfl h)
   refine go ?_
   refine SP.have (fun w2 hw => slR.shape (St.pers 0 rfl see.sub see.dj hw)) (fun hs_v33 => ?_)
   refine SP.val (Val.buildC (us := [(0, .bool true), (1, v33)]) (ucs := [(0, [.bool true]), (1, [v33])]) (cs := [.bool true, v33]) bt119 rfl rfl ⟨rfl, rfl, ⟨rfl, one_cells hs_v33, trivial⟩⟩ (by rfl)) rfl rfl rfl (go ?_)
   refine SP.have (fun w2 hw => slR.shape (St.pers 0 rfl see.sub see.dj hw)) (fun hs_v33 => ?_)
   refine SP.storeK (j := x62) (z0 := (⟨true, t32.1.1⟩ : types_Row)) (vs := [.bool true, v33]) see 1 0 rfl hx_x63.2 rfl (one_cons rfl (one_cons hs_v33 (rfl))) sz119 rfl (fun a cs ap r => by obtain ⟨_, e, _⟩ := r; subst e; exact ⟨v33, rfl, (ap.get 0 rfl)⟩) rfl rfl rfl (go ?_)
   obtain rfl := Option.some.inj ho
   exact QE.lower m60 (by omega) fun a w2 ha hw => ⟨(l58.set x62.toNat (⟨true, t32.1.1⟩ : types_Row)), (IntKind.i64.wrap (x59 + 1)), (by omega), hr, ha.sub sb, hw⟩
  refine SP.cb 65 hg_t69 (fun hq65 ho => ?_) fun hq65 ho => ?_
  ·refine SP.val (Val.move rfl) rfl rfl rfl ?_
   refine SP.val (Val.nilCheck rfl) rfl rfl rfl ?_
   refine SP.val (Val.fieldX Tryz.underlying119 rfl sz31 rfl) rfl rfl rfl ?_
   refine SP.loadKS (j := x62) see 1 1 rfl hx_x63.2 (fun _ _ ⟨v0_, e, p0_⟩ => ⟨v0_, by subst e; rfl, p0_⟩) Tryz.underlying31 rfl rfl rfl (fun v66 => go ?_)
   obtain ⟨t68, hc, ho⟩ := bind_some ho
   refine SP.callV see (caps := []) (.bool t68) fn138 rfl rfl rfl rfl (fun w2 hP hs sub ap => slices_Equal_uint8_uint8.ok _ _ _ _ _ hc w2 hP sub (ap.get 0 rfl) (ap.get 1 rfl)) ?_
   clear hc
   refine go ?_
   obtain rfl := Option.some.inj ho
   exact QE.jn fun w2 hw => (St.selP [1, 2, 3, 4, 5, 6, 7, 8, 9] rfl hw)
  refine go ?_
  obtain rfl := Option.some.inj ho
  exact QE.jn fun w2 hw => hw
 refine go ?_
 obtain rfl := fin ho hr
 exact QE.rt (fun _ h => St.selO [1] rfl rfl h)
def slices_Clone_types_Row_types_Row.f (s_0 : (List types_Row)) : Option (List types_Row) :=
  nilOr s_0 (some []) (if (([] : List types_Row).length + s_0.length) * 32 ≤ 140737488355328 then (some (([] : List types_Row) ++ s_0)) else none)
theorem slices_Clone_types_Row_types_Row.ok (s_0 : (List types_Row)) (v_s_0 : Value) (r : (List types_Row)) (H : slices_Clone_types_Row_types_Row.f s_0 = some r) (w : World) (hV : Hp) (sV : Sub hV (hp w)) (h0 : slR k_types_Row hV v_s_0 s_0) :
    Trip Tryz.prog 80 [v_s_0].toArray em hV w (fun v => HO.ex fun u0 : Value => HO.pand (v = u0) (HO.seps [slO k_types_Row 119 u0 r])) := by
 refine Trip.go 8 Tryz.func80 sV (aS h0 (All.nil _)) fun see => ?_
 have ho := H
 refine go ?_
 refine CP.seq (go ?_)
 refine SP.val (Val.eqlNP see 0 rfl Tryz.underlying67 rfl rfl) rfl rfl rfl (go ?_)
 refine CP.have (fun w2 hw => slR.isNil (v := v_s_0) (St.pers 0 rfl see.sub see.dj hw)) (fun hnil => ?_)
 rcases Bool.eq_false_or_eq_true (nilB v_s_0) with hc | hc
 ·replace ho := nilOr_t ho (hnil hc)
  refine CP.condT rfl hc (go ?_)
  obtain rfl := Option.some.inj ho
  exact QE.rt (fun _ h => St.selO [0] rfl rfl (St.addO (slO.nil k_types_Row 119) h))
 replace ho := nilOr_f ho
 refine CP.condF rfl hc (go ?_)
 refine SP.lit0 (k := k_types_Row) Tryz.underlying67 inf119 rfl rfl (fun v3 => go ?_)
 obtain ⟨hb, ho⟩ := must_some ho
 refine SP.append see 0 rfl 0 rfl Tryz.underlying67 inf119 rfl rfl hb rfl rfl rfl rfl rfl (fun v5 => ?_)
 clear hb
 refine go ?_
 obtain rfl := Option.some.inj ho
 exact QE.rt (fun _ h => St.selO [0] rfl rfl h)
inductive types_Rows.S where
  | start
  | l1 (x11 : api_Method) (t1828 : (List Int)) (l2826 : List types_Row) (x2827 : Int)
  | l2 (t2833 : (List types_Row)) (l2848 : List types_Row) (x2850 : Int)
def types_Rows.F (m_0 : api_Module) (k_1 : Int) : types_Rows.S → Option (types_Rows.S ⊕ ((List types_Row) × Int))
  | .start => if ((decide (k_1 < 0)) || (decide (k_1 ≥ (m_0.Methods.length : Int)))) = true then (some (.inr ([], 2))) else ((elt m_0.Methods k_1).bind fun x11 => (flow_Check.f x11.Code).bind fun t20 => if t20 ≠ 0 then (some (.inr ([], t20))) else ((slices_Concat_uint8_uint8.f [x11.Args, x11.Locals]).bind fun t1828 => (slices_ContainsFunc_api_Instr_api_Instr_s3.f x11.Code m_0.Globals m_0.Pool m_0.Methods m_0.Migrate x11.Args x11.Locals x11.Result x11.Reads x11.Fuel x11.Stack x11.Heap x11.Code t1828).bind fun t2747 => if t2747 = true then (some (.inr ([], 100))) else ((elt (List.replicate 200 types_Row.zero : List types_Row) 0).bind fun x2749 => some (.inl (.l1 x11 t1828 ((List.replicate 200 types_Row.zero : List types_Row).set (0 : Int).toNat ({ x2749 with Reached := true } : types_Row)) 0)))))
  | .l1 x11 t1828 l2826 x2827 => if x2827 < (x11.Code.length : Int) then ((types_look_place_s1.f m_0.Globals m_0.Pool m_0.Methods m_0.Migrate x11.Args x11.Locals x11.Result x11.Reads x11.Fuel x11.Stack x11.Heap x11.Code t1828 l2826 x2827).bind fun t2829 => if t2829.1 ≠ 0 then (some (.inr ([], t2829.1))) else (some (.inl (.l1 x11 t1828 t2829.2 (IntKind.i64.wrap (x2827 + 1)))))) else (if (0 : Int) ≤ (x11.Code.length : Int) ∧ (x11.Code.length : Int) ≤ (200 : Nat) then ((slices_Clone_types_Row_types_Row.f (l2826.take ((x11.Code.length : Int) : Int).toNat)).bind fun t2833 => some (.inl (.l2 t2833 t2833 0))) else none)
  | .l2 t2833 l2848 x2850 => if x2850 < (t2833.length : Int) then ((elt l2848 x2850).bind fun x2853 => (slices_Clone_uint8_uint8.f x2853.Kinds).bind fun t2857 => (elt l2848 x2850).bind fun x2861 => some (.inl (.l2 t2833 (l2848.set x2850.toNat ({ x2861 with Kinds := t2857 } : types_Row)) (IntKind.i64.wrap (x2850 + 1))))) else (some (.inr (l2848, 0)))
def types_Rows.f (m_0 : api_Module) (k_1 : Int) : Option ((List types_Row) × Int) := runF (types_Rows.F m_0 k_1) .start
theorem types_Rows.ok (m_0 : api_Module) (k_1 : Int) (v_m_0_Globals v_m_0_Pool v_m_0_Methods : Value)  (r : (List types_Row) × Int) (H : types_Rows.f m_0 k_1 = some r) (w : World) (hV : Hp) (sV : Sub hV (hp w)) (h0 : slR k_api_Value hV v_m_0_Globals m_0.Globals) (h1 : slR k_api_Value hV v_m_0_Pool m_0.Pool) (h2 : slR k_api_Method hV v_m_0_Methods m_0.Methods) (h3 : (arrP k_arr245 0 tab0).p hV) :
    Trip Tryz.prog 35 [.agg #[v_m_0_Globals, v_m_0_Pool, v_m_0_Methods, .int .i64 m_0.Migrate], .int .i64 k_1].toArray em hV w (fun v => HO.ex fun u0 : Value => HO.pand (v = .tuple #[u0, .int .i64 r.2]) (HO.seps [slO k_types_Row 119 u0 r.1])) := by
 refine Trip.go 90 Tryz.func35 sV (aS h0 (aS h1 (aS h2 (All.cons (x := arrP k_arr245 0 tab0) h3 (All.nil _))))) fun see => ?_
 obtain ⟨n0, hi⟩ := runF_iff.1 H
 obtain ⟨m0, o, hm0, ho, hr⟩ := iter_some hi
 clear hi
 refine go ?_
 refine SP.box rfl rfl rfl rfl fun b4 => go ?_
 refine CP.seq (go ?_)
 refine SP.jn 6 [1, 2] 21 (.bool ((decide (k_1 < 0)) || (decide (k_1 ≥ (m_0.Methods.length : Int))))) ?_ ?_
 ·refine go ?_
  refine CP.cb ho (fun ho => ?_) fun ho => ?_
  ·refine go ?_
   obtain rfl := fin ho hr
   exact QE.rt (fun _ h => St.selO [0] rfl rfl (St.addO (slO.nil k_types_Row 119) h))
  refine go ?_
  obtain ⟨x11, hx, ho⟩ := elt_bind ho
  refine SP.indexP see 2 rfl Tryz.underlying23 sz34 hx.1 hx.2 rfl rfl rfl rfl (fun p9 => ?_)
  clear hx
  refine k_api_Method.load see 0 rfl Tryz.underlying34 rfl sz34 rfl rfl rfl (fun v12 v14 v16 => ?_)
  refine SP.alloc (cs := [(.slice none 0 0), (.slice none 0 0), .int .u8 0, .bool false, .int .i64 0, .int .i64 0, .int .i64 0, (.slice none 0 0)]) inf34 rfl rfl (fun b18 => ?_)
  refine SP.have (fun w2 hw => slR.shape (St.pers 0 rfl see.sub see.dj hw)) (fun hs_v12 => ?_)
  refine SP.have (fun w2 hw => slR.shape (St.pers 1 rfl see.sub see.dj hw)) (fun hs_v14 => ?_)
  refine SP.have (fun w2 hw => slR.shape (St.pers 2 rfl see.sub see.dj hw)) (fun hs_v16 => ?_)
  refine SP.store (v := .agg #[v12, v14, .int .u8 x11.Result, .bool x11.Reads, .int .i64 x11.Fuel, .int .i64 x11.Stack, .int .i64 x11.Heap, v16]) (vs := [v12, v14, .int .u8 x11.Result, .bool x11.Reads, .int .i64 x11.Fuel, .int .i64 x11.Stack, .int .i64 x11.Heap, v16]) 0 (by rfl) sz34 (by rfl) (by rfl) (by rfl) (by rfl) (one_cons hs_v12 (one_cons hs_v14 (one_cons rfl (one_cons rfl (one_cons rfl (one_cons rfl (one_cons rfl (one_cons hs_v16 (rfl))))))))) (by rfl) (go ?_)
  refine CP.seq (go ?_)
  obtain ⟨t20, hc, ho⟩ := bind_some ho
  refine SP.callV see (caps := []) (.int .i64 t20) fn12 rfl rfl rfl rfl (fun w2 hP hs sub ap => flow_Check.ok _ _ _ hc w2 hP sub (ap.get 2 rfl) (ap.get 7 rfl)) ?_
  clear hc
  refine go ?_
  refine CP.ci ho (fun ho => ?_) fun ho => ?_
  ·refine go ?_
   obtain rfl := fin ho hr
   exact QE.rt (fun _ h => St.selO [0] rfl rfl (St.addO (slO.nil k_types_Row 119) h))
  refine go ?_
  refine CP.seq ?_
  refine CP.drawA (by kernel_rfl) (fun w2 k h => h.drawn k) ?_
  refine DA.ph 0 11 ?_
  refine DT.tv 0 rfl (Val.loadA 1 rfl Tryz.underlying25 rfl sz25 rfl rfl rfl) ?_
  refine DT.tv 1 rfl (Val.loadA 0 rfl Tryz.underlying34 rfl sz34 rfl rfl rfl) ?_
  refine DT.tk 2 ?_
  refine DT.tk 3 ?_
  refine DT.tk 4 ?_
  refine DT.tk 5 ?_
  obtain ⟨t1828, hc_t1828, ho⟩ := bind_some ho
  refine DT.list (l2 := #[true, true, true, true, true, true, false, false, false, false, false, false]) (by kernel_rfl) ?_
  refine DT.cut (ι := Value × Value × Nat × Nat) (fun z => [(6, .pointer (some ⟨b18, 0, none⟩)), (8, .pointer (some ⟨z.2.2.2, 0, none⟩)), (42, .pointer (some ⟨z.2.2.1, 0, none⟩))]) (fun z w2 => St w em hV [slP (kInt .u8) v12 x11.Args, slP (kInt .u8) v14 x11.Locals, slP k_api_Instr v16 x11.Code, elP k_api_Method p9 x11, slP k_api_Value v_m_0_Globals m_0.Globals, slP k_api_Value v_m_0_Pool m_0.Pool, slP k_api_Method v_m_0_Methods m_0.Methods, arrP k_arr245 0 tab0] [boxO z.2.2.2 [.pointer none] 116, arrK k_types_Row z.2.2.1 [v_m_0_Globals, v_m_0_Pool, v_m_0_Methods, .int .i64 m_0.Migrate, v12, v14, .int .u8 x11.Result, .bool x11.Reads, .int .i64 x11.Fuel, .int .i64 x11.Stack, .int .i64 x11.Heap, v16, z.2.1] 200 (List.replicate 200 types_Row.zero : List types_Row) [] 122, slO (kInt .u8) 5 z.2.1 t1828, slO (kSl (kInt .u8)) 31 z.1 [x11.Args, x11.Locals], boxO b18 [v12, v14, .int .u8 x11.Result, .bool x11.Reads, .int .i64 x11.Fuel, .int .i64 x11.Stack, .int .i64 x11.Heap, v16] 34, boxO b4 [v_m_0_Globals, v_m_0_Pool, v_m_0_Methods, .int .i64 m_0.Migrate] 25] w2) 1 #[true, true, true, true, true, true, true, true, true, true, true, false] (fun z => ?_) (fun J2746 => ?_)
  ·obtain ⟨v1430, v1630, b2030, b2230⟩ := z
   refine DT.next (by kernel_rfl) ?_
   refine DA.one 11 rfl (by kernel_rfl) ?_
   refine SP.store (v := .pointer (some ⟨b2030, 0, none⟩)) (vs := [.pointer (some ⟨b2030, 0, none⟩)]) 0 (by rfl) sz116 (by rfl) (by rfl) (by rfl) (by rfl) (by rfl) (by rfl) (go ?_)
   refine QE.atA ?_
   refine DA.done (by kernel_rfl) (go ?_)
   refine CP.seq (go ?_)
   refine SP.val (Val.makeFunc (us := []) (vs := [.pointer (some ⟨b2230, 0, none⟩)]) rfl rfl) rfl rfl rfl ?_
   obtain ⟨t2747, hc, ho⟩ := bind_some ho
   refine SP.callVO see (caps := []) (.bool t2747) fn66 rfl rfl rfl rfl (fun w2 hs => slices_ContainsFunc_api_Instr_api_Instr_s3.ok _ _ _ _ _ _ _ _ _ _ _ _ _ _ _ _ _ _ _ _ _ _ _ _ _ hc w2 (hp w2) (Sub.refl _) ((St.pers 2 rfl see.sub see.dj hs)) ((St.pers 4 rfl see.sub see.dj hs)) ((St.pers 5 rfl see.sub see.dj hs)) ((St.pers 6 rfl see.sub see.dj hs)) ((St.pers 0 rfl see.sub see.dj hs)) ((St.pers 1 rfl see.sub see.dj hs)) ((St.pers 2 rfl see.sub see.dj hs)) (slO.read (St.own 2 rfl see.sub see.dj hs) (Sub.refl _) (Sub.refl _)) (arrK.preP (St.own 1 rfl see.sub see.dj hs)) (St.own 0 rfl see.sub see.dj hs)) ?_
   clear hc
   refine go ?_
   refine CP.cb ho (fun ho => ?_) fun ho => ?_
   ·refine go ?_
    obtain rfl := fin ho hr
    exact QE.rt (fun _ h => St.selO [0] rfl rfl (St.addO (slO.nil k_types_Row 119) h))
   refine go ?_
   obtain ⟨x2749, hx_x2749, ho⟩ := elt_bind ho
   refine SP.val (Val.indexK see 1 rfl Tryz.underlying120 sz119 hx_x2749.1 hx_x2749.2 rfl rfl) rfl rfl rfl ?_
   refine SP.val (Val.fieldX Tryz.underlying119 rfl sz4 rfl) rfl rfl rfl ?_
   refine SP.storeK (j := 0) (z0 := ({ x2749 with Reached := true } : types_Row)) (vs := [.bool true]) see 1 0 rfl hx_x2749.2 rfl (by rfl) sz4 rfl (fun a cs ap r => by obtain ⟨v0_, e, p0_⟩ := r; subst e; exact ⟨v0_, rfl, p0_⟩) rfl rfl rfl (go ?_)
   refine CP.seq (go ?_)
   refine CP.freezeS see 2 rfl ?_
   obtain rfl := Option.some.inj ho
   refine CP.loop (fun cl1 a w2 => ∃ l2826 : List types_Row, ∃ x2827 : Int, cl1 ≤ m0 ∧ iter (types_Rows.F m_0 k_1) cl1 (.l1 x11 t1828 l2826 x2827) = some r ∧ Env ⟨90, []⟩ [(6, .pointer (some ⟨b18, 0, none⟩)), (8, .pointer (some ⟨b2230, 0, none⟩)), (54, .int .i64 (x11.Code.length : Int)), (55, .int .i64 x2827)] a ∧ St w em hV [slP (kInt .u8) v1630 t1828, slP (kInt .u8) v12 x11.Args, slP (kInt .u8) v14 x11.Locals, slP k_api_Instr v16 x11.Code, slP k_api_Value v_m_0_Globals m_0.Globals, slP k_api_Value v_m_0_Pool m_0.Pool, slP k_api_Method v_m_0_Methods m_0.Methods, arrP k_arr245 0 tab0] [boxO b2230 [.pointer (some ⟨b2030, 0, none⟩)] 116, arrK k_types_Row b2030 [v_m_0_Globals, v_m_0_Pool, v_m_0_Methods, .int .i64 m_0.Migrate, v12, v14, .int .u8 x11.Result, .bool x11.Reads, .int .i64 x11.Fuel, .int .i64 x11.Stack, .int .i64 x11.Heap, v16, v1630] 200 l2826 [] 122, boxO b18 [v12, v14, .int .u8 x11.Result, .bool x11.Reads, .int .i64 x11.Fuel, .int .i64 x11.Stack, .int .i64 x11.Heap, v16] 34] w2) m0 (fun a w2 ha hw => ⟨((List.replicate 200 types_Row.zero : List types_Row).set (0 : Int).toNat ({ x2749 with Reached := true } : types_Row)), 0, Nat.le_refl _, hr, ha.sub sb, (St.selP [0, 1, 2, 3, 5, 6, 7, 8] rfl (St.selO [0, 1, 3] rfl rfl hw))⟩) ?_
   clear hr
   rintro cl1 a w2 ⟨l2826, x2827, hc_l1, hi, ha, hw⟩
   obtain ⟨m2828, o, hm_m2828, ho, hr⟩ := iter_some hi
   refine CP.app ha hw ?_
   clear ha hw a w2 hi
   refine go ?_
   refine CP.seq ?_
   refine CP.ci ho (fun ho => ?_) fun ho => ?_
   ·refine go ?_
    refine CP.seq (go ?_)
    refine SP.imp (fun w2 hw => St.selO [1, 0, 2] rfl rfl hw) ?_
    obtain ⟨t2829, hc, ho⟩ := bind_some ho
    refine SP.callA see (caps := []) _ fn79 rfl rfl rfl rfl (fun w2 hP h1 sub s1 d1 ap hI => types_look_place_s1.ok _ _ _ _ _ _ _ _ _ _ _ _ _ _ _ _ _ _ _ _ _ _ _ hc w2 hP sub (ap.get 4 rfl) (ap.get 5 rfl) (ap.get 6 rfl) (ap.get 1 rfl) (ap.get 2 rfl) (ap.get 3 rfl) (ap.get 0 rfl) (ap.get 7 rfl) _ h1 s1 d1 hI) (SP.k0 ?_)
    clear hc
    refine go ?_
    refine CP.ci ho (fun ho => ?_) fun ho => ?_
    ·refine go ?_
     obtain rfl := fin ho hr
     exact QE.rt (fun _ h => St.selO [0] rfl rfl (St.addO (slO.nil k_types_Row 119) h))
    refine go ?_
    obtain rfl := Option.some.inj ho
    exact QE.lower m2828 (by omega) fun a w2 ha hw => ⟨t2829.2, (IntKind.i64.wrap (x2827 + 1)), (by omega), hr, ha.sub sb, (St.selO [1, 0, 2] rfl rfl hw)⟩
   refine go ?_
   refine CP.seq ?_
   refine CP.drawA (by kernel_rfl) (fun w2 k h => h.drawn k) ?_
   refine DA.ph 0 6 ?_
   refine DT.tk 0 ?_
   refine DT.tk 1 ?_
   refine DT.tk 2 ?_
   refine DT.tk 3 ?_
   refine DT.tk 4 ?_
   refine DT.tk 5 ?_
   refine DT.next (by kernel_rfl) ?_
   refine DA.one 6 rfl (by kernel_rfl) ?_
   obtain ⟨hz, ho⟩ := must_some ho
   refine SP.sliceK see 1 rfl Tryz.underlying120 sz119 rfl rfl rfl hz rfl rfl (fun v2831 => ?_)
   clear hz
   refine go ?_
   refine QE.atA ?_
   refine DA.one 7 rfl (by kernel_rfl) ?_
   obtain ⟨t2833, hc, ho⟩ := bind_some ho
   refine SP.callK see (caps := []) _ fn80 rfl rfl rfl rfl (fun w2 hP hs sub ap => slices_Clone_types_Row_types_Row.ok _ _ _ hc w2 hP sub (ap.get 0 rfl)) (SP.k1 fun v2834 => ?_)
   clear hc
   refine go ?_
   refine QE.atA ?_
   refine DA.one 8 rfl (by kernel_rfl) (go ?_)
   refine QE.atA ?_
   refine DA.done (by kernel_rfl) (go ?_)
   refine CP.seq (go ?_)
   refine SP.val (Val.lenW (fun w2 hw => slO.whole (St.own 0 rfl see.sub see.dj hw)) Tryz.underlying67 rfl) rfl rfl rfl (go ?_)
   obtain rfl := Option.some.inj ho
   refine CP.loop (fun cl2 a w2 => ∃ l2848 : List types_Row, ∃ x2850 : Int, ∃ v2849 : Value, cl2 ≤ m2828 ∧ iter (types_Rows.F m_0 k_1) cl2 (.l2 t2833 l2848 x2850) = some r ∧ Env ⟨90, []⟩ [(11, v2849), (74, .int .i64 (t2833.length : Int)), (75, .int .i64 x2850)] a ∧ St w em hV [arrP k_arr245 0 tab0] [slO k_types_Row 119 v2849 l2848] w2) m2828 (fun a w2 ha hw => ⟨t2833, 0, v2834, Nat.le_refl _, hr, ha.sub sb, (St.selP [8] rfl (St.selO [0] rfl rfl hw))⟩) ?_
   clear hr
   rintro cl2 a w2 ⟨l2848, x2850, v2849, hc_l2, hi, ha, hw⟩
   obtain ⟨m2851, o, hm_m2851, ho, hr⟩ := iter_some hi
   refine CP.app ha hw ?_
   clear ha hw a w2 hi
   refine go ?_
   refine CP.seq ?_
   refine CP.ci ho (fun ho => ?_) fun ho => ?_
   ·refine go ?_
    refine CP.seq (go ?_)
    obtain ⟨x2853, hx_x2853, ho⟩ := elt_bind ho
    refine SP.indexW (fun w2 hw => slO.whole (St.own 0 rfl see.sub see.dj hw)) Tryz.underlying67 sz119 hx_x2853.1 hx_x2853.2 rfl rfl rfl rfl (fun p2852 h_p2852 => ?_)
    refine SP.fieldO h_p2852 Tryz.underlying119 rfl sz31 rfl rfl rfl (fun p2854 h_p2854 => ?_)
    refine SP.loadOS (j := x2850) see 0 1 rfl hx_x2853.2 h_p2854 (fun _ _ ⟨v0_, e, p0_⟩ => ⟨v0_, by subst e; rfl, p0_⟩) Tryz.underlying31 rfl rfl rfl (fun v2855 => ?_)
    obtain ⟨t2857, hc, ho⟩ := bind_some ho
    refine SP.callK see (caps := []) _ fn81 rfl rfl rfl rfl (fun w2 hP hs sub ap => slices_Clone_uint8_uint8.ok _ _ _ hc w2 hP sub (ap.get 0 rfl)) (SP.k1 fun v2858 => ?_)
    clear hc
    obtain ⟨x2861, hx_x2861, ho⟩ := elt_bind ho
    refine SP.indexW (fun w2 hw => slO.whole (St.own 1 rfl see.sub see.dj hw)) Tryz.underlying67 sz119 hx_x2861.1 hx_x2861.2 rfl rfl rfl rfl (fun p2860 h_p2860 => ?_)
    refine SP.fieldO h_p2860 Tryz.underlying119 rfl sz31 rfl rfl rfl (fun p2862 h_p2862 => ?_)
    refine SP.freezeS see 0 rfl ?_
    refine SP.have (fun w2 hw => slR.shape (St.pers 0 rfl see.sub see.dj hw)) (fun hs_v2858 => ?_)
    refine SP.storeO (z0 := ({ x2861 with Kinds := t2857 } : types_Row)) (off := 1) (vs := [v2858]) see 0 rfl hx_x2861.2 h_p2862 (one_cells hs_v2858) (one_cons hs_v2858 (rfl)) sz31 rfl (fun a cs ap r => by obtain ⟨v0_, e, p0_⟩ := r; subst e; exact ⟨v2858, rfl, ap.get 0 rfl⟩) rfl rfl rfl (go ?_)
    obtain rfl := Option.some.inj ho
    exact QE.lower m2851 (by omega) fun a w2 ha hw => ⟨(l2848.set x2850.toNat ({ x2861 with Kinds := t2857 } : types_Row)), (IntKind.i64.wrap (x2850 + 1)), v2849, (by omega), hr, ha.sub sb, (St.selP [2] rfl hw)⟩
   refine go ?_
   obtain rfl := fin ho hr
   exact QE.rt (fun _ h => St.selO [0] rfl rfl h)
  refine DT.cut (ι := Value × Value × Nat) (fun z => [(6, .pointer (some ⟨b18, 0, none⟩)), (42, .pointer (some ⟨z.2.2, 0, none⟩))]) (fun z w2 => St w em hV [slP (kInt .u8) v12 x11.Args, slP (kInt .u8) v14 x11.Locals, slP k_api_Instr v16 x11.Code, elP k_api_Method p9 x11, slP k_api_Value v_m_0_Globals m_0.Globals, slP k_api_Value v_m_0_Pool m_0.Pool, slP k_api_Method v_m_0_Methods m_0.Methods, arrP k_arr245 0 tab0] [arrK k_types_Row z.2.2 [v_m_0_Globals, v_m_0_Pool, v_m_0_Methods, .int .i64 m_0.Migrate, v12, v14, .int .u8 x11.Result, .bool x11.Reads, .int .i64 x11.Fuel, .int .i64 x11.Stack, .int .i64 x11.Heap, v16, z.2.1] 200 (List.replicate 200 types_Row.zero : List types_Row) [] 122, slO (kInt .u8) 5 z.2.1 t1828, slO (kSl (kInt .u8)) 31 z.1 [x11.Args, x11.Locals], boxO b18 [v12, v14, .int .u8 x11.Result, .bool x11.Reads, .int .i64 x11.Fuel, .int .i64 x11.Stack, .int .i64 x11.Heap, v16] 34, boxO b4 [v_m_0_Globals, v_m_0_Pool, v_m_0_Methods, .int .i64 m_0.Migrate] 25] w2) 2 #[true, true, true, true, true, true, true, true, true, true, false, false] (fun z => ?_) (fun J2868 => ?_)
  ·obtain ⟨v1430, v1630, b2030⟩ := z
   refine DT.one 10 rfl (by kernel_rfl) rfl ?_
   refine SP.alloc (cs := [.pointer none]) inf116 rfl rfl (fun b2230 => go ?_)
   refine QE.atT (fun w2 hw => (St.selO [4, 5] rfl rfl hw)) ?_
   refine DT.list (l2 := #[true, true, true, true, true, true, true, true, true, true, true, false]) (by kernel_rfl) ?_
   exact DT.weak (by exact ⟨rfl, rfl, rfl, trivial⟩) (by exact fun w2 hw => hw) (J2746 (v1430, v1630, b2030, b2230))
  refine DT.cut (ι := Value × Value × Nat) (fun z => [(6, .pointer (some ⟨b18, 0, none⟩)), (8, .pointer (some ⟨z.2.2, 0, none⟩)), (41, .agg (([v_m_0_Globals, v_m_0_Pool, v_m_0_Methods, .int .i64 m_0.Migrate, v12, v14, .int .u8 x11.Result, .bool x11.Reads, .int .i64 x11.Fuel, .int .i64 x11.Stack, .int .i64 x11.Heap, v16, z.2.1] ++ zz200_2384)).toArray)]) (fun z w2 => St w em hV [slP (kInt .u8) v12 x11.Args, slP (kInt .u8) v14 x11.Locals, slP k_api_Instr v16 x11.Code, elP k_api_Method p9 x11, slP k_api_Value v_m_0_Globals m_0.Globals, slP k_api_Value v_m_0_Pool m_0.Pool, slP k_api_Method v_m_0_Methods m_0.Methods, arrP k_arr245 0 tab0] [boxO z.2.2 [.pointer none] 116, slO (kInt .u8) 5 z.2.1 t1828, slO (kSl (kInt .u8)) 31 z.1 [x11.Args, x11.Locals], boxO b18 [v12, v14, .int .u8 x11.Result, .bool x11.Reads, .int .i64 x11.Fuel, .int .i64 x11.Stack, .int .i64 x11.Heap, v16] 34, boxO b4 [v_m_0_Globals, v_m_0_Pool, v_m_0_Methods, .int .i64 m_0.Migrate] 25] w2) 2 #[true, true, true, true, true, true, true, true, true, false, true, false] (fun z => ?_) (fun J2869 => ?_)
  ·obtain ⟨v1430, v1630, b2230⟩ := z
   refine DT.one 9 rfl (by kernel_rfl) rfl ?_
   refine SP.box rfl rfl rfl rfl fun b2030 => ?_
   refine SP.imp (fun w2 hw => St.arrK (k := k_types_Row) 0 rfl (List.replicate 200 types_Row.zero : List types_Row) [v_m_0_Globals, v_m_0_Pool, v_m_0_Methods, .int .i64 m_0.Migrate, v12, v14, .int .u8 x11.Result, .bool x11.Reads, .int .i64 x11.Fuel, .int .i64 x11.Stack, .int .i64 x11.Heap, v16, v1630] zz200_2384 [] (Flat.rep (k := k_types_Row) (z := [.bool false, (.slice none 0 0)]) (x := types_Row.zero) ⟨_, rfl, slP.nil _ _⟩ 200) (congrArg _ (List.append_nil _).symm) List.length_replicate hw) (go ?_)
   refine QE.atT (fun w2 hw => (St.selO [4, 5] rfl rfl hw)) ?_
   refine DT.list (l2 := #[true, true, true, true, true, true, true, true, true, true, true, false]) (by kernel_rfl) ?_
   exact DT.weak (by exact ⟨rfl, rfl, rfl, trivial⟩) (by exact fun w2 hw => (St.selO [1, 0, 2, 3, 4, 5] rfl rfl hw)) (J2746 (v1430, v1630, b2030, b2230))
  refine DT.cut (ι := Value × Value) (fun z => [(6, .pointer (some ⟨b18, 0, none⟩)), (41, .agg (([v_m_0_Globals, v_m_0_Pool, v_m_0_Methods, .int .i64 m_0.Migrate, v12, v14, .int .u8 x11.Result, .bool x11.Reads, .int .i64 x11.Fuel, .int .i64 x11.Stack, .int .i64 x11.Heap, v16, z.2] ++ zz200_2384)).toArray)]) (fun z w2 => St w em hV [slP (kInt .u8) v12 x11.Args, slP (kInt .u8) v14 x11.Locals, slP k_api_Instr v16 x11.Code, elP k_api_Method p9 x11, slP k_api_Value v_m_0_Globals m_0.Globals, slP k_api_Value v_m_0_Pool m_0.Pool, slP k_api_Method v_m_0_Methods m_0.Methods, arrP k_arr245 0 tab0] [slO (kInt .u8) 5 z.2 t1828, slO (kSl (kInt .u8)) 31 z.1 [x11.Args, x11.Locals], boxO b18 [v12, v14, .int .u8 x11.Result, .bool x11.Reads, .int .i64 x11.Fuel, .int .i64 x11.Stack, .int .i64 x11.Heap, v16] 34, boxO b4 [v_m_0_Globals, v_m_0_Pool, v_m_0_Methods, .int .i64 m_0.Migrate] 25] w2) 3 #[true, true, true, true, true, true, true, true, true, false, false, false] (fun z => ?_) (fun J2870 => ?_)
  ·obtain ⟨v1430, v1630⟩ := z
   refine DT.any 9 [10] (by kernel_rfl) ⟨⟨_, rfl, rfl, ?_⟩, ⟨_, rfl, rfl, ?_⟩, trivial⟩
   ·refine SP.box rfl rfl rfl rfl fun b2030 => ?_
    refine SP.imp (fun w2 hw => St.arrK (k := k_types_Row) 0 rfl (List.replicate 200 types_Row.zero : List types_Row) [v_m_0_Globals, v_m_0_Pool, v_m_0_Methods, .int .i64 m_0.Migrate, v12, v14, .int .u8 x11.Result, .bool x11.Reads, .int .i64 x11.Fuel, .int .i64 x11.Stack, .int .i64 x11.Heap, v16, v1630] zz200_2384 [] (Flat.rep (k := k_types_Row) (z := [.bool false, (.slice none 0 0)]) (x := types_Row.zero) ⟨_, rfl, slP.nil _ _⟩ 200) (congrArg _ (List.append_nil _).symm) List.length_replicate hw) (go ?_)
    refine QE.atT (fun w2 hw => (St.selO [3, 4] rfl rfl hw)) ?_
    refine DT.list (l2 := #[true, true, true, true, true, true, true, true, true, true, false, false]) (by kernel_rfl) ?_
    exact DT.weak (by exact ⟨rfl, rfl, trivial⟩) (by exact fun w2 hw => hw) (J2868 (v1430, v1630, b2030))
   refine SP.alloc (cs := [.pointer none]) inf116 rfl rfl (fun b2230 => go ?_)
   refine QE.atT (fun w2 hw => (St.selO [3, 4] rfl rfl hw)) ?_
   refine DT.list (l2 := #[true, true, true, true, true, true, true, true, true, false, true, false]) (by kernel_rfl) ?_
   exact DT.weak (by exact ⟨rfl, rfl, rfl, trivial⟩) (by exact fun w2 hw => hw) (J2869 (v1430, v1630, b2230))
  refine DT.cut (ι := Value × Value × Nat) (fun z => [(6, .pointer (some ⟨b18, 0, none⟩)), (8, .pointer (some ⟨z.2.2, 0, none⟩)), (33, .agg #[v_m_0_Globals, v_m_0_Pool, v_m_0_Methods, .int .i64 m_0.Migrate]), (34, .agg #[v12, v14, .int .u8 x11.Result, .bool x11.Reads, .int .i64 x11.Fuel, .int .i64 x11.Stack, .int .i64 x11.Heap, v16]), (40, z.2.1)]) (fun z w2 => St w em hV [slP (kInt .u8) v12 x11.Args, slP (kInt .u8) v14 x11.Locals, slP k_api_Instr v16 x11.Code, elP k_api_Method p9 x11, slP k_api_Value v_m_0_Globals m_0.Globals, slP k_api_Value v_m_0_Pool m_0.Pool, slP k_api_Method v_m_0_Methods m_0.Methods, arrP k_arr245 0 tab0] [boxO z.2.2 [.pointer none] 116, slO (kInt .u8) 5 z.2.1 t1828, slO (kSl (kInt .u8)) 31 z.1 [x11.Args, x11.Locals], boxO b18 [v12, v14, .int .u8 x11.Result, .bool x11.Reads, .int .i64 x11.Fuel, .int .i64 x11.Stack, .int .i64 x11.Heap, v16] 34, boxO b4 [v_m_0_Globals, v_m_0_Pool, v_m_0_Methods, .int .i64 m_0.Migrate] 25] w2) 3 #[true, true, true, true, true, true, true, true, false, false, true, false] (fun z => ?_) (fun J2875 => ?_)
  ·obtain ⟨v1430, v1630, b2230⟩ := z
   refine DT.one 8 rfl (by kernel_rfl) rfl ?_
   refine SP.have (fun w2 hw => slO.shape (St.own 1 rfl see.sub see.dj hw)) (fun hs_v1630 => ?_)
   refine SP.val (Val.buildC (us := [(0, .agg #[v_m_0_Globals, v_m_0_Pool, v_m_0_Methods, .int .i64 m_0.Migrate]), (1, .agg #[v12, v14, .int .u8 x11.Result, .bool x11.Reads, .int .i64 x11.Fuel, .int .i64 x11.Stack, .int .i64 x11.Heap, v16]), (2, v1630)]) (ucs := [(0, [v_m_0_Globals, v_m_0_Pool, v_m_0_Methods, .int .i64 m_0.Migrate]), (1, [v12, v14, .int .u8 x11.Result, .bool x11.Reads, .int .i64 x11.Fuel, .int .i64 x11.Stack, .int .i64 x11.Heap, v16]), (2, [v1630])]) (cs := ([v_m_0_Globals, v_m_0_Pool, v_m_0_Methods, .int .i64 m_0.Migrate, v12, v14, .int .u8 x11.Result, .bool x11.Reads, .int .i64 x11.Fuel, .int .i64 x11.Stack, .int .i64 x11.Heap, v16, v1630] ++ zz200_2384)) bt122 rfl rfl ⟨rfl, rfl, ⟨rfl, rfl, ⟨rfl, one_cells hs_v1630, trivial⟩⟩⟩ (by rfl)) rfl rfl rfl (go ?_)
   refine QE.atT (fun w2 hw => (St.selO [3, 4] rfl rfl hw)) ?_
   refine DT.list (l2 := #[true, true, true, true, true, true, true, true, true, false, true, false]) (by kernel_rfl) ?_
   exact DT.weak (by exact ⟨rfl, rfl, rfl, trivial⟩) (by exact fun w2 hw => hw) (J2869 (v1430, v1630, b2230))
  refine DT.cut (ι := Value × Value) (fun z => [(6, .pointer (some ⟨b18, 0, none⟩)), (33, .agg #[v_m_0_Globals, v_m_0_Pool, v_m_0_Methods, .int .i64 m_0.Migrate]), (34, .agg #[v12, v14, .int .u8 x11.Result, .bool x11.Reads, .int .i64 x11.Fuel, .int .i64 x11.Stack, .int .i64 x11.Heap, v16]), (40, z.2)]) (fun z w2 => St w em hV [slP (kInt .u8) v12 x11.Args, slP (kInt .u8) v14 x11.Locals, slP k_api_Instr v16 x11.Code, elP k_api_Method p9 x11, slP k_api_Value v_m_0_Globals m_0.Globals, slP k_api_Value v_m_0_Pool m_0.Pool, slP k_api_Method v_m_0_Methods m_0.Methods, arrP k_arr245 0 tab0] [slO (kInt .u8) 5 z.2 t1828, slO (kSl (kInt .u8)) 31 z.1 [x11.Args, x11.Locals], boxO b18 [v12, v14, .int .u8 x11.Result, .bool x11.Reads, .int .i64 x11.Fuel, .int .i64 x11.Stack, .int .i64 x11.Heap, v16] 34, boxO b4 [v_m_0_Globals, v_m_0_Pool, v_m_0_Methods, .int .i64 m_0.Migrate] 25] w2) 4 #[true, true, true, true, true, true, true, true, false, false, false, false] (fun z => ?_) (fun J2878 => ?_)
  ·obtain ⟨v1430, v1630⟩ := z
   refine DT.any 8 [10] (by kernel_rfl) ⟨⟨_, rfl, rfl, ?_⟩, ⟨_, rfl, rfl, ?_⟩, trivial⟩
   ·refine SP.have (fun w2 hw => slO.shape (St.own 0 rfl see.sub see.dj hw)) (fun hs_v1630 => ?_)
    refine SP.val (Val.buildC (us := [(0, .agg #[v_m_0_Globals, v_m_0_Pool, v_m_0_Methods, .int .i64 m_0.Migrate]), (1, .agg #[v12, v14, .int .u8 x11.Result, .bool x11.Reads, .int .i64 x11.Fuel, .int .i64 x11.Stack, .int .i64 x11.Heap, v16]), (2, v1630)]) (ucs := [(0, [v_m_0_Globals, v_m_0_Pool, v_m_0_Methods, .int .i64 m_0.Migrate]), (1, [v12, v14, .int .u8 x11.Result, .bool x11.Reads, .int .i64 x11.Fuel, .int .i64 x11.Stack, .int .i64 x11.Heap, v16]), (2, [v1630])]) (cs := ([v_m_0_Globals, v_m_0_Pool, v_m_0_Methods, .int .i64 m_0.Migrate, v12, v14, .int .u8 x11.Result, .bool x11.Reads, .int .i64 x11.Fuel, .int .i64 x11.Stack, .int .i64 x11.Heap, v16, v1630] ++ zz200_2384)) bt122 rfl rfl ⟨rfl, rfl, ⟨rfl, rfl, ⟨rfl, one_cells hs_v1630, trivial⟩⟩⟩ (by rfl)) rfl rfl rfl (go ?_)
    refine QE.atT (fun w2 hw => (St.selO [2, 3] rfl rfl hw)) ?_
    refine DT.list (l2 := #[true, true, true, true, true, true, true, true, true, false, false, false]) (by kernel_rfl) ?_
    exact DT.weak (by exact ⟨rfl, rfl, trivial⟩) (by exact fun w2 hw => hw) (J2870 (v1430, v1630))
   refine SP.alloc (cs := [.pointer none]) inf116 rfl rfl (fun b2230 => go ?_)
   refine QE.atT (fun w2 hw => (St.selO [3, 4] rfl rfl hw)) ?_
   refine DT.list (l2 := #[true, true, true, true, true, true, true, true, false, false, true, false]) (by kernel_rfl) ?_
   exact DT.weak (by exact ⟨rfl, rfl, rfl, rfl, rfl, trivial⟩) (by exact fun w2 hw => hw) (J2875 (v1430, v1630, b2230))
  refine DT.cut (ι := Value × Nat) (fun z => [(6, .pointer (some ⟨b18, 0, none⟩)), (8, .pointer (some ⟨z.2, 0, none⟩)), (33, .agg #[v_m_0_Globals, v_m_0_Pool, v_m_0_Methods, .int .i64 m_0.Migrate]), (34, .agg #[v12, v14, .int .u8 x11.Result, .bool x11.Reads, .int .i64 x11.Fuel, .int .i64 x11.Stack, .int .i64 x11.Heap, v16]), (39, z.1)]) (fun z w2 => St w em hV [slP (kInt .u8) v12 x11.Args, slP (kInt .u8) v14 x11.Locals, slP k_api_Instr v16 x11.Code, elP k_api_Method p9 x11, slP k_api_Value v_m_0_Globals m_0.Globals, slP k_api_Value v_m_0_Pool m_0.Pool, slP k_api_Method v_m_0_Methods m_0.Methods, arrP k_arr245 0 tab0] [boxO z.2 [.pointer none] 116, slO (kSl (kInt .u8)) 31 z.1 [x11.Args, x11.Locals], boxO b18 [v12, v14, .int .u8 x11.Result, .bool x11.Reads, .int .i64 x11.Fuel, .int .i64 x11.Stack, .int .i64 x11.Heap, v16] 34, boxO b4 [v_m_0_Globals, v_m_0_Pool, v_m_0_Methods, .int .i64 m_0.Migrate] 25] w2) 4 #[true, true, true, true, true, true, true, false, false, false, true, false] (fun z => ?_) (fun J2883 => ?_)
  ·obtain ⟨v1430, b2230⟩ := z
   refine DT.one 7 rfl (by kernel_rfl) rfl ?_
   refine SP.callKO see (caps := []) _ fn76 rfl rfl rfl rfl (fun w2 hs => slices_Concat_uint8_uint8.ok [x11.Args, x11.Locals] _ _ hc_t1828 w2 (hp w2) (Sub.refl _) (slO.read (St.own 1 rfl see.sub see.dj hs) (Sub.refl _) (Sub.refl _))) (fun v a a2 b ⟨v1630, e, h⟩ => ⟨v1630, e, (Sep.fcons (fun _ => slO.flip (fun _ _ _ _ h => h)) (fun _ => Sep.fnil)) h⟩) (SP.k1 fun v1630 => go ?_)
   refine QE.atT (fun w2 hw => (St.selO [3, 4] rfl rfl hw)) ?_
   refine DT.list (l2 := #[true, true, true, true, true, true, true, true, false, false, true, false]) (by kernel_rfl) ?_
   exact DT.weak (by exact ⟨rfl, rfl, rfl, rfl, rfl, trivial⟩) (by exact fun w2 hw => (St.selO [1, 0, 2, 3, 4] rfl rfl hw)) (J2875 (v1430, v1630, b2230))
  refine DT.cut (ι := Value) (fun z => [(6, .pointer (some ⟨b18, 0, none⟩)), (33, .agg #[v_m_0_Globals, v_m_0_Pool, v_m_0_Methods, .int .i64 m_0.Migrate]), (34, .agg #[v12, v14, .int .u8 x11.Result, .bool x11.Reads, .int .i64 x11.Fuel, .int .i64 x11.Stack, .int .i64 x11.Heap, v16]), (39, z)]) (fun z w2 => St w em hV [slP (kInt .u8) v12 x11.Args, slP (kInt .u8) v14 x11.Locals, slP k_api_Instr v16 x11.Code, elP k_api_Method p9 x11, slP k_api_Value v_m_0_Globals m_0.Globals, slP k_api_Value v_m_0_Pool m_0.Pool, slP k_api_Method v_m_0_Methods m_0.Methods, arrP k_arr245 0 tab0] [slO (kSl (kInt .u8)) 31 z [x11.Args, x11.Locals], boxO b18 [v12, v14, .int .u8 x11.Result, .bool x11.Reads, .int .i64 x11.Fuel, .int .i64 x11.Stack, .int .i64 x11.Heap, v16] 34, boxO b4 [v_m_0_Globals, v_m_0_Pool, v_m_0_Methods, .int .i64 m_0.Migrate] 25] w2) 5 #[true, true, true, true, true, true, true, false, false, false, false, false] (fun z => ?_) (fun J2884 => ?_)
  ·rename Value => v1430
   refine DT.any 7 [10] (by kernel_rfl) ⟨⟨_, rfl, rfl, ?_⟩, ⟨_, rfl, rfl, ?_⟩, trivial⟩
   ·refine SP.callKO see (caps := []) _ fn76 rfl rfl rfl rfl (fun w2 hs => slices_Concat_uint8_uint8.ok [x11.Args, x11.Locals] _ _ hc_t1828 w2 (hp w2) (Sub.refl _) (slO.read (St.own 0 rfl see.sub see.dj hs) (Sub.refl _) (Sub.refl _))) (fun v a a2 b ⟨v1630, e, h⟩ => ⟨v1630, e, (Sep.fcons (fun _ => slO.flip (fun _ _ _ _ h => h)) (fun _ => Sep.fnil)) h⟩) (SP.k1 fun v1630 => go ?_)
    refine QE.atT (fun w2 hw => (St.selO [2, 3] rfl rfl hw)) ?_
    refine DT.list (l2 := #[true, true, true, true, true, true, true, true, false, false, false, false]) (by kernel_rfl) ?_
    exact DT.weak (by exact ⟨rfl, rfl, rfl, rfl, trivial⟩) (by exact fun w2 hw => hw) (J2878 (v1430, v1630))
   refine SP.alloc (cs := [.pointer none]) inf116 rfl rfl (fun b2230 => go ?_)
   refine QE.atT (fun w2 hw => (St.selO [2, 3] rfl rfl hw)) ?_
   refine DT.list (l2 := #[true, true, true, true, true, true, true, false, false, false, true, false]) (by kernel_rfl) ?_
   exact DT.weak (by exact ⟨rfl, rfl, rfl, rfl, rfl, trivial⟩) (by exact fun w2 hw => hw) (J2883 (v1430, b2230))
  refine DT.cut (ι := Nat) (fun z => [(6, .pointer (some ⟨b18, 0, none⟩)), (8, .pointer (some ⟨z, 0, none⟩)), (33, .agg #[v_m_0_Globals, v_m_0_Pool, v_m_0_Methods, .int .i64 m_0.Migrate]), (34, .agg #[v12, v14, .int .u8 x11.Result, .bool x11.Reads, .int .i64 x11.Fuel, .int .i64 x11.Stack, .int .i64 x11.Heap, v16]), (36, v12), (38, v14)]) (fun z w2 => St w em hV [slP (kInt .u8) v12 x11.Args, slP (kInt .u8) v14 x11.Locals, slP k_api_Instr v16 x11.Code, elP k_api_Method p9 x11, slP k_api_Value v_m_0_Globals m_0.Globals, slP k_api_Value v_m_0_Pool m_0.Pool, slP k_api_Method v_m_0_Methods m_0.Methods, arrP k_arr245 0 tab0] [boxO z [.pointer none] 116, boxO b18 [v12, v14, .int .u8 x11.Result, .bool x11.Reads, .int .i64 x11.Fuel, .int .i64 x11.Stack, .int .i64 x11.Heap, v16] 34, boxO b4 [v_m_0_Globals, v_m_0_Pool, v_m_0_Methods, .int .i64 m_0.Migrate] 25] w2) 5 #[true, true, true, true, true, true, false, false, false, false, true, false] (fun z => ?_) (fun J2888 => ?_)
  ·rename Nat => b2230
   refine DT.one 6 rfl (by kernel_rfl) rfl ?_
   refine SP.litS (k := (kSl (kInt .u8))) (xs := [x11.Args, x11.Locals]) (vs := [v12, v14]) Tryz.underlying191 inf31 rfl rfl rfl rfl rfl rfl (fun _ ap => ⟨slR.cells1 (ap.get 0 rfl), slR.cells1 (ap.get 1 rfl), trivial⟩) (fun _ ap => ⟨[v12], _, rfl, ⟨_, rfl, ap.get 0 rfl⟩, ⟨[v14], _, rfl, ⟨_, rfl, ap.get 1 rfl⟩, rfl⟩⟩) rfl rfl rfl (fun v1430 => go ?_)
   refine QE.atT (fun w2 hw => (St.selO [2, 3] rfl rfl hw)) ?_
   refine DT.list (l2 := #[true, true, true, true, true, true, true, false, false, false, true, false]) (by kernel_rfl) ?_
   exact DT.weak (by exact ⟨rfl, rfl, rfl, rfl, rfl, trivial⟩) (by exact fun w2 hw => (St.selO [1, 0, 2, 3] rfl rfl hw)) (J2883 (v1430, b2230))
  refine DT.any 6 [10] (by kernel_rfl) ⟨⟨_, rfl, rfl, ?_⟩, ⟨_, rfl, rfl, ?_⟩, trivial⟩
  ·refine SP.litS (k := (kSl (kInt .u8))) (xs := [x11.Args, x11.Locals]) (vs := [v12, v14]) Tryz.underlying191 inf31 rfl rfl rfl rfl rfl rfl (fun _ ap => ⟨slR.cells1 (ap.get 0 rfl), slR.cells1 (ap.get 1 rfl), trivial⟩) (fun _ ap => ⟨[v12], _, rfl, ⟨_, rfl, ap.get 0 rfl⟩, ⟨[v14], _, rfl, ⟨_, rfl, ap.get 1 rfl⟩, rfl⟩⟩) rfl rfl rfl (fun v1430 => go ?_)
   refine QE.atT (fun w2 hw => (St.selO [1, 2] rfl rfl hw)) ?_
   refine DT.list (l2 := #[true, true, true, true, true, true, true, false, false, false, false, false]) (by kernel_rfl) ?_
   exact DT.weak (by exact ⟨rfl, rfl, rfl, rfl, trivial⟩) (by exact fun w2 hw => hw) (J2884 v1430)
  refine SP.alloc (cs := [.pointer none]) inf116 rfl rfl (fun b2230 => go ?_)
  refine QE.atT (fun w2 hw => (St.selO [1, 2] rfl rfl hw)) ?_
  refine DT.list (l2 := #[true, true, true, true, true, true, false, false, false, false, true, false]) (by kernel_rfl) ?_
  exact DT.weak (by exact ⟨rfl, rfl, rfl, rfl, rfl, rfl, trivial⟩) (by exact fun w2 hw => hw) (J2888 b2230)
 refine SP.bb 15 (fun hq7 => ?_) fun hq7 => ?_
 ·refine go ?_
  exact QE.jb (or_t hq7) fun w2 hw => hw
 refine go ?_
 exact QE.jb (or_f hq7 rfl) fun w2 hw => hw
def types_Check.f (m_0 : api_Module) (k_1 : Int) : Option Int :=
  (types_Rows.f m_0 k_1).bind fun t6 => some t6.2
theorem types_Check.ok (m_0 : api_Module) (k_1 : Int) (v_m_0_Globals v_m_0_Pool v_m_0_Methods : Value)  (r : Int) (H : types_Check.f m_0 k_1 = some r) (w : World) (hV : Hp) (sV : Sub hV (hp w)) (h0 : slR k_api_Value hV v_m_0_Globals m_0.Globals) (h1 : slR k_api_Value hV v_m_0_Pool m_0.Pool) (h2 : slR k_api_Method hV v_m_0_Methods m_0.Methods) (h3 : (arrP k_arr245 0 tab0).p hV) :
    Trip Tryz.prog 13 [.agg #[v_m_0_Globals, v_m_0_Pool, v_m_0_Methods, .int .i64 m_0.Migrate], .int .i64 k_1].toArray em hV w (fun v => HO.pure (v = .int .i64 r)) := by
 refine Trip.go 14 Tryz.func13 sV (aS h0 (aS h1 (aS h2 (All.cons (x := arrP k_arr245 0 tab0) h3 (All.nil _))))) fun see => ?_
 have ho := H
 refine go ?_
 refine SP.box rfl rfl rfl rfl fun b4 => go ?_
 refine SP.val (Val.loadA 0 rfl Tryz.underlying25 rfl sz25 rfl rfl rfl) rfl rfl rfl (go ?_)
 obtain ⟨t6, hc, ho⟩ := bind_some ho
 refine SP.callK see (caps := []) _ fn35 rfl rfl rfl rfl (fun w2 hP hs sub ap => types_Rows.ok _ _ _ _ _ _ hc w2 hP sub (ap.get 0 rfl) (ap.get 1 rfl) (ap.get 2 rfl) (ap.get 3 rfl)) (SP.k1 fun v7 => ?_)
 clear hc
 refine go ?_
 obtain rfl := Option.some.inj ho
 exact QE.rt (fun _ h => h)
inductive verify_first.S where
  | start
  | l1 (x8 : Int)
def verify_first.F (m_0 : api_Module) : verify_first.S → Option (verify_first.S ⊕ (Int × Int))
  | .start => some (.inl (.l1 0))
  | .l1 x8 => if x8 < (m_0.Methods.length : Int) then ((types_Check.f m_0 x8).bind fun t10 => if t10 ≠ 0 then (some (.inr (x8, t10))) else (some (.inl (.l1 (IntKind.i64.wrap (x8 + 1)))))) else (some (.inr ((-1), 0)))
def verify_first.f (m_0 : api_Module) : Option (Int × Int) := runF (verify_first.F m_0) .start
theorem verify_first.ok (m_0 : api_Module) (v_m_0_Globals v_m_0_Pool v_m_0_Methods : Value)  (r : Int × Int) (H : verify_first.f m_0 = some r) (w : World) (hV : Hp) (sV : Sub hV (hp w)) (h0 : slR k_api_Value hV v_m_0_Globals m_0.Globals) (h1 : slR k_api_Value hV v_m_0_Pool m_0.Pool) (h2 : slR k_api_Method hV v_m_0_Methods m_0.Methods) (h3 : (arrP k_arr245 0 tab0).p hV) :
    Trip Tryz.prog 42 [.agg #[v_m_0_Globals, v_m_0_Pool, v_m_0_Methods, .int .i64 m_0.Migrate]].toArray em hV w (fun v => HO.pure (v = .tuple #[.int .i64 r.1, .int .i64 r.2])) := by
 refine Trip.go 20 Tryz.func42 sV (aS h0 (aS h1 (aS h2 (All.cons (x := arrP k_arr245 0 tab0) h3 (All.nil _))))) fun see => ?_
 obtain ⟨n0, hi⟩ := runF_iff.1 H
 obtain ⟨m0, o, hm0, ho, hr⟩ := iter_some hi
 clear hi
 refine go ?_
 refine SP.box rfl rfl rfl rfl fun b4 => go ?_
 refine CP.seq (go ?_)
 obtain rfl := Option.some.inj ho
 refine CP.loop (fun cl1 a w2 => ∃ x8 : Int, cl1 ≤ m0 ∧ iter (verify_first.F m_0) cl1 (.l1 x8) = some r ∧ Env ⟨20, []⟩ [(1, .pointer (some ⟨b4, 0, none⟩)), (8, .int .i64 (m_0.Methods.length : Int)), (9, .int .i64 x8)] a ∧ St w em hV [slP k_api_Value v_m_0_Globals m_0.Globals, slP k_api_Value v_m_0_Pool m_0.Pool, slP k_api_Method v_m_0_Methods m_0.Methods, arrP k_arr245 0 tab0] [boxO b4 [v_m_0_Globals, v_m_0_Pool, v_m_0_Methods, .int .i64 m_0.Migrate] 25] w2) m0 (fun a w2 ha hw => ⟨0, Nat.le_refl _, hr, ha.sub sb, hw⟩) ?_
 clear hr
 rintro cl1 a w2 ⟨x8, hc_l1, hi, ha, hw⟩
 obtain ⟨m9, o, hm_m9, ho, hr⟩ := iter_some hi
 refine CP.app ha hw ?_
 clear ha hw a w2 hi
 refine go ?_
 refine CP.seq ?_
 refine CP.ci ho (fun ho => ?_) fun ho => ?_
 ·refine go ?_
  refine CP.seq (go ?_)
  refine SP.val (Val.loadA 0 rfl Tryz.underlying25 rfl sz25 rfl rfl rfl) rfl rfl rfl (go ?_)
  obtain ⟨t10, hc, ho⟩ := bind_some ho
  refine SP.callV see (caps := []) (.int .i64 t10) fn13 rfl rfl rfl rfl (fun w2 hP hs sub ap => types_Check.ok _ _ _ _ _ _ hc w2 hP sub (ap.get 0 rfl) (ap.get 1 rfl) (ap.get 2 rfl) (ap.get 3 rfl)) ?_
  clear hc
  refine go ?_
  refine CP.ci ho (fun ho => ?_) fun ho => ?_
  ·refine go ?_
   obtain rfl := fin ho hr
   exact QE.rt (fun _ h => h)
  refine go ?_
  obtain rfl := Option.some.inj ho
  exact QE.lower m9 (by omega) fun a w2 ha hw => ⟨(IntKind.i64.wrap (x8 + 1)), (by omega), hr, ha.sub sb, hw⟩
 refine go ?_
 obtain rfl := fin ho hr
 exact QE.rt (fun _ h => h)
def verify_kinds.f (m_0 : api_Module) : Option Int :=
  (verify_first.f m_0).bind fun t6 => some t6.2
theorem verify_kinds.ok (m_0 : api_Module) (v_m_0_Globals v_m_0_Pool v_m_0_Methods : Value)  (r : Int) (H : verify_kinds.f m_0 = some r) (w : World) (hV : Hp) (sV : Sub hV (hp w)) (h0 : slR k_api_Value hV v_m_0_Globals m_0.Globals) (h1 : slR k_api_Value hV v_m_0_Pool m_0.Pool) (h2 : slR k_api_Method hV v_m_0_Methods m_0.Methods) (h3 : (arrP k_arr245 0 tab0).p hV) :
    Trip Tryz.prog 143 [.agg #[v_m_0_Globals, v_m_0_Pool, v_m_0_Methods, .int .i64 m_0.Migrate]].toArray em hV w (fun v => HO.pure (v = .int .i64 r)) := by
 refine Trip.go 11 Tryz.func143 sV (aS h0 (aS h1 (aS h2 (All.cons (x := arrP k_arr245 0 tab0) h3 (All.nil _))))) fun see => ?_
 have ho := H
 refine go ?_
 refine SP.box rfl rfl rfl rfl fun b4 => go ?_
 refine SP.val (Val.loadA 0 rfl Tryz.underlying25 rfl sz25 rfl rfl rfl) rfl rfl rfl ?_
 obtain ⟨t6, hc, ho⟩ := bind_some ho
 refine SP.callV see (caps := []) (.tuple #[.int .i64 t6.1, .int .i64 t6.2]) fn42 rfl rfl rfl rfl (fun w2 hP hs sub ap => verify_first.ok _ _ _ _ _ hc w2 hP sub (ap.get 0 rfl) (ap.get 1 rfl) (ap.get 2 rfl) (ap.get 3 rfl)) ?_
 clear hc
 refine go ?_
 obtain rfl := Option.some.inj ho
 exact QE.rt (fun _ h => h)
def calls_named.f (m_0 : api_Module) (k_1 : Int) : Option Unit :=
  some ()
theorem calls_named.ok (m_0 : api_Module) (k_1 : Int) (v_m_0_Globals v_m_0_Pool v_m_0_Methods : Value) (r : Unit) (H : calls_named.f m_0 k_1 = some r) (w : World) (hV : Hp) (sV : Sub hV (hp w)) (h0 : slR k_api_Value hV v_m_0_Globals m_0.Globals) (h1 : slR k_api_Value hV v_m_0_Pool m_0.Pool) (h2 : slR k_api_Method hV v_m_0_Methods m_0.Methods) :
    Trip Tryz.prog 47 [.agg #[v_m_0_Globals, v_m_0_Pool, v_m_0_Methods, .int .i64 m_0.Migrate], .int .i64 k_1].toArray em hV w (fun v => HO.ex fun b0_ : Nat => HO.ex fun b1_ : Nat => HO.pand (v = .func (.func 95) #[] #[.pointer (some ⟨b0_, 0, none⟩), .pointer (some ⟨b1_, 0, none⟩)]) (HO.seps [HO.ofP (boxP b0_ [v_m_0_Globals, v_m_0_Pool, v_m_0_Methods, .int .i64 m_0.Migrate] 25), HO.ofP (boxP b1_ [.int .i64 k_1] 3)])) := by
 refine Trip.go 6 Tryz.func47 sV (aS h0 (aS h1 (aS h2 (All.nil _)))) fun see => ?_
 have ho := H
 refine go ?_
 refine SP.box rfl rfl rfl rfl fun b4 => ?_
 refine SP.box rfl rfl rfl rfl fun b6 => go ?_
 refine SP.val (Val.makeFunc (us := []) (vs := [.pointer (some ⟨b4, 0, none⟩), .pointer (some ⟨b6, 0, none⟩)]) rfl rfl) rfl rfl rfl (go ?_)
 refine QE.freezeB see 1 rfl ?_
 refine QE.freezeB see 0 rfl ?_
 exact QE.rt (fun _ h => h) (hk := fun a b p s => ⟨_, _, rfl, ⟨em, em, Dj.em_left _, Sub.em _, Sub.em _, p.get 1 rfl, ⟨em, em, Dj.em_left _, Sub.em _, Sub.em _, p.get 0 rfl, trivial⟩⟩⟩)
inductive calls_named_1_s1.S (S_ : Type) where
  | start
  | l1 (x15 : api_Method) (s30 : S_) (x31 : Int)
def calls_named_1_s1.F {S_ : Type} (Y : S_ → Int → Option (S_ × Bool)) (y0 : S_) (c0_1 : List api_Value) (c0_3 : List api_Value) (c0_5 : List api_Method) (c0_7 : Int) (c1_10 : Int) : calls_named_1_s1.S S_ → Option (calls_named_1_s1.S S_ ⊕ S_)
  | .start => (elt c0_5 c1_10).bind fun x15 => some (.inl (.l1 x15 y0 0))
  | .l1 x15 s30 x31 => if x31 < (x15.Code.length : Int) then ((elt x15.Code x31).bind fun x35 => (if x35.Op = 30 then ((Y s30 x35.A).bind fun y40 => some (!y40.2, y40.1)) else (some (false, s30))).bind fun t41 => if t41.1 = true then (some (.inr t41.2)) else (some (.inl (.l1 x15 t41.2 (IntKind.i64.wrap (x31 + 1)))))) else (some (.inr s30))
def calls_named_1_s1.f {S_ : Type} (Y : S_ → Int → Option (S_ × Bool)) (y0 : S_) (c0_1 : List api_Value) (c0_3 : List api_Value) (c0_5 : List api_Method) (c0_7 : Int) (c1_10 : Int) : Option S_ := runF (calls_named_1_s1.F Y y0 c0_1 c0_3 c0_5 c0_7 c1_10) .start
theorem calls_named_1_s1.ok {S_ : Type} (Y : S_ → Int → Option (S_ × Bool)) (y0 : S_) (c0_1 : List api_Value) (c0_3 : List api_Value) (c0_5 : List api_Method) (c0_7 c1_10 : Int) (v_c0_1 v_c0_3 v_c0_5 : Value) (b8 : Nat) (b11 : Nat) (r : S_) (H : calls_named_1_s1.f Y y0 c0_1 c0_3 c0_5 c0_7 c1_10 = some r) (w : World) (hV : Hp) (sV : Sub hV (hp w)) (h0 : slR k_api_Value hV v_c0_1 c0_1) (h1 : slR k_api_Value hV v_c0_3 c0_3) (h2 : slR k_api_Method hV v_c0_5 c0_5) (h3 : (boxP b8 [v_c0_1, v_c0_3, v_c0_5, .int .i64 c0_7] 25).p hV) (h4 : (boxP b11 [.int .i64 c1_10] 3).p hV) (lY : Nat) (I : S_ → HO) (hA : Hp) (sA : Sub hA (hp w)) (dA : Dj hV hA) (hI : (I y0).p hV hA) (hY : Go.Q.Yields Tryz.prog lY hV Y I (E1 (kInt .i64) false)) :
    Trip Tryz.prog 95 [.func (.yield lY) #[] #[], .pointer (some ⟨b8, 0, none⟩), .pointer (some ⟨b11, 0, none⟩)].toArray hA hV w (fun v => HO.pand (v = .tuple #[]) (HO.seps [I r])) := by
 have see : Sees w hA hV := ⟨sV, dA⟩
 refine Trip.of (P := Tryz.prog) (n := ⟨28, []⟩) Tryz.func95 rfl ⟨rfl, rfl⟩ rfl (St.beginA (os := [I y0]) sA (aS h0 (aS h1 (aS h2 (All.cons (x := boxP b8 [v_c0_1, v_c0_3, v_c0_5, .int .i64 c0_7] 25) h3 (All.cons (x := boxP b11 [.int .i64 c1_10] 3) h4 (All.nil _)))))) ⟨hA, em, Dj.em_right _, Sub.refl _, Sub.em _, hI, trivial⟩) ?_
 obtain ⟨n0, hi⟩ := runF_iff.1 H
 obtain ⟨m0, o, hm0, ho, hr⟩ := iter_some hi
 clear hi
 refine CP.seq ?_
 refine CP.region ?_
 refine SP.val (Val.fieldAddr Tryz.underlying25 rfl sz23 rfl) rfl rfl rfl ?_
 refine SP.val (Val.loadB1 see 3 rfl Tryz.underlying23 rfl rfl rfl) rfl rfl rfl ?_
 refine SP.val (Val.loadB1 see 4 rfl Tryz.underlying3 rfl rfl rfl) rfl rfl rfl ?_
 obtain ⟨x15, hx, ho⟩ := elt_bind ho
 refine SP.indexP see 2 rfl Tryz.underlying23 sz34 hx.1 hx.2 rfl rfl rfl rfl (fun p13 => ?_)
 clear hx
 refine SP.fieldP see 0 rfl Tryz.underlying34 rfl sz32 k_api_Method.part_Code rfl rfl rfl (fun p16 => ?_)
 refine SP.loadPS see 0 rfl Tryz.underlying32 rfl rfl rfl (fun v18 => go ?_)
 obtain rfl := Option.some.inj ho
 refine CP.loop (fun cl1 a w2 => ∃ s30 : S_, ∃ x31 : Int, cl1 ≤ m0 ∧ iter (calls_named_1_s1.F Y y0 c0_1 c0_3 c0_5 c0_7 c1_10) cl1 (.l1 x15 s30 x31) = some r ∧ Env ⟨28, []⟩ [(0, .func (.yield lY) #[] #[]), (11, v18), (12, .int .i64 (x15.Code.length : Int)), (13, .int .i64 x31)] a ∧ St w hA hV [slP k_api_Instr v18 x15.Code] [I s30] w2) m0 (fun a w2 ha hw => ⟨y0, 0, Nat.le_refl _, hr, ha.sub sb, (St.selP [0] rfl hw)⟩) ?_
 clear hr
 rintro cl1 a w2 ⟨s30, x31, hc_l1, hi, ha, hw⟩
 obtain ⟨m32, o, hm_m32, ho, hr⟩ := iter_some hi
 refine CP.app ha hw ?_
 clear ha hw a w2 hi
 refine go ?_
 refine CP.seq ?_
 refine CP.ci ho (fun ho => ?_) fun ho => ?_
 ·refine go ?_
  refine CP.seq (go ?_)
  obtain ⟨x35, hx, ho⟩ := elt_bind ho
  refine SP.indexP see 0 rfl Tryz.underlying32 sz43 hx.1 hx.2 rfl rfl rfl rfl (fun p33 => ?_)
  clear hx
  refine k_api_Instr.load see 0 rfl Tryz.underlying43 rfl sz43 rfl rfl rfl ?_
  refine SP.alloc (cs := [.int .u8 0, .int .i64 0, .int .i64 0]) inf43 rfl rfl (fun b36 => ?_)
  refine SP.store (v := .agg #[.int .u8 x35.Op, .int .i64 x35.A, .int .i64 x35.B]) (vs := [.int .u8 x35.Op, .int .i64 x35.A, .int .i64 x35.B]) 0 (by rfl) sz43 (by rfl) (by rfl) (by rfl) (by rfl) (by rfl) (by rfl) (go ?_)
  obtain ⟨t41, hg_t41, ho⟩ := bind_some ho
  refine SP.js 6 [0, 11, 12, 13] 26 (.bool t41.1) (fun w2 => St w hA hV [elP k_api_Instr p33 x35, slP k_api_Instr v18 x15.Code] [boxO b36 [.int .u8 x35.Op, .int .i64 x35.A, .int .i64 x35.B] 43, I t41.2] w2) ?_ ?_
  ·clear hg_t41
   refine go ?_
   refine CP.cb ho (fun ho => ?_) fun ho => ?_
   ·refine go ?_
    obtain rfl := fin ho hr
    exact QE.rt (fun _ h => St.selO [1] rfl rfl h)
   refine go ?_
   obtain rfl := Option.some.inj ho
   exact QE.lower m32 (by omega) fun a w2 ha hw => ⟨t41.2, (IntKind.i64.wrap (x31 + 1)), (by omega), hr, ha.sub sb, (St.selP [1] rfl (St.selO [1] rfl rfl hw))⟩
  refine SP.ci 20 hg_t41 (fun hq39 ho => ?_) fun hq39 ho => ?_
  ·refine go ?_
   refine SP.imp (fun w2 hw => St.selO [1, 0] rfl rfl hw) ?_
   obtain ⟨y40, hc, ho⟩ := bind_some ho
   refine SP.callY see hY (t := y40.1) (b := y40.2) hc rfl rfl rfl rfl (fun hP ap => ⟨_, rfl, ⟨_, rfl, rfl⟩⟩) ?_
   clear hc
   refine go ?_
   obtain rfl := Option.some.inj ho
   exact QE.jn fun w2 hw => (St.selO [1, 0] rfl rfl hw)
  refine go ?_
  obtain rfl := Option.some.inj ho
  exact QE.jn fun w2 hw => hw
 refine go ?_
 obtain rfl := fin ho hr
 exact QE.over (rs := []) (vs := []) Tryz.results95 rfl trivial (fun w2 h => St.done (fun a b p s => ⟨rfl, s⟩) (St.selO [0] rfl rfl h))
def calls_Whom.y1 (m_0 : api_Module) (k_1 : Int) (l39 : List Int) (x41 : Int) (x42 : Int) : Option ((((List Int) × Int) × Bool) × Bool) :=
  if ((decide (x42 < 0)) || (decide (x42 ≥ (m_0.Methods.length : Int)))) = true then (some (((l39, 2), true), false)) else (if (l39.length + [x42].length) * 8 ≤ 140737488355328 then (some (((l39 ++ [x42], x41), false), true)) else none)
def calls_Whom.f (m_0 : api_Module) (k_1 : Int) : Option ((List Int) × Int) :=
  if ((decide (k_1 < 0)) || (decide (k_1 ≥ (m_0.Methods.length : Int)))) = true then (some ([], 2)) else ((calls_named.f m_0 k_1).bind fun t15 => (calls_named_1_s1.f (fun s x => bif s.2 then none else calls_Whom.y1 m_0 k_1 s.1.1 s.1.2 x) (([], 0), false) m_0.Globals m_0.Pool m_0.Methods m_0.Migrate k_1).bind fun s55 => match s55 with | ((l39, x41), lf57) => if lf57 = true then (some ([], x41)) else (if l39.length < 4611686018427387904 then (if (l39.mergeSort fun x y => decide (x ≤ y)).length < 4611686018427387904 then (some ((Lib.compact (l39.mergeSort fun x y => decide (x ≤ y))), 0)) else none) else none))
theorem calls_Whom.ok (m_0 : api_Module) (k_1 : Int) (v_m_0_Globals v_m_0_Pool v_m_0_Methods : Value) (r : (List Int) × Int) (H : calls_Whom.f m_0 k_1 = some r) (w : World) (hV : Hp) (sV : Sub hV (hp w)) (h0 : slR k_api_Value hV v_m_0_Globals m_0.Globals) (h1 : slR k_api_Value hV v_m_0_Pool m_0.Pool) (h2 : slR k_api_Method hV v_m_0_Methods m_0.Methods) :
    Trip Tryz.prog 23 [.agg #[v_m_0_Globals, v_m_0_Pool, v_m_0_Methods, .int .i64 m_0.Migrate], .int .i64 k_1].toArray em hV w (fun v => HO.ex fun u0 : Value => HO.pand (v = .tuple #[u0, .int .i64 r.2]) (HO.seps [slO (kInt .i64) 3 u0 r.1])) := by
 have see : Sees w em hV := ⟨sV, Dj.em_right _⟩
 refine Trip.ofM (P := Tryz.prog) (n := ⟨38, []⟩) Tryz.func23 rfl ⟨rfl, rfl⟩ rfl (St.begin (aS h0 (aS h1 (aS h2 (All.nil _))))) ?_
 have ho := H
 refine go ?_
 refine SP.box rfl rfl rfl rfl fun b4 => ?_
 refine SP.alloc (cs := [(.slice none 0 0)]) inf48 rfl rfl (fun b6 => ?_)
 refine SP.alloc (cs := [.int .i64 0]) inf28 rfl rfl (fun b8 => go ?_)
 refine CP.seq (go ?_)
 refine SP.jn 6 [1, 2, 4, 5] 16 (.bool ((decide (k_1 < 0)) || (decide (k_1 ≥ (m_0.Methods.length : Int))))) ?_ ?_
 ·refine go ?_
  refine CP.cb ho (fun ho => ?_) fun ho => ?_
  ·refine go ?_
   refine SP.store (v := (.slice none 0 0)) (vs := [(.slice none 0 0)]) 1 (by rfl) sz48 (by rfl) (by rfl) (by rfl) (by rfl) (by rfl) (by rfl) ?_
   refine SP.store (v := .int .i64 2) (vs := [.int .i64 2]) 0 (by rfl) sz28 (by rfl) (by rfl) (by rfl) (by rfl) (by rfl) (by rfl) (go ?_)
   obtain rfl := Option.some.inj ho
   exact QE.retsM 3 rfl (rs := [.cell 4 48, .cell 5 28]) (vs := [(.slice none 0 0), .int .i64 2]) Tryz.results23 ⟨RVs.cell1 1 rfl rfl Tryz.underlying48 rfl, RVs.cell1 0 rfl rfl Tryz.underlying28 rfl, trivial⟩ (fun w2 h => St.done (fun a b p s => ⟨_, rfl, s⟩) (St.selO [0] rfl rfl (St.addO (slO.nil (kInt .i64) 3) h)))
  refine go ?_
  refine SP.alloc (cs := [(.slice none 0 0)]) inf48 rfl rfl (fun b13 => go ?_)
  refine CP.seq (go ?_)
  refine SP.val (Val.loadA 3 rfl Tryz.underlying25 rfl sz25 rfl rfl rfl) rfl rfl rfl (go ?_)
  obtain ⟨t15, hc, ho⟩ := bind_some ho
  refine SP.callK see (caps := []) _ fn47 rfl rfl rfl rfl (fun w2 hP hs sub ap => calls_named.ok _ _ _ _ _ _ hc w2 hP sub (ap.get 0 rfl) (ap.get 1 rfl) (ap.get 2 rfl)) (SP.k2 fun b16 b17 => ?_)
  refine SP.imp (fun w2 h => St.toP 0 rfl h) ?_
  refine SP.imp (fun w2 h => St.toP 0 rfl h) ?_
  clear hc
  refine go ?_
  obtain ⟨s55, hc, ho⟩ := bind_some ho
  obtain ⟨⟨l39, x41⟩, lf57⟩ := s55
  refine CP.imp (A' := fun w2 => St w em hV [boxP b17 [.int .i64 k_1] 3, boxP b16 [v_m_0_Globals, v_m_0_Pool, v_m_0_Methods, .int .i64 m_0.Migrate] 25, slP k_api_Value v_m_0_Globals m_0.Globals, slP k_api_Value v_m_0_Pool m_0.Pool, slP k_api_Method v_m_0_Methods m_0.Methods] [(fun s : (List Int) × Int => (fun (l39 : List Int) (x41 : Int) => HO.ex fun v40 : Value => HO.seps [slO (kInt .i64) 3 v40 l39, boxO b13 [v40] 48, boxO b8 [.int .i64 x41] 28, boxO b6 [(.slice none 0 0)] 48, boxO b4 [v_m_0_Globals, v_m_0_Pool, v_m_0_Methods, .int .i64 m_0.Migrate] 25]) s.1 s.2) ([], 0), marksO []] w2) (fun w2 hw => St.shut (.slice none 0 0) (St.group _ (St.addO (slO.nil (kInt .i64) 3) hw))) ?_
  refine CP.rangeR see (J := fun s : (List Int) × Int => (fun (l39 : List Int) (x41 : Int) => HO.ex fun v40 : Value => HO.seps [slO (kInt .i64) 3 v40 l39, boxO b13 [v40] 48, boxO b8 [.int .i64 x41] 28, boxO b6 [(.slice none 0 0)] 48, boxO b4 [v_m_0_Globals, v_m_0_Pool, v_m_0_Methods, .int .i64 m_0.Migrate] 25]) s.1 s.2) (Y := fun s x => bif s.2 then none else calls_Whom.y1 m_0 k_1 s.1.1 s.1.2 x) (s0 := ([], 0)) (sf := (l39, x41)) (E := (E1 (kInt .i64) false)) (caps := [.pointer (some ⟨b16, 0, none⟩), .pointer (some ⟨b17, 0, none⟩)]) fn95 rfl (σ1 := [(2, .pointer (some ⟨b4, 0, none⟩)), (4, .pointer (some ⟨b6, 0, none⟩)), (5, .pointer (some ⟨b8, 0, none⟩)), (6, .pointer (some ⟨b13, 0, none⟩))]) ⟨rfl, rfl, rfl, rfl, trivial⟩ rfl (E1.len rfl) (fun _ _ => rfl) (fun lY I w2 hP h1 sub s1 d1 ap hI hY => calls_named_1_s1.ok (fun s x => bif s.2 then none else calls_Whom.y1 m_0 k_1 s.1.1 s.1.2 x) (([], 0), false) m_0.Globals m_0.Pool m_0.Methods m_0.Migrate k_1 _ _ _ _ _ _ hc w2 hP sub (ap.get 2 rfl) (ap.get 3 rfl) (ap.get 4 rfl) (ap.get 1 rfl) (ap.get 0 rfl) lY I h1 s1 d1 hI hY) ?_ ho (fun D56 ho => ?_) (fun D56 ho => ?_)
  ·rintro lY LO hLO s_ x42 t l b vals ho w3 hP3 h3 sub3 s3 d3 ap3 hE
   obtain ⟨l39, x41⟩ := s_
   obtain ⟨q43, rfl, cs0, hk0, e0⟩ := hE
   replace e0 : [q43] = cs0 := e0
   subst e0
   obtain rfl : q43 = .int .i64 x42 := (List.cons.inj hk0).1
   have see : Sees w3 h3 hP3 := ⟨sub3, d3⟩
   refine CP.weak (σ' := [(2, .pointer (some ⟨b4, 0, none⟩)), (4, .pointer (some ⟨b6, 0, none⟩)), (5, .pointer (some ⟨b8, 0, none⟩)), (6, .pointer (some ⟨b13, 0, none⟩)), (20, .int .i64 x42)]) ⟨rfl, rfl, rfl, rfl, rfl, trivial⟩ (fun _ h => h) ?_
   refine CP.ex (fun w2 h => St.open h) (fun v40 => ?_)
   refine CP.imp (fun w2 h => St.seps h) (go ?_)
   refine QE.beginR hLO 5 rfl (go ?_)
   refine CP.seq (go ?_)
   refine SP.jn 6 [4, 5, 6, 7] 29 (.bool ((decide (x42 < 0)) || (decide (x42 ≥ (m_0.Methods.length : Int))))) ?_ ?_
   ·refine go ?_
    refine CP.cb ho (fun ho => ?_) fun ho => ?_
    ·refine go ?_
     refine SP.store (v := (.slice none 0 0)) (vs := [(.slice none 0 0)]) 3 (by rfl) sz48 (by rfl) (by rfl) (by rfl) (by rfl) (by rfl) (by rfl) ?_
     refine SP.store (v := .int .i64 2) (vs := [.int .i64 2]) 2 (by rfl) sz28 (by rfl) (by rfl) (by rfl) (by rfl) (by rfl) (by rfl) (go ?_)
     obtain ⟨h_, rfl⟩ := Prod.mk.inj (Option.some.inj ho)
     obtain ⟨rfl, rfl⟩ := Prod.mk.inj h_
     exact QE.overR hLO 5 rfl fun w2 hw => St.shut v40 (St.group _ (St.selP [] rfl hw))
    refine go ?_
    refine SP.lit (k := (kInt .i64)) (xs := [x42]) (vs := [.int .i64 x42]) (cells := [.int .i64 x42]) Tryz.underlying48 inf3 rfl rfl rfl rfl rfl rfl rfl rfl (fun _ ap => ⟨[.int .i64 x42], _, rfl, rfl, rfl⟩) rfl rfl rfl (fun v46 => ?_)
    refine SP.freezeS see 0 rfl ?_
    obtain ⟨hb, ho⟩ := must_some ho
    refine SP.append see 0 rfl 0 rfl Tryz.underlying48 inf3 rfl rfl hb rfl rfl rfl rfl rfl (fun v48 => ?_)
    clear hb
    refine SP.have (fun w2 hw => slO.shape (St.own 0 rfl see.sub see.dj hw)) (fun hs_v48 => ?_)
    refine SP.store (v := v48) (vs := [v48]) 1 (by rfl) sz48 (by rfl) (by rfl) (by rfl) (one_cells hs_v48) (one_cons hs_v48 (rfl)) (by rfl) (go ?_)
    obtain ⟨h_, rfl⟩ := Prod.mk.inj (Option.some.inj ho)
    obtain ⟨rfl, rfl⟩ := Prod.mk.inj h_
    exact QE.overN hLO 5 rfl fun w2 hw => St.shut v48 (St.group _ (St.selP [] rfl hw))
   refine SP.bb 23 (fun hq45 => ?_) fun hq45 => ?_
   ·refine go ?_
    exact QE.jb (or_t hq45) fun w2 hw => hw
   refine go ?_
   exact QE.jb (or_f hq45 rfl) fun w2 hw => hw
  ·refine QE.ex (fun w2 h => St.open h) (fun v40 => ?_)
   refine QE.imp (fun w2 h => St.seps h) (go ?_)
   obtain rfl := Option.some.inj ho
   exact QE.retsM 5 rfl (rs := [.cell 4 48, .cell 5 28]) (vs := [(.slice none 0 0), .int .i64 x41]) Tryz.results23 ⟨RVs.cell1 3 rfl rfl Tryz.underlying48 rfl, RVs.cell1 2 rfl rfl Tryz.underlying28 rfl, trivial⟩ (fun w2 h => St.done (fun a b p s => ⟨_, rfl, s⟩) (St.selO [0] rfl rfl (St.addO (slO.nil (kInt .i64) 3) h)))
  refine QE.ex (fun w2 h => St.open h) (fun v40 => ?_)
  refine QE.imp (fun w2 h => St.seps h) (go ?_)
  obtain ⟨hb, ho⟩ := must_some ho
  refine SP.callA see (caps := []) (fun r => HO.pand (r = .tuple #[]) (HO.seps [slO (kInt .i64) 3 v40 (l39.mergeSort fun x y => decide (x ≤ y))])) fn48 rfl rfl rfl rfl (fun w2 hP h1 sub s1 d1 ap hI => srti48_trip hb sub s1 d1 hI) (SP.k0 ?_)
  clear hb
  refine go ?_
  obtain ⟨hb, ho⟩ := must_some ho
  refine SP.callA see (caps := []) (fun r => HO.ex fun u : Value => HO.pand (r = u) (HO.seps [slO (kInt .i64) 3 u (Lib.compact (l39.mergeSort fun x y => decide (x ≤ y)))])) fn49 rfl rfl rfl rfl (fun w2 hP h1 sub s1 d1 ap hI => compacti49_trip hb sub s1 d1 hI) (SP.k1 fun v61 => ?_)
  clear hb
  refine SP.have (fun w2 hw => slO.shape (St.own 0 rfl see.sub see.dj hw)) (fun hs_v61 => ?_)
  refine SP.store (v := v61) (vs := [v61]) 3 (by rfl) sz48 (by rfl) (by rfl) (by rfl) (one_cells hs_v61) (one_cons hs_v61 (rfl)) (by rfl) ?_
  refine SP.store (v := .int .i64 0) (vs := [.int .i64 0]) 2 (by rfl) sz28 (by rfl) (by rfl) (by rfl) (by rfl) (by rfl) (by rfl) (go ?_)
  obtain rfl := Option.some.inj ho
  exact QE.retsM 5 rfl (rs := [.cell 4 48, .cell 5 28]) (vs := [v61, .int .i64 0]) Tryz.results23 ⟨RVs.cell1 3 rfl rfl Tryz.underlying48 rfl, RVs.cell1 2 rfl rfl Tryz.underlying28 rfl, trivial⟩ (fun w2 h => St.done (fun a b p s => ⟨_, rfl, s⟩) (St.selO [0] rfl rfl h))
 refine SP.bb 10 (fun hq11 => ?_) fun hq11 => ?_
 ·refine go ?_
  exact QE.jb (or_t hq11) fun w2 hw => hw
 refine go ?_
 exact QE.jb (or_f hq11 rfl) fun w2 hw => hw
inductive calls_all.S where
  | start
  | l1 (l18 : List (List Int)) (x20 : Int)
def calls_all.F (m_0 : api_Module) : calls_all.S → Option (calls_all.S ⊕ ((List (List Int)) × Int))
  | .start => some (.inl (.l1 [] 0))
  | .l1 l18 x20 => if x20 < (m_0.Methods.length : Int) then ((calls_Whom.f m_0 x20).bind fun t22 => if t22.2 ≠ 0 then (some (.inr ([], t22.2))) else (if (l18.length + [t22.1].length) * 24 ≤ 140737488355328 then (some (.inl (.l1 (l18 ++ [t22.1]) (IntKind.i64.wrap (x20 + 1))))) else none)) else (some (.inr (l18, 0)))
def calls_all.f (m_0 : api_Module) : Option ((List (List Int)) × Int) := runF (calls_all.F m_0) .start
theorem calls_all.ok (m_0 : api_Module) (v_m_0_Globals v_m_0_Pool v_m_0_Methods : Value) (r : (List (List Int)) × Int) (H : calls_all.f m_0 = some r) (w : World) (hV : Hp) (sV : Sub hV (hp w)) (h0 : slR k_api_Value hV v_m_0_Globals m_0.Globals) (h1 : slR k_api_Value hV v_m_0_Pool m_0.Pool) (h2 : slR k_api_Method hV v_m_0_Methods m_0.Methods) :
    Trip Tryz.prog 82 [.agg #[v_m_0_Globals, v_m_0_Pool, v_m_0_Methods, .int .i64 m_0.Migrate]].toArray em hV w (fun v => HO.ex fun u0 : Value => HO.pand (v = .tuple #[u0, .int .i64 r.2]) (HO.seps [slO (kSl (kInt .i64)) 48 u0 r.1])) := by
 refine Trip.go 29 Tryz.func82 sV (aS h0 (aS h1 (aS h2 (All.nil _)))) fun see => ?_
 obtain ⟨n0, hi⟩ := runF_iff.1 H
 obtain ⟨m0, o, hm0, ho, hr⟩ := iter_some hi
 clear hi
 refine go ?_
 refine SP.box rfl rfl rfl rfl fun b4 => go ?_
 refine CP.seq (go ?_)
 obtain rfl := Option.some.inj ho
 refine CP.loop (fun cl1 a w2 => ∃ l18 : List (List Int), ∃ x20 : Int, ∃ v19 : Value, cl1 ≤ m0 ∧ iter (calls_all.F m_0) cl1 (.l1 l18 x20) = some r ∧ Env ⟨29, []⟩ [(1, .pointer (some ⟨b4, 0, none⟩)), (4, v19), (10, .int .i64 (m_0.Methods.length : Int)), (11, .int .i64 x20)] a ∧ St w em hV [slP k_api_Value v_m_0_Globals m_0.Globals, slP k_api_Value v_m_0_Pool m_0.Pool, slP k_api_Method v_m_0_Methods m_0.Methods] [slO (kSl (kInt .i64)) 48 v19 l18, boxO b4 [v_m_0_Globals, v_m_0_Pool, v_m_0_Methods, .int .i64 m_0.Migrate] 25] w2) m0 (fun a w2 ha hw => ⟨[], 0, (.slice none 0 0), Nat.le_refl _, hr, ha.sub sb, (St.addO (slO.nil (kSl (kInt .i64)) 48) hw)⟩) ?_
 clear hr
 rintro cl1 a w2 ⟨l18, x20, v19, hc_l1, hi, ha, hw⟩
 obtain ⟨m21, o, hm_m21, ho, hr⟩ := iter_some hi
 refine CP.app ha hw ?_
 clear ha hw a w2 hi
 refine go ?_
 refine CP.seq ?_
 refine CP.ci ho (fun ho => ?_) fun ho => ?_
 ·refine go ?_
  refine CP.seq (go ?_)
  refine SP.val (Val.loadA 1 rfl Tryz.underlying25 rfl sz25 rfl rfl rfl) rfl rfl rfl (go ?_)
  obtain ⟨t22, hc, ho⟩ := bind_some ho
  refine SP.callK see (caps := []) _ fn23 rfl rfl rfl rfl (fun w2 hP hs sub ap => calls_Whom.ok _ _ _ _ _ _ hc w2 hP sub (ap.get 0 rfl) (ap.get 1 rfl) (ap.get 2 rfl)) (SP.k1 fun v23 => ?_)
  clear hc
  refine go ?_
  refine CP.seq (go ?_)
  refine CP.ci ho (fun ho => ?_) fun ho => ?_
  ·refine go ?_
   obtain rfl := fin ho hr
   exact QE.rt (fun _ h => St.selO [0] rfl rfl (St.addO (slO.nil (kSl (kInt .i64)) 48) h))
  refine go ?_
  refine SP.freezeS see 0 rfl ?_
  refine SP.litS (k := (kSl (kInt .i64))) (xs := [t22.1]) (vs := [v23]) Tryz.underlying71 inf48 rfl rfl rfl rfl rfl rfl (fun _ ap => ⟨slR.cells1 (ap.get 0 rfl), trivial⟩) (fun _ ap => ⟨[v23], _, rfl, ⟨_, rfl, ap.get 0 rfl⟩, rfl⟩) rfl rfl rfl (fun v26 => ?_)
  refine SP.freezeS see 0 rfl ?_
  obtain ⟨hb, ho⟩ := must_some ho
  refine SP.append see 0 rfl 0 rfl Tryz.underlying71 inf48 rfl rfl hb rfl rfl rfl rfl rfl (fun v28 => ?_)
  clear hb
  refine go ?_
  obtain rfl := Option.some.inj ho
  exact QE.lower m21 (by omega) fun a w2 ha hw => ⟨(l18 ++ [t22.1]), (IntKind.i64.wrap (x20 + 1)), v28, (by omega), hr, ha.sub sb, (St.selP [2, 3, 4] rfl hw)⟩
 refine go ?_
 obtain rfl := fin ho hr
 exact QE.rt (fun _ h => St.selO [0] rfl rfl h)
shelf_lay_g SlLaysZI.n7 Ggz 7 at Tryz 84 as Tryz.keys84
shelf_lay_g SlLaysZI.n6 Ggz 6 at Tryz 83 as Tryz.sorted83
open Go.RowKit Go.Maps Go.Sort Go.Shelf in
theorem sorts83 (m : Nat) : AnyZI.SortsIn Tryz.prog Tryz.sorted83_ren Fence.wide m :=
  ⟨fun blk off cap ss W hH hblk hsz => callsIn_wide.2 (AnyM.slices_Sort_int Tryz.sorti48 blk off cap ss W hH hblk hsz),
   fun p cap W => callsIn_wide.2 (AnyM.slices_Sort_int_none Tryz.sorti48 p cap W)⟩
theorem keys84_trip (b : Nat) (w : World) (hV : Hp) : Trip Tryz.prog 84 #[.map (some b)] em hV w (fun v => HO.ex fun c : Nat => HO.pand (v = .func (.func 140) #[] #[.pointer (some ⟨c, 0, none⟩)]) (HO.seps [boxO c [.map (some b)] 126])) := by
  have cK : CallsIn Fence.wide 5 Tryz.prog 84 #[.map (some b)] w fun e w' => e = .returned (.func (.func 140) #[] #[.pointer (some ⟨w.heap.size, 0, none⟩)]) ∧ w' = w.alloc (.cells #[.map (some b)] 126) := AnyZI.keys_in Tryz.keys84 Fence.wide 5 trivial rfl (some b) w
  refine ((callsIn_wide (n := 5)).1 cK).mono fun e w' ⟨he, hw⟩ => ?_
  subst he; subst hw
  exact St.done (os := [boxO w.heap.size [.map (some b)] 126]) (fun a b p s => ⟨_, rfl, s⟩) ((St.begin (All.nil hV)).box [.map (some b)] 126)
open Go.RowKit Go.Maps Go.Sort Go.Shelf in
theorem sorted83_trip {β : Type} {kv : β → Value} {m : List (Int × β)} {b c : Nat} (ok : okKeys m = true) (w : World) (h1 : (boxO c [.map (some b)] 126).p (hp w) (hp w)) (h2 : (mapO b .i64 kv m).p (hp w) (hp w)) :
    Trip Tryz.prog 83 #[.func (.func 140) #[] #[.pointer (some ⟨c, 0, none⟩)]] em (hp w) w (fun r => HO.ex fun u : Value => HO.pand (r = u) (HO.seps [slO (kInt .i64) 3 u (sortedKeys m)])) := by
  obtain ⟨D0, hown, hperm, hsize⟩ := ownsOf Tryz.underlying3 h2 ok
  have hcell : w.heap[c]? = some (.cells #[.map (some b)] 126 (0, 0)) := h1
  have hlen : m.length ≤ 1000000 := by simp only [okKeys, Bool.and_eq_true, decide_eq_true_eq] at ok; exact ok.2
  have hseq : SeqGives Fence.wide 2 Tryz.prog 140 #[.pointer (some ⟨c, 0, none⟩)] encZ (fun ss => ss.Perm (intKeys D0)) (Maps.size D0) w :=
    AnyZI.keys_gives (ρ := Tryz.keys84_ren) { Tryz.keys84 with } Fence.wide _ trivial rfl (by omega) c b m.length D0 _ (Array.getElem?_eq_some_iff.1 hcell).1 (by simp [World.cell?, hcell]) hown
  have cS := AnyZI.sorted_in Tryz.sorted83 Fence.wide 5 trivial trivial trivial trivial rfl (by omega) (sorts83 _) (enters_of Tryz.func48 (by kernel_rfl) rfl) 140 #[.pointer (some ⟨c, 0, none⟩)] trivial (enters_of Tryz.func140 (by kernel_rfl) rfl) _ _ (by rw [hsize]; simp only [maxLen]; omega) (by rw [hsize]; omega) _ hseq
  change CallsIn _ _ Tryz.prog 83 _ _ _ at cS
  refine ((callsIn_wide (n := 5)).1 cS).mono fun e w' ⟨v, ss, he, hS, hrow, hnil, hb⟩ => ?_
  subst he
  have e1 : (ss.mergeSort fun x y => decide (x ≤ y)) = sortedKeys m := mergeSort_of_perm_i (hS.trans hperm)
  have e2 : ss.length = (sortedKeys m).length := by rw [← e1, List.length_mergeSort]
  rw [e1, e2] at hrow
  exact owned_trip (k := kInt .i64) hrow hb (flat_ints _)
inductive slices_Index_int_int.S where
  | start
  | l1 (x6 : Int)
def slices_Index_int_int.F (s_0 : (List Int)) (v_1 : Int) : slices_Index_int_int.S → Option (slices_Index_int_int.S ⊕ Int)
  | .start => some (.inl (.l1 0))
  | .l1 x6 => if x6 < (s_0.length : Int) then ((elt s_0 x6).bind fun x10 => if v_1 = x10 then (some (.inr x6)) else (some (.inl (.l1 (IntKind.i64.wrap (x6 + 1)))))) else (some (.inr (-1)))
def slices_Index_int_int.f (s_0 : (List Int)) (v_1 : Int) : Option Int := runF (slices_Index_int_int.F s_0 v_1) .start
theorem slices_Index_int_int.ok (s_0 : (List Int)) (v_1 : Int) (v_s_0 : Value) (r : Int) (H : slices_Index_int_int.f s_0 v_1 = some r) (w : World) (hV : Hp) (sV : Sub hV (hp w)) (h0 : slR (kInt .i64) hV v_s_0 s_0) :
    Trip Tryz.prog 141 [v_s_0, .int .i64 v_1].toArray em hV w (fun v => HO.pure (v = .int .i64 r)) := by
 refine Trip.go 19 Tryz.func141 sV (aS h0 (All.nil _)) fun see => ?_
 obtain ⟨n0, hi⟩ := runF_iff.1 H
 obtain ⟨m0, o, hm0, ho, hr⟩ := iter_some hi
 clear hi
 refine go ?_
 refine CP.seq (go ?_)
 obtain rfl := Option.some.inj ho
 refine CP.loop (fun cl1 a w2 => ∃ x6 : Int, cl1 ≤ m0 ∧ iter (slices_Index_int_int.F s_0 v_1) cl1 (.l1 x6) = some r ∧ Env ⟨19, []⟩ [(0, v_s_0), (1, .int .i64 v_1), (7, .int .i64 (s_0.length : Int)), (8, .int .i64 x6)] a ∧ St w em hV [slP (kInt .i64) v_s_0 s_0] [] w2) m0 (fun a w2 ha hw => ⟨0, Nat.le_refl _, hr, ha.sub sb, hw⟩) ?_
 clear hr
 rintro cl1 a w2 ⟨x6, hc_l1, hi, ha, hw⟩
 obtain ⟨m7, o, hm_m7, ho, hr⟩ := iter_some hi
 refine CP.app ha hw ?_
 clear ha hw a w2 hi
 refine go ?_
 refine CP.seq ?_
 refine CP.ci ho (fun ho => ?_) fun ho => ?_
 ·refine go ?_
  refine CP.seq (go ?_)
  obtain ⟨x10, hx, ho⟩ := elt_bind ho
  refine SP.indexP see 0 rfl Tryz.underlying48 sz3 hx.1 hx.2 rfl rfl rfl rfl (fun p8 => ?_)
  clear hx
  refine SP.val (Val.loadP1 see 0 rfl (fun _ _ e => e) Tryz.underlying3 rfl rfl) rfl rfl rfl (go ?_)
  refine CP.ci ho (fun ho => ?_) fun ho => ?_
  ·refine go ?_
   obtain rfl := fin ho hr
   exact QE.rt (fun _ h => h)
  refine go ?_
  obtain rfl := Option.some.inj ho
  exact QE.lower m7 (by omega) fun a w2 ha hw => ⟨(IntKind.i64.wrap (x6 + 1)), (by omega), hr, ha.sub sb, (St.selP [1] rfl hw)⟩
 refine go ?_
 obtain rfl := fin ho hr
 exact QE.rt (fun _ h => h)
def slices_Contains_int_int.f (s_0 : (List Int)) (v_1 : Int) : Option Bool :=
  (slices_Index_int_int.f s_0 v_1).bind fun t2 => some (decide (t2 ≥ 0))
theorem slices_Contains_int_int.ok (s_0 : (List Int)) (v_1 : Int) (v_s_0 : Value) (r : Bool) (H : slices_Contains_int_int.f s_0 v_1 = some r) (w : World) (hV : Hp) (sV : Sub hV (hp w)) (h0 : slR (kInt .i64) hV v_s_0 s_0) :
    Trip Tryz.prog 85 [v_s_0, .int .i64 v_1].toArray em hV w (fun v => HO.pure (v = .bool r)) := by
 refine Trip.go 9 Tryz.func85 sV (aS h0 (All.nil _)) fun see => ?_
 have ho := H
 refine go ?_
 obtain ⟨t2, hc, ho⟩ := bind_some ho
 refine SP.callV see (caps := []) (.int .i64 t2) fn141 rfl rfl rfl rfl (fun w2 hP hs sub ap => slices_Index_int_int.ok _ _ _ _ hc w2 hP sub (ap.get 0 rfl)) ?_
 clear hc
 refine go ?_
 obtain rfl := Option.some.inj ho
 exact QE.rt (fun _ h => h)
end Go.Proofs.YtehjiiebjkkcmaaGreatDoor
end
