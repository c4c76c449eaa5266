/- Functions of the program as plain functions, with the proof that the code computes them: printed by gen.py of this session. -/
import Derived.Test.YtbejlahmhloloaaProg
import Derived.Test.YtbejlahmhloloaaQ17v184bc0
import Derived.Test.YtbejlahmhloloaaGHistoryTellsp2
set_option linter.unusedVariables false
set_option linter.unusedSimpArgs false
set_option maxRecDepth 20000
noncomputable section
namespace Go.Proofs.Ytbejlahmhloloaa
open Go.Q
/-! ### capstan/capstanref30.Same: function 14 -/
inductive capstanref30_Same.S where
  | start
  | l1 (x98 : Int)

def capstanref30_Same.j1 (a_0 : (List history_Call)) (b_1 : (List history_Call)) (x98 : Int) (b192 : Bool) : Option (capstanref30_Same.S ⊕ Bool) :=
  if b192 = true then (some (.inr false)) else (some (.inl (.l1 (IntKind.i64.wrap (x98 + 1)))))

def capstanref30_Same.F (a_0 : (List history_Call)) (b_1 : (List history_Call)) : capstanref30_Same.S → Option (capstanref30_Same.S ⊕ Bool)
  | .start => if (a_0.length : Int) ≠ (b_1.length : Int) then (some (.inr false)) else (some (.inl (.l1 0)))
  | .l1 x98 => if x98 < (a_0.length : Int) then ((elt a_0 x98).bind fun x102 => (elt b_1 x98).bind fun x108 => if x102.Proc ≠ x108.Proc then (capstanref30_Same.j1 a_0 b_1 x98 true) else ((elt a_0 x98).bind fun x116 => (elt b_1 x98).bind fun x126 => (capstanref20_Same.f x116.Op x126.Op).bind fun t134 => if (!t134) = true then (capstanref30_Same.j1 a_0 b_1 x98 true) else ((elt a_0 x98).bind fun x140 => (elt b_1 x98).bind fun x146 => if (!(x140.Read == x146.Read)) = true then (capstanref30_Same.j1 a_0 b_1 x98 true) else ((elt a_0 x98).bind fun x154 => (elt b_1 x98).bind fun x160 => if (!(x154.Reply.Err == x160.Reply.Err && ((x154.Reply.Out.Trap == x160.Reply.Out.Trap && ((x154.Reply.Out.Result.Kind == x160.Reply.Out.Result.Kind && (x154.Reply.Out.Result.A == x160.Reply.Out.Result.A && (x154.Reply.Out.Result.B == x160.Reply.Out.Result.B)))))))) = true then (capstanref30_Same.j1 a_0 b_1 x98 true) else ((elt a_0 x98).bind fun x168 => (elt b_1 x98).bind fun x174 => if x168.Start ≠ x174.Start then (capstanref30_Same.j1 a_0 b_1 x98 true) else ((elt a_0 x98).bind fun x182 => (elt b_1 x98).bind fun x188 => capstanref30_Same.j1 a_0 b_1 x98 (decide (x182.End ≠ x188.End)))))))) else (some (.inr true))

def capstanref30_Same.f (a_0 : (List history_Call)) (b_1 : (List history_Call)) : Option Bool := runF (capstanref30_Same.F a_0 b_1) .start
theorem capstanref30_Same.ok (a_0 : (List history_Call)) (b_1 : (List history_Call)) (v_a_0 : Value) (v_b_1 : Value) (r : Bool) (H : capstanref30_Same.f a_0 b_1 = some r) (w : World) (hV : Hp) (sV : Sub hV (hp w)) (h0 : slR k_history_Call hV v_a_0 a_0) (h1 : slR k_history_Call hV v_b_1 b_1) :
    Trip Try.prog 14 [v_a_0, v_b_1].toArray em hV w (fun v => HO.pure (v = .bool r)) := by
  have see : Sees w em hV := ⟨sV, Dj.em_right _⟩
  refine Trip.of (P := Try.prog) (n := ⟨94, []⟩) Try.func14 rfl ⟨rfl, rfl⟩ rfl (St.begin (All.cons (x := slP k_history_Call v_a_0 a_0) h0 (All.cons (x := slP k_history_Call v_b_1 b_1) h1 (All.nil _)))) ?_
  obtain ⟨n0, hi⟩ := runF_iff.1 H
  obtain ⟨m0, o, hm0, ho, hr⟩ := iter_some hi
  clear hi
  refine CP.seq ?_
  refine CP.region ?_
  refine SP.val (Val.assign rfl) rfl rfl rfl ?_
  refine SP.nil ?_
  refine QE.then ?_
  refine CP.seq ?_
  refine CP.seq ?_
  refine CP.region ?_
  refine SP.val (Val.move rfl) rfl rfl rfl ?_
  refine SP.val (Val.lenP see 0 rfl Try.underlying44 rfl) rfl rfl rfl ?_
  refine SP.val (Val.move rfl) rfl rfl rfl ?_
  refine SP.val (Val.lenP see 1 rfl Try.underlying44 rfl) rfl rfl rfl ?_
  refine SP.val (Val.neq rfl rfl) rfl rfl rfl ?_
  refine SP.nil ?_
  refine QE.then ?_
  rcases if_some ho with ⟨hc, ho⟩ | ⟨hc, ho⟩
  · refine CP.condT rfl (decide_eq_true hc) ?_
    refine CP.seq ?_
    refine CP.region ?_
    refine SP.val (Val.assign rfl) rfl rfl rfl ?_
    refine SP.nil ?_
    refine QE.then ?_
    refine CP.ret ?_
    refine QE.thru (by intro e; cases e) ?_
    obtain rfl := Option.some.inj ho
    obtain rfl := Option.some.inj hr
    exact QE.rets (rs := [.tmp 4]) (vs := [.bool false]) Try.results14 rfl ⟨RVs.tmp rfl, trivial⟩ (fun w2 h => St.done (fun a b p s => rfl) h)
  · refine CP.condF rfl (decide_eq_false hc) ?_
    refine CP.skip ?_
    refine QE.then ?_
    refine CP.seq ?_
    refine CP.seq ?_
    refine CP.region ?_
    refine SP.val (Val.assign rfl) rfl rfl rfl ?_
    refine SP.nil ?_
    refine QE.then ?_
    refine CP.block ?_
    obtain rfl := Option.some.inj ho
    refine CP.loop (fun cl1 a w2 => ∃ x98 : Int, cl1 ≤ m0 ∧ iter (capstanref30_Same.F a_0 b_1) cl1 (.l1 x98) = some r ∧ Env ⟨94, []⟩ [(0, v_a_0), (1, v_b_1), (5, .int .i64 x98)] a ∧ St w em hV [slP k_history_Call v_a_0 a_0, slP k_history_Call v_b_1 b_1] [] w2) m0 (fun a w2 ha hw => ⟨0, Nat.le_refl _, hr, ha.sub ⟨rfl, rfl, rfl, trivial⟩, hw⟩) ?_
    clear hr
    rintro cl1 a w2 ⟨x98, hc_l1, hi, ha, hw⟩
    obtain ⟨m99, o, hm_m99, ho, hr⟩ := iter_some hi
    refine CP.app ha hw ?_
    clear ha hw a w2 hi
    refine CP.seq ?_
    refine CP.seq ?_
    refine CP.region ?_
    refine SP.val (Val.move rfl) rfl rfl rfl ?_
    refine SP.val (Val.move rfl) rfl rfl rfl ?_
    refine SP.val (Val.lenP see 0 rfl Try.underlying44 rfl) rfl rfl rfl ?_
    refine SP.val (Val.lss rfl rfl) rfl rfl rfl ?_
    refine SP.nil ?_
    refine QE.then ?_
    rcases if_some ho with ⟨hc, ho⟩ | ⟨hc, ho⟩
    · refine CP.condT rfl (decide_eq_true hc) ?_
      refine CP.skip ?_
      refine QE.then ?_
      refine CP.seq ?_
      refine CP.block ?_
      refine CP.join (fun a w2 => ∃ b192 : Bool, ∃ (m193 : Nat) (o : (capstanref30_Same.S ⊕ Bool)), m193 ≤ m99 ∧ capstanref30_Same.j1 a_0 b_1 x98 b192 = some o ∧ next (capstanref30_Same.F a_0 b_1) m193 o = some r ∧ Env ⟨94, []⟩ [(0, v_a_0), (1, v_b_1), (5, .int .i64 x98), (93, .bool b192)] a ∧ St w em hV [slP k_history_Call v_a_0 a_0, slP k_history_Call v_b_1 b_1] [] w2) ?_ ?_
      · rintro a w2 ⟨b192, m193, o, hm_m193, ho, hr, ha, hw⟩
        refine CP.app ha hw ?_
        clear ha hw a w2
        rcases if_some ho with ⟨hc, ho⟩ | ⟨hc, ho⟩
        · refine CP.condT rfl hc ?_
          refine CP.seq ?_
          refine CP.region ?_
          refine SP.val (Val.assign rfl) rfl rfl rfl ?_
          refine SP.nil ?_
          refine QE.then ?_
          refine CP.ret ?_
          refine QE.blockR ?_
          refine QE.thru (by intro e; cases e) ?_
          refine QE.thru (by intro e; cases e) ?_
          refine QE.blockR ?_
          refine QE.thru (by intro e; cases e) ?_
          obtain rfl := Option.some.inj ho
          obtain rfl := Option.some.inj hr
          exact QE.rets (rs := [.tmp 4]) (vs := [.bool false]) Try.results14 rfl ⟨RVs.tmp rfl, trivial⟩ (fun w2 h => St.done (fun a b p s => rfl) h)
        · refine CP.condF rfl (bf hc) ?_
          refine CP.skip ?_
          refine QE.blockN ?_
          refine QE.then ?_
          refine CP.region ?_
          refine SP.val (Val.move rfl) rfl rfl rfl ?_
          refine SP.val (Val.add rfl rfl) rfl rfl rfl ?_
          refine SP.val (Val.assign rfl) rfl rfl rfl ?_
          refine SP.nil ?_
          obtain rfl := Option.some.inj ho
          exact QE.lower m193 (by omega) fun a w2 ha hw => ⟨(IntKind.i64.wrap (x98 + 1)), (by omega), hr, ha.sub ⟨rfl, rfl, rfl, trivial⟩, hw⟩
      · refine CP.drawA (by kernel_rfl) (fun w2 k h => h.drawn k) ?_
        obtain ⟨x102, hx, ho⟩ := bind_some ho
        have hx := elt_some hx
        refine DA.ghost (fun w2 h => h.elem see 0 rfl hx.1 hx.2) (fun p100 h_p100 => ?_)
        clear hx
        refine DA.ghost (fun w2 h => h.fieldE see 0 rfl k_history_Call.part_Proc) (fun p103 h_p103 => ?_)
        refine DA.ghost (fun w2 h => h.openE see 0 rfl (fun _ : Unit => [.int .i64 x102.Proc]) (fun _ => []) (fun h cs e => ⟨(), e, All.nil _⟩)) (fun _ _ => ?_)
        obtain ⟨x108, hx, ho⟩ := bind_some ho
        have hx := elt_some hx
        refine DA.ghost (fun w2 h => h.elem see 4 rfl hx.1 hx.2) (fun p106 h_p106 => ?_)
        clear hx
        refine DA.ghost (fun w2 h => h.fieldE see 0 rfl k_history_Call.part_Proc) (fun p109 h_p109 => ?_)
        refine DA.ghost (fun w2 h => h.openE see 0 rfl (fun _ : Unit => [.int .i64 x108.Proc]) (fun _ => []) (fun h cs e => ⟨(), e, All.nil _⟩)) (fun _ _ => ?_)
        rcases if_some ho with ⟨hc, ho⟩ | ⟨hc, ho⟩
        · have hg112 := (decide_eq_true hc)
          clear hc
          refine DA.phase (fun i => Nat.ble 0 i && Nat.blt i 77) (fun w2 => St w em hV [atP p109 [.int .i64 x108.Proc], elP (kInt .i64) p109 x108.Proc, elP k_history_Call p106 x108, atP p103 [.int .i64 x102.Proc], elP (kInt .i64) p103 x102.Proc, elP k_history_Call p100 x102, slP k_history_Call v_a_0 a_0, slP k_history_Call v_b_1 b_1] [] w2) ?_
          refine DT.take 0 rfl rfl rfl rfl (by kernel_rfl) (fun _ _ _ h => h) (Val.move rfl) (fun w2 hw => hw) ?_
          refine DT.take 1 rfl rfl rfl rfl (by kernel_rfl) (fun _ _ _ h => h) (Val.move rfl) (fun w2 hw => hw) ?_
          refine DT.take 2 rfl rfl rfl rfl (by kernel_rfl) (fun _ _ _ h => h) (Val.indexE h_p100 Try.underlying44 sz48 rfl rfl) (fun w2 hw => hw) ?_
          refine DT.take 3 rfl rfl rfl rfl (by kernel_rfl) (fun _ _ _ h => h) (Val.fieldE h_p103 Try.underlying48 rfl rfl sz3 rfl) (fun w2 hw => hw) ?_
          refine DT.take 4 rfl rfl rfl rfl (by kernel_rfl) (fun _ _ _ h => h) (Val.loadAt1 see 3 rfl Try.underlying3 rfl rfl) (fun w2 hw => hw) ?_
          refine DT.take 5 rfl rfl rfl rfl (by kernel_rfl) (fun _ _ _ h => h) (Val.move rfl) (fun w2 hw => hw) ?_
          refine DT.take 6 rfl rfl rfl rfl (by kernel_rfl) (fun _ _ _ h => h) (Val.move rfl) (fun w2 hw => hw) ?_
          refine DT.take 7 rfl rfl rfl rfl (by kernel_rfl) (fun _ _ _ h => h) (Val.indexE h_p106 Try.underlying44 sz48 rfl rfl) (fun w2 hw => hw) ?_
          refine DT.take 8 rfl rfl rfl rfl (by kernel_rfl) (fun _ _ _ h => h) (Val.fieldE h_p109 Try.underlying48 rfl rfl sz3 rfl) (fun w2 hw => hw) ?_
          refine DT.take 9 rfl rfl rfl rfl (by kernel_rfl) (fun _ _ _ h => h) (Val.loadAt1 see 0 rfl Try.underlying3 rfl rfl) (fun w2 hw => hw) ?_
          refine DT.take 10 rfl rfl rfl rfl (by kernel_rfl) (fun _ _ _ h => h) (Val.neq rfl rfl) (fun w2 hw => hw) ?_
          refine DT.take 11 rfl rfl rfl rfl (by kernel_rfl) (fun _ _ _ h => h) (Val.move rfl) (fun w2 hw => hw) ?_
          refine DT.is (d := 28) (b := true) rfl hg112 ?_
          refine DT.not 12 rfl rfl rfl rfl (by kernel_rfl) (fun _ _ _ h => h) (fun w2 hw => hw) ?_
          refine DT.not 13 rfl rfl rfl rfl (by kernel_rfl) (fun _ _ _ h => h) (fun w2 hw => hw) ?_
          refine DT.not 14 rfl rfl rfl rfl (by kernel_rfl) (fun _ _ _ h => h) (fun w2 hw => hw) ?_
          refine DT.not 15 rfl rfl rfl rfl (by kernel_rfl) (fun _ _ _ h => h) (fun w2 hw => hw) ?_
          refine DT.not 16 rfl rfl rfl rfl (by kernel_rfl) (fun _ _ _ h => h) (fun w2 hw => hw) ?_
          refine DT.not 17 rfl rfl rfl rfl (by kernel_rfl) (fun _ _ _ h => h) (fun w2 hw => hw) ?_
          refine DT.not 18 rfl rfl rfl rfl (by kernel_rfl) (fun _ _ _ h => h) (fun w2 hw => hw) ?_
          refine DT.not 19 rfl rfl rfl rfl (by kernel_rfl) (fun _ _ _ h => h) (fun w2 hw => hw) ?_
          refine DT.not 20 rfl rfl rfl rfl (by kernel_rfl) (fun _ _ _ h => h) (fun w2 hw => hw) ?_
          refine DT.not 21 rfl rfl rfl rfl (by kernel_rfl) (fun _ _ _ h => h) (fun w2 hw => hw) ?_
          refine DT.not 22 rfl rfl rfl rfl (by kernel_rfl) (fun _ _ _ h => h) (fun w2 hw => hw) ?_
          refine DT.not 23 rfl rfl rfl rfl (by kernel_rfl) (fun _ _ _ h => h) (fun w2 hw => hw) ?_
          refine DT.take 24 rfl rfl rfl rfl (by kernel_rfl) (fun _ _ _ h => h) (Val.pickT rfl rfl) (fun w2 hw => hw) ?_
          refine DT.take 25 rfl rfl rfl rfl (by kernel_rfl) (fun _ _ _ h => h) (Val.move rfl) (fun w2 hw => hw) ?_
          refine DT.not 26 rfl rfl rfl rfl (by kernel_rfl) (fun _ _ _ h => h) (fun w2 hw => hw) ?_
          refine DT.not 27 rfl rfl rfl rfl (by kernel_rfl) (fun _ _ _ h => h) (fun w2 hw => hw) ?_
          refine DT.not 28 rfl rfl rfl rfl (by kernel_rfl) (fun _ _ _ h => h) (fun w2 hw => hw) ?_
          refine DT.not 29 rfl rfl rfl rfl (by kernel_rfl) (fun _ _ _ h => h) (fun w2 hw => hw) ?_
          refine DT.not 30 rfl rfl rfl rfl (by kernel_rfl) (fun _ _ _ h => h) (fun w2 hw => hw) ?_
          refine DT.not 31 rfl rfl rfl rfl (by kernel_rfl) (fun _ _ _ h => h) (fun w2 hw => hw) ?_
          refine DT.not 32 rfl rfl rfl rfl (by kernel_rfl) (fun _ _ _ h => h) (fun w2 hw => hw) ?_
          refine DT.not 33 rfl rfl rfl rfl (by kernel_rfl) (fun _ _ _ h => h) (fun w2 hw => hw) ?_
          refine DT.not 34 rfl rfl rfl rfl (by kernel_rfl) (fun _ _ _ h => h) (fun w2 hw => hw) ?_
          refine DT.not 35 rfl rfl rfl rfl (by kernel_rfl) (fun _ _ _ h => h) (fun w2 hw => hw) ?_
          refine DT.not 36 rfl rfl rfl rfl (by kernel_rfl) (fun _ _ _ h => h) (fun w2 hw => hw) ?_
          refine DT.take 37 rfl rfl rfl rfl (by kernel_rfl) (fun _ _ _ h => h) (Val.pickT rfl rfl) (fun w2 hw => hw) ?_
          refine DT.take 38 rfl rfl rfl rfl (by kernel_rfl) (fun _ _ _ h => h) (Val.move rfl) (fun w2 hw => hw) ?_
          refine DT.not 39 rfl rfl rfl rfl (by kernel_rfl) (fun _ _ _ h => h) (fun w2 hw => hw) ?_
          refine DT.not 40 rfl rfl rfl rfl (by kernel_rfl) (fun _ _ _ h => h) (fun w2 hw => hw) ?_
          refine DT.not 41 rfl rfl rfl rfl (by kernel_rfl) (fun _ _ _ h => h) (fun w2 hw => hw) ?_
          refine DT.not 42 rfl rfl rfl rfl (by kernel_rfl) (fun _ _ _ h => h) (fun w2 hw => hw) ?_
          refine DT.not 43 rfl rfl rfl rfl (by kernel_rfl) (fun _ _ _ h => h) (fun w2 hw => hw) ?_
          refine DT.not 44 rfl rfl rfl rfl (by kernel_rfl) (fun _ _ _ h => h) (fun w2 hw => hw) ?_
          refine DT.not 45 rfl rfl rfl rfl (by kernel_rfl) (fun _ _ _ h => h) (fun w2 hw => hw) ?_
          refine DT.not 46 rfl rfl rfl rfl (by kernel_rfl) (fun _ _ _ h => h) (fun w2 hw => hw) ?_
          refine DT.not 47 rfl rfl rfl rfl (by kernel_rfl) (fun _ _ _ h => h) (fun w2 hw => hw) ?_
          refine DT.not 48 rfl rfl rfl rfl (by kernel_rfl) (fun _ _ _ h => h) (fun w2 hw => hw) ?_
          refine DT.not 49 rfl rfl rfl rfl (by kernel_rfl) (fun _ _ _ h => h) (fun w2 hw => hw) ?_
          refine DT.take 50 rfl rfl rfl rfl (by kernel_rfl) (fun _ _ _ h => h) (Val.pickT rfl rfl) (fun w2 hw => hw) ?_
          refine DT.take 51 rfl rfl rfl rfl (by kernel_rfl) (fun _ _ _ h => h) (Val.move rfl) (fun w2 hw => hw) ?_
          refine DT.not 52 rfl rfl rfl rfl (by kernel_rfl) (fun _ _ _ h => h) (fun w2 hw => hw) ?_
          refine DT.not 53 rfl rfl rfl rfl (by kernel_rfl) (fun _ _ _ h => h) (fun w2 hw => hw) ?_
          refine DT.not 54 rfl rfl rfl rfl (by kernel_rfl) (fun _ _ _ h => h) (fun w2 hw => hw) ?_
          refine DT.not 55 rfl rfl rfl rfl (by kernel_rfl) (fun _ _ _ h => h) (fun w2 hw => hw) ?_
          refine DT.not 56 rfl rfl rfl rfl (by kernel_rfl) (fun _ _ _ h => h) (fun w2 hw => hw) ?_
          refine DT.not 57 rfl rfl rfl rfl (by kernel_rfl) (fun _ _ _ h => h) (fun w2 hw => hw) ?_
          refine DT.not 58 rfl rfl rfl rfl (by kernel_rfl) (fun _ _ _ h => h) (fun w2 hw => hw) ?_
          refine DT.not 59 rfl rfl rfl rfl (by kernel_rfl) (fun _ _ _ h => h) (fun w2 hw => hw) ?_
          refine DT.not 60 rfl rfl rfl rfl (by kernel_rfl) (fun _ _ _ h => h) (fun w2 hw => hw) ?_
          refine DT.not 61 rfl rfl rfl rfl (by kernel_rfl) (fun _ _ _ h => h) (fun w2 hw => hw) ?_
          refine DT.not 62 rfl rfl rfl rfl (by kernel_rfl) (fun _ _ _ h => h) (fun w2 hw => hw) ?_
          refine DT.take 63 rfl rfl rfl rfl (by kernel_rfl) (fun _ _ _ h => h) (Val.pickT rfl rfl) (fun w2 hw => hw) ?_
          refine DT.take 64 rfl rfl rfl rfl (by kernel_rfl) (fun _ _ _ h => h) (Val.move rfl) (fun w2 hw => hw) ?_
          refine DT.not 65 rfl rfl rfl rfl (by kernel_rfl) (fun _ _ _ h => h) (fun w2 hw => hw) ?_
          refine DT.not 66 rfl rfl rfl rfl (by kernel_rfl) (fun _ _ _ h => h) (fun w2 hw => hw) ?_
          refine DT.not 67 rfl rfl rfl rfl (by kernel_rfl) (fun _ _ _ h => h) (fun w2 hw => hw) ?_
          refine DT.not 68 rfl rfl rfl rfl (by kernel_rfl) (fun _ _ _ h => h) (fun w2 hw => hw) ?_
          refine DT.not 69 rfl rfl rfl rfl (by kernel_rfl) (fun _ _ _ h => h) (fun w2 hw => hw) ?_
          refine DT.not 70 rfl rfl rfl rfl (by kernel_rfl) (fun _ _ _ h => h) (fun w2 hw => hw) ?_
          refine DT.not 71 rfl rfl rfl rfl (by kernel_rfl) (fun _ _ _ h => h) (fun w2 hw => hw) ?_
          refine DT.not 72 rfl rfl rfl rfl (by kernel_rfl) (fun _ _ _ h => h) (fun w2 hw => hw) ?_
          refine DT.not 73 rfl rfl rfl rfl (by kernel_rfl) (fun _ _ _ h => h) (fun w2 hw => hw) ?_
          refine DT.not 74 rfl rfl rfl rfl (by kernel_rfl) (fun _ _ _ h => h) (fun w2 hw => hw) ?_
          refine DT.not 75 rfl rfl rfl rfl (by kernel_rfl) (fun _ _ _ h => h) (fun w2 hw => hw) ?_
          refine DT.take 76 rfl rfl rfl rfl (by kernel_rfl) (fun _ _ _ h => h) (Val.pickT rfl rfl) (fun w2 hw => hw) ?_
          refine DT.next (by kernel_rfl) ?_
          refine DA.done (by kernel_rfl) ?_
          exact QE.meet fun a w2 ha hw => ⟨true, m99, _, (by omega), ho, hr, ha.sub ⟨rfl, rfl, rfl, rfl, trivial⟩, (St.selP [6, 7] rfl hw)⟩
        · have hg113 := (decide_eq_false hc)
          clear hc
          obtain ⟨x116, hx, ho⟩ := bind_some ho
          have hx := elt_some hx
          refine DA.ghost (fun w2 h => h.elem see 6 rfl hx.1 hx.2) (fun p114 h_p114 => ?_)
          clear hx
          refine DA.ghost (fun w2 h => h.fieldE see 0 rfl k_history_Call.part_Op) (fun p117 h_p117 => ?_)
          refine DA.ghost (fun w2 h => h.openE see 0 rfl (fun ((v119, v121) : Value × Value) => [.int .u8 x116.Op.Kind, .int .i64 x116.Op.Method, v119, v121]) (fun ((v119, v121) : Value × Value) => [slP k_api_Value v119 x116.Op.Args, slP (kInt .u8) v121 x116.Op.Bytes]) (fun h cs ⟨v119, v121, e, p0, p1⟩ => ⟨(v119, v121), e, All.cons p0 (All.cons p1 (All.nil _))⟩)) (fun z_ _ => ?_)
          obtain ⟨v119, v121⟩ := z_
          obtain ⟨x126, hx, ho⟩ := bind_some ho
          have hx := elt_some hx
          refine DA.ghost (fun w2 h => h.elem see 12 rfl hx.1 hx.2) (fun p124 h_p124 => ?_)
          clear hx
          refine DA.ghost (fun w2 h => h.fieldE see 0 rfl k_history_Call.part_Op) (fun p127 h_p127 => ?_)
          refine DA.ghost (fun w2 h => h.openE see 0 rfl (fun ((v129, v131) : Value × Value) => [.int .u8 x126.Op.Kind, .int .i64 x126.Op.Method, v129, v131]) (fun ((v129, v131) : Value × Value) => [slP k_api_Value v129 x126.Op.Args, slP (kInt .u8) v131 x126.Op.Bytes]) (fun h cs ⟨v129, v131, e, p0, p1⟩ => ⟨(v129, v131), e, All.cons p0 (All.cons p1 (All.nil _))⟩)) (fun z_ _ => ?_)
          obtain ⟨v129, v131⟩ := z_
          obtain ⟨t134, hc135, ho⟩ := bind_some ho
          rcases if_some ho with ⟨hc, ho⟩ | ⟨hc, ho⟩
          · have hg136 := hc
            clear hc
            refine DA.phase (fun i => Nat.ble 0 i && Nat.blt i 77) (fun w2 => St w em hV [atP p127 [.int .u8 x126.Op.Kind, .int .i64 x126.Op.Method, v129, v131], slP k_api_Value v129 x126.Op.Args, slP (kInt .u8) v131 x126.Op.Bytes, elP k_api_Op p127 x126.Op, elP k_history_Call p124 x126, atP p117 [.int .u8 x116.Op.Kind, .int .i64 x116.Op.Method, v119, v121], slP k_api_Value v119 x116.Op.Args, slP (kInt .u8) v121 x116.Op.Bytes, elP k_api_Op p117 x116.Op, elP k_history_Call p114 x116, atP p109 [.int .i64 x108.Proc], elP (kInt .i64) p109 x108.Proc, elP k_history_Call p106 x108, atP p103 [.int .i64 x102.Proc], elP (kInt .i64) p103 x102.Proc, elP k_history_Call p100 x102, slP k_history_Call v_a_0 a_0, slP k_history_Call v_b_1 b_1] [] w2) ?_
            refine DT.take 0 rfl rfl rfl rfl (by kernel_rfl) (fun _ _ _ h => h) (Val.move rfl) (fun w2 hw => hw) ?_
            refine DT.take 1 rfl rfl rfl rfl (by kernel_rfl) (fun _ _ _ h => h) (Val.move rfl) (fun w2 hw => hw) ?_
            refine DT.take 2 rfl rfl rfl rfl (by kernel_rfl) (fun _ _ _ h => h) (Val.indexE h_p100 Try.underlying44 sz48 rfl rfl) (fun w2 hw => hw) ?_
            refine DT.take 3 rfl rfl rfl rfl (by kernel_rfl) (fun _ _ _ h => h) (Val.fieldE h_p103 Try.underlying48 rfl rfl sz3 rfl) (fun w2 hw => hw) ?_
            refine DT.take 4 rfl rfl rfl rfl (by kernel_rfl) (fun _ _ _ h => h) (Val.loadAt1 see 13 rfl Try.underlying3 rfl rfl) (fun w2 hw => hw) ?_
            refine DT.take 5 rfl rfl rfl rfl (by kernel_rfl) (fun _ _ _ h => h) (Val.move rfl) (fun w2 hw => hw) ?_
            refine DT.take 6 rfl rfl rfl rfl (by kernel_rfl) (fun _ _ _ h => h) (Val.move rfl) (fun w2 hw => hw) ?_
            refine DT.take 7 rfl rfl rfl rfl (by kernel_rfl) (fun _ _ _ h => h) (Val.indexE h_p106 Try.underlying44 sz48 rfl rfl) (fun w2 hw => hw) ?_
            refine DT.take 8 rfl rfl rfl rfl (by kernel_rfl) (fun _ _ _ h => h) (Val.fieldE h_p109 Try.underlying48 rfl rfl sz3 rfl) (fun w2 hw => hw) ?_
            refine DT.take 9 rfl rfl rfl rfl (by kernel_rfl) (fun _ _ _ h => h) (Val.loadAt1 see 10 rfl Try.underlying3 rfl rfl) (fun w2 hw => hw) ?_
            refine DT.take 10 rfl rfl rfl rfl (by kernel_rfl) (fun _ _ _ h => h) (Val.neq rfl rfl) (fun w2 hw => hw) ?_
            refine DT.take 11 rfl rfl rfl rfl (by kernel_rfl) (fun _ _ _ h => h) (Val.move rfl) (fun w2 hw => hw) ?_
            refine DT.is (d := 28) (b := false) rfl hg113 ?_
            refine DT.take 12 rfl rfl rfl rfl (by kernel_rfl) (fun _ _ _ h => h) (Val.move rfl) (fun w2 hw => hw) ?_
            refine DT.take 13 rfl rfl rfl rfl (by kernel_rfl) (fun _ _ _ h => h) (Val.move rfl) (fun w2 hw => hw) ?_
            refine DT.take 14 rfl rfl rfl rfl (by kernel_rfl) (fun _ _ _ h => h) (Val.indexE h_p114 Try.underlying44 sz48 rfl rfl) (fun w2 hw => hw) ?_
            refine DT.take 15 rfl rfl rfl rfl (by kernel_rfl) (fun _ _ _ h => h) (Val.fieldE h_p117 Try.underlying48 rfl rfl sz34 rfl) (fun w2 hw => hw) ?_
            refine DT.take 16 rfl rfl rfl rfl (by kernel_rfl) (fun _ _ _ h => h) (Val.loadAtA see 5 rfl Try.underlying34 rfl sz34 rfl) (fun w2 hw => hw) ?_
            refine DT.take 17 rfl rfl rfl rfl (by kernel_rfl) (fun _ _ _ h => h) (Val.move rfl) (fun w2 hw => hw) ?_
            refine DT.take 18 rfl rfl rfl rfl (by kernel_rfl) (fun _ _ _ h => h) (Val.move rfl) (fun w2 hw => hw) ?_
            refine DT.take 19 rfl rfl rfl rfl (by kernel_rfl) (fun _ _ _ h => h) (Val.indexE h_p124 Try.underlying44 sz48 rfl rfl) (fun w2 hw => hw) ?_
            refine DT.take 20 rfl rfl rfl rfl (by kernel_rfl) (fun _ _ _ h => h) (Val.fieldE h_p127 Try.underlying48 rfl rfl sz34 rfl) (fun w2 hw => hw) ?_
            refine DT.take 21 rfl rfl rfl rfl (by kernel_rfl) (fun _ _ _ h => h) (Val.loadAtA see 0 rfl Try.underlying34 rfl sz34 rfl) (fun w2 hw => hw) ?_
            refine DT.one 22 rfl (by kernel_rfl) rfl ?_
            refine SP.callV see (caps := []) (.bool t134) fn43 rfl rfl rfl rfl (fun w2 hP hs sub ap => capstanref20_Same.ok x116.Op x126.Op _ _ _ _ _ hc135 w2 hP sub (ap.get 6 rfl) (ap.get 7 rfl) (ap.get 1 rfl) (ap.get 2 rfl)) ?_
            refine SP.nil ?_
            refine QE.atT (fun w2 hw => hw) ?_
            refine DT.take 23 rfl rfl rfl rfl (by kernel_rfl) (fun _ _ _ h => h) (Val.notB rfl) (fun w2 hw => hw) ?_
            refine DT.take 24 rfl rfl rfl rfl (by kernel_rfl) (fun _ _ _ h => h) (Val.pickF rfl rfl) (fun w2 hw => hw) ?_
            refine DT.take 25 rfl rfl rfl rfl (by kernel_rfl) (fun _ _ _ h => h) (Val.move rfl) (fun w2 hw => hw) ?_
            refine DT.is (d := 42) (b := true) rfl hg136 ?_
            refine DT.not 26 rfl rfl rfl rfl (by kernel_rfl) (fun _ _ _ h => h) (fun w2 hw => hw) ?_
            refine DT.not 27 rfl rfl rfl rfl (by kernel_rfl) (fun _ _ _ h => h) (fun w2 hw => hw) ?_
            refine DT.not 28 rfl rfl rfl rfl (by kernel_rfl) (fun _ _ _ h => h) (fun w2 hw => hw) ?_
            refine DT.not 29 rfl rfl rfl rfl (by kernel_rfl) (fun _ _ _ h => h) (fun w2 hw => hw) ?_
            refine DT.not 30 rfl rfl rfl rfl (by kernel_rfl) (fun _ _ _ h => h) (fun w2 hw => hw) ?_
            refine DT.not 31 rfl rfl rfl rfl (by kernel_rfl) (fun _ _ _ h => h) (fun w2 hw => hw) ?_
            refine DT.not 32 rfl rfl rfl rfl (by kernel_rfl) (fun _ _ _ h => h) (fun w2 hw => hw) ?_
            refine DT.not 33 rfl rfl rfl rfl (by kernel_rfl) (fun _ _ _ h => h) (fun w2 hw => hw) ?_
            refine DT.not 34 rfl rfl rfl rfl (by kernel_rfl) (fun _ _ _ h => h) (fun w2 hw => hw) ?_
            refine DT.not 35 rfl rfl rfl rfl (by kernel_rfl) (fun _ _ _ h => h) (fun w2 hw => hw) ?_
            refine DT.not 36 rfl rfl rfl rfl (by kernel_rfl) (fun _ _ _ h => h) (fun w2 hw => hw) ?_
            refine DT.take 37 rfl rfl rfl rfl (by kernel_rfl) (fun _ _ _ h => h) (Val.pickT rfl rfl) (fun w2 hw => hw) ?_
            refine DT.take 38 rfl rfl rfl rfl (by kernel_rfl) (fun _ _ _ h => h) (Val.move rfl) (fun w2 hw => hw) ?_
            refine DT.not 39 rfl rfl rfl rfl (by kernel_rfl) (fun _ _ _ h => h) (fun w2 hw => hw) ?_
            refine DT.not 40 rfl rfl rfl rfl (by kernel_rfl) (fun _ _ _ h => h) (fun w2 hw => hw) ?_
            refine DT.not 41 rfl rfl rfl rfl (by kernel_rfl) (fun _ _ _ h => h) (fun w2 hw => hw) ?_
            refine DT.not 42 rfl rfl rfl rfl (by kernel_rfl) (fun _ _ _ h => h) (fun w2 hw => hw) ?_
            refine DT.not 43 rfl rfl rfl rfl (by kernel_rfl) (fun _ _ _ h => h) (fun w2 hw => hw) ?_
            refine DT.not 44 rfl rfl rfl rfl (by kernel_rfl) (fun _ _ _ h => h) (fun w2 hw => hw) ?_
            refine DT.not 45 rfl rfl rfl rfl (by kernel_rfl) (fun _ _ _ h => h) (fun w2 hw => hw) ?_
            refine DT.not 46 rfl rfl rfl rfl (by kernel_rfl) (fun _ _ _ h => h) (fun w2 hw => hw) ?_
            refine DT.not 47 rfl rfl rfl rfl (by kernel_rfl) (fun _ _ _ h => h) (fun w2 hw => hw) ?_
            refine DT.not 48 rfl rfl rfl rfl (by kernel_rfl) (fun _ _ _ h => h) (fun w2 hw => hw) ?_
            refine DT.not 49 rfl rfl rfl rfl (by kernel_rfl) (fun _ _ _ h => h) (fun w2 hw => hw) ?_
            refine DT.take 50 rfl rfl rfl rfl (by kernel_rfl) (fun _ _ _ h => h) (Val.pickT rfl rfl) (fun w2 hw => hw) ?_
            refine DT.take 51 rfl rfl rfl rfl (by kernel_rfl) (fun _ _ _ h => h) (Val.move rfl) (fun w2 hw => hw) ?_
            refine DT.not 52 rfl rfl rfl rfl (by kernel_rfl) (fun _ _ _ h => h) (fun w2 hw => hw) ?_
            refine DT.not 53 rfl rfl rfl rfl (by kernel_rfl) (fun _ _ _ h => h) (fun w2 hw => hw) ?_
            refine DT.not 54 rfl rfl rfl rfl (by kernel_rfl) (fun _ _ _ h => h) (fun w2 hw => hw) ?_
            refine DT.not 55 rfl rfl rfl rfl (by kernel_rfl) (fun _ _ _ h => h) (fun w2 hw => hw) ?_
            refine DT.not 56 rfl rfl rfl rfl (by kernel_rfl) (fun _ _ _ h => h) (fun w2 hw => hw) ?_
            refine DT.not 57 rfl rfl rfl rfl (by kernel_rfl) (fun _ _ _ h => h) (fun w2 hw => hw) ?_
            refine DT.not 58 rfl rfl rfl rfl (by kernel_rfl) (fun _ _ _ h => h) (fun w2 hw => hw) ?_
            refine DT.not 59 rfl rfl rfl rfl (by kernel_rfl) (fun _ _ _ h => h) (fun w2 hw => hw) ?_
            refine DT.not 60 rfl rfl rfl rfl (by kernel_rfl) (fun _ _ _ h => h) (fun w2 hw => hw) ?_
            refine DT.not 61 rfl rfl rfl rfl (by kernel_rfl) (fun _ _ _ h => h) (fun w2 hw => hw) ?_
            refine DT.not 62 rfl rfl rfl rfl (by kernel_rfl) (fun _ _ _ h => h) (fun w2 hw => hw) ?_
            refine DT.take 63 rfl rfl rfl rfl (by kernel_rfl) (fun _ _ _ h => h) (Val.pickT rfl rfl) (fun w2 hw => hw) ?_
            refine DT.take 64 rfl rfl rfl rfl (by kernel_rfl) (fun _ _ _ h => h) (Val.move rfl) (fun w2 hw => hw) ?_
            refine DT.not 65 rfl rfl rfl rfl (by kernel_rfl) (fun _ _ _ h => h) (fun w2 hw => hw) ?_
            refine DT.not 66 rfl rfl rfl rfl (by kernel_rfl) (fun _ _ _ h => h) (fun w2 hw => hw) ?_
            refine DT.not 67 rfl rfl rfl rfl (by kernel_rfl) (fun _ _ _ h => h) (fun w2 hw => hw) ?_
            refine DT.not 68 rfl rfl rfl rfl (by kernel_rfl) (fun _ _ _ h => h) (fun w2 hw => hw) ?_
            refine DT.not 69 rfl rfl rfl rfl (by kernel_rfl) (fun _ _ _ h => h) (fun w2 hw => hw) ?_
            refine DT.not 70 rfl rfl rfl rfl (by kernel_rfl) (fun _ _ _ h => h) (fun w2 hw => hw) ?_
            refine DT.not 71 rfl rfl rfl rfl (by kernel_rfl) (fun _ _ _ h => h) (fun w2 hw => hw) ?_
            refine DT.not 72 rfl rfl rfl rfl (by kernel_rfl) (fun _ _ _ h => h) (fun w2 hw => hw) ?_
            refine DT.not 73 rfl rfl rfl rfl (by kernel_rfl) (fun _ _ _ h => h) (fun w2 hw => hw) ?_
            refine DT.not 74 rfl rfl rfl rfl (by kernel_rfl) (fun _ _ _ h => h) (fun w2 hw => hw) ?_
            refine DT.not 75 rfl rfl rfl rfl (by kernel_rfl) (fun _ _ _ h => h) (fun w2 hw => hw) ?_
            refine DT.take 76 rfl rfl rfl rfl (by kernel_rfl) (fun _ _ _ h => h) (Val.pickT rfl rfl) (fun w2 hw => hw) ?_
            refine DT.next (by kernel_rfl) ?_
            refine DA.done (by kernel_rfl) ?_
            exact QE.meet fun a w2 ha hw => ⟨true, m99, _, (by omega), ho, hr, ha.sub ⟨rfl, rfl, rfl, rfl, trivial⟩, (St.selP [16, 17] rfl hw)⟩
          · have hg137 := (bf hc)
            clear hc
            obtain ⟨x140, hx, ho⟩ := bind_some ho
            have hx := elt_some hx
            refine DA.ghost (fun w2 h => h.elem see 16 rfl hx.1 hx.2) (fun p138 h_p138 => ?_)
            clear hx
            refine DA.ghost (fun w2 h => h.fieldE see 0 rfl k_history_Call.part_Read) (fun p141 h_p141 => ?_)
            refine DA.ghost (fun w2 h => h.openE see 0 rfl (fun _ : Unit => [.bool x140.Read]) (fun _ => []) (fun h cs e => ⟨(), e, All.nil _⟩)) (fun _ _ => ?_)
            obtain ⟨x146, hx, ho⟩ := bind_some ho
            have hx := elt_some hx
            refine DA.ghost (fun w2 h => h.elem see 20 rfl hx.1 hx.2) (fun p144 h_p144 => ?_)
            clear hx
            refine DA.ghost (fun w2 h => h.fieldE see 0 rfl k_history_Call.part_Read) (fun p147 h_p147 => ?_)
            refine DA.ghost (fun w2 h => h.openE see 0 rfl (fun _ : Unit => [.bool x146.Read]) (fun _ => []) (fun h cs e => ⟨(), e, All.nil _⟩)) (fun _ _ => ?_)
            rcases if_some ho with ⟨hc, ho⟩ | ⟨hc, ho⟩
            · have hg150 := hc
              clear hc
              refine DA.phase (fun i => Nat.ble 0 i && Nat.blt i 77) (fun w2 => St w em hV [atP p147 [.bool x146.Read], elP kBool p147 x146.Read, elP k_history_Call p144 x146, atP p141 [.bool x140.Read], elP kBool p141 x140.Read, elP k_history_Call p138 x140, atP p127 [.int .u8 x126.Op.Kind, .int .i64 x126.Op.Method, v129, v131], slP k_api_Value v129 x126.Op.Args, slP (kInt .u8) v131 x126.Op.Bytes, elP k_api_Op p127 x126.Op, elP k_history_Call p124 x126, atP p117 [.int .u8 x116.Op.Kind, .int .i64 x116.Op.Method, v119, v121], slP k_api_Value v119 x116.Op.Args, slP (kInt .u8) v121 x116.Op.Bytes, elP k_api_Op p117 x116.Op, elP k_history_Call p114 x116, atP p109 [.int .i64 x108.Proc], elP (kInt .i64) p109 x108.Proc, elP k_history_Call p106 x108, atP p103 [.int .i64 x102.Proc], elP (kInt .i64) p103 x102.Proc, elP k_history_Call p100 x102, slP k_history_Call v_a_0 a_0, slP k_history_Call v_b_1 b_1] [] w2) ?_
              refine DT.take 0 rfl rfl rfl rfl (by kernel_rfl) (fun _ _ _ h => h) (Val.move rfl) (fun w2 hw => hw) ?_
              refine DT.take 1 rfl rfl rfl rfl (by kernel_rfl) (fun _ _ _ h => h) (Val.move rfl) (fun w2 hw => hw) ?_
              refine DT.take 2 rfl rfl rfl rfl (by kernel_rfl) (fun _ _ _ h => h) (Val.indexE h_p100 Try.underlying44 sz48 rfl rfl) (fun w2 hw => hw) ?_
              refine DT.take 3 rfl rfl rfl rfl (by kernel_rfl) (fun _ _ _ h => h) (Val.fieldE h_p103 Try.underlying48 rfl rfl sz3 rfl) (fun w2 hw => hw) ?_
              refine DT.take 4 rfl rfl rfl rfl (by kernel_rfl) (fun _ _ _ h => h) (Val.loadAt1 see 19 rfl Try.underlying3 rfl rfl) (fun w2 hw => hw) ?_
              refine DT.take 5 rfl rfl rfl rfl (by kernel_rfl) (fun _ _ _ h => h) (Val.move rfl) (fun w2 hw => hw) ?_
              refine DT.take 6 rfl rfl rfl rfl (by kernel_rfl) (fun _ _ _ h => h) (Val.move rfl) (fun w2 hw => hw) ?_
              refine DT.take 7 rfl rfl rfl rfl (by kernel_rfl) (fun _ _ _ h => h) (Val.indexE h_p106 Try.underlying44 sz48 rfl rfl) (fun w2 hw => hw) ?_
              refine DT.take 8 rfl rfl rfl rfl (by kernel_rfl) (fun _ _ _ h => h) (Val.fieldE h_p109 Try.underlying48 rfl rfl sz3 rfl) (fun w2 hw => hw) ?_
              refine DT.take 9 rfl rfl rfl rfl (by kernel_rfl) (fun _ _ _ h => h) (Val.loadAt1 see 16 rfl Try.underlying3 rfl rfl) (fun w2 hw => hw) ?_
              refine DT.take 10 rfl rfl rfl rfl (by kernel_rfl) (fun _ _ _ h => h) (Val.neq rfl rfl) (fun w2 hw => hw) ?_
              refine DT.take 11 rfl rfl rfl rfl (by kernel_rfl) (fun _ _ _ h => h) (Val.move rfl) (fun w2 hw => hw) ?_
              refine DT.is (d := 28) (b := false) rfl hg113 ?_
              refine DT.take 12 rfl rfl rfl rfl (by kernel_rfl) (fun _ _ _ h => h) (Val.move rfl) (fun w2 hw => hw) ?_
              refine DT.take 13 rfl rfl rfl rfl (by kernel_rfl) (fun _ _ _ h => h) (Val.move rfl) (fun w2 hw => hw) ?_
              refine DT.take 14 rfl rfl rfl rfl (by kernel_rfl) (fun _ _ _ h => h) (Val.indexE h_p114 Try.underlying44 sz48 rfl rfl) (fun w2 hw => hw) ?_
              refine DT.take 15 rfl rfl rfl rfl (by kernel_rfl) (fun _ _ _ h => h) (Val.fieldE h_p117 Try.underlying48 rfl rfl sz34 rfl) (fun w2 hw => hw) ?_
              refine DT.take 16 rfl rfl rfl rfl (by kernel_rfl) (fun _ _ _ h => h) (Val.loadAtA see 11 rfl Try.underlying34 rfl sz34 rfl) (fun w2 hw => hw) ?_
              refine DT.take 17 rfl rfl rfl rfl (by kernel_rfl) (fun _ _ _ h => h) (Val.move rfl) (fun w2 hw => hw) ?_
              refine DT.take 18 rfl rfl rfl rfl (by kernel_rfl) (fun _ _ _ h => h) (Val.move rfl) (fun w2 hw => hw) ?_
              refine DT.take 19 rfl rfl rfl rfl (by kernel_rfl) (fun _ _ _ h => h) (Val.indexE h_p124 Try.underlying44 sz48 rfl rfl) (fun w2 hw => hw) ?_
              refine DT.take 20 rfl rfl rfl rfl (by kernel_rfl) (fun _ _ _ h => h) (Val.fieldE h_p127 Try.underlying48 rfl rfl sz34 rfl) (fun w2 hw => hw) ?_
              refine DT.take 21 rfl rfl rfl rfl (by kernel_rfl) (fun _ _ _ h => h) (Val.loadAtA see 6 rfl Try.underlying34 rfl sz34 rfl) (fun w2 hw => hw) ?_
              refine DT.one 22 rfl (by kernel_rfl) rfl ?_
              refine SP.callV see (caps := []) (.bool t134) fn43 rfl rfl rfl rfl (fun w2 hP hs sub ap => capstanref20_Same.ok x116.Op x126.Op _ _ _ _ _ hc135 w2 hP sub (ap.get 12 rfl) (ap.get 13 rfl) (ap.get 7 rfl) (ap.get 8 rfl)) ?_
              refine SP.nil ?_
              refine QE.atT (fun w2 hw => hw) ?_
              refine DT.take 23 rfl rfl rfl rfl (by kernel_rfl) (fun _ _ _ h => h) (Val.notB rfl) (fun w2 hw => hw) ?_
              refine DT.take 24 rfl rfl rfl rfl (by kernel_rfl) (fun _ _ _ h => h) (Val.pickF rfl rfl) (fun w2 hw => hw) ?_
              refine DT.take 25 rfl rfl rfl rfl (by kernel_rfl) (fun _ _ _ h => h) (Val.move rfl) (fun w2 hw => hw) ?_
              refine DT.is (d := 42) (b := false) rfl hg137 ?_
              refine DT.take 26 rfl rfl rfl rfl (by kernel_rfl) (fun _ _ _ h => h) (Val.move rfl) (fun w2 hw => hw) ?_
              refine DT.take 27 rfl rfl rfl rfl (by kernel_rfl) (fun _ _ _ h => h) (Val.move rfl) (fun w2 hw => hw) ?_
              refine DT.take 28 rfl rfl rfl rfl (by kernel_rfl) (fun _ _ _ h => h) (Val.indexE h_p138 Try.underlying44 sz48 rfl rfl) (fun w2 hw => hw) ?_
              refine DT.take 29 rfl rfl rfl rfl (by kernel_rfl) (fun _ _ _ h => h) (Val.fieldE h_p141 Try.underlying48 rfl rfl sz4 rfl) (fun w2 hw => hw) ?_
              refine DT.take 30 rfl rfl rfl rfl (by kernel_rfl) (fun _ _ _ h => h) (Val.loadAt1 see 3 rfl Try.underlying4 rfl rfl) (fun w2 hw => hw) ?_
              refine DT.take 31 rfl rfl rfl rfl (by kernel_rfl) (fun _ _ _ h => h) (Val.move rfl) (fun w2 hw => hw) ?_
              refine DT.take 32 rfl rfl rfl rfl (by kernel_rfl) (fun _ _ _ h => h) (Val.move rfl) (fun w2 hw => hw) ?_
              refine DT.take 33 rfl rfl rfl rfl (by kernel_rfl) (fun _ _ _ h => h) (Val.indexE h_p144 Try.underlying44 sz48 rfl rfl) (fun w2 hw => hw) ?_
              refine DT.take 34 rfl rfl rfl rfl (by kernel_rfl) (fun _ _ _ h => h) (Val.fieldE h_p147 Try.underlying48 rfl rfl sz4 rfl) (fun w2 hw => hw) ?_
              refine DT.take 35 rfl rfl rfl rfl (by kernel_rfl) (fun _ _ _ h => h) (Val.loadAt1 see 0 rfl Try.underlying4 rfl rfl) (fun w2 hw => hw) ?_
              refine DT.take 36 rfl rfl rfl rfl (by kernel_rfl) (fun _ _ _ h => h) (Val.neqB Try.underlying4 rfl rfl) (fun w2 hw => hw) ?_
              refine DT.take 37 rfl rfl rfl rfl (by kernel_rfl) (fun _ _ _ h => h) (Val.pickF rfl rfl) (fun w2 hw => hw) ?_
              refine DT.take 38 rfl rfl rfl rfl (by kernel_rfl) (fun _ _ _ h => h) (Val.move rfl) (fun w2 hw => hw) ?_
              refine DT.is (d := 55) (b := true) rfl hg150 ?_
              refine DT.not 39 rfl rfl rfl rfl (by kernel_rfl) (fun _ _ _ h => h) (fun w2 hw => hw) ?_
              refine DT.not 40 rfl rfl rfl rfl (by kernel_rfl) (fun _ _ _ h => h) (fun w2 hw => hw) ?_
              refine DT.not 41 rfl rfl rfl rfl (by kernel_rfl) (fun _ _ _ h => h) (fun w2 hw => hw) ?_
              refine DT.not 42 rfl rfl rfl rfl (by kernel_rfl) (fun _ _ _ h => h) (fun w2 hw => hw) ?_
              refine DT.not 43 rfl rfl rfl rfl (by kernel_rfl) (fun _ _ _ h => h) (fun w2 hw => hw) ?_
              refine DT.not 44 rfl rfl rfl rfl (by kernel_rfl) (fun _ _ _ h => h) (fun w2 hw => hw) ?_
              refine DT.not 45 rfl rfl rfl rfl (by kernel_rfl) (fun _ _ _ h => h) (fun w2 hw => hw) ?_
              refine DT.not 46 rfl rfl rfl rfl (by kernel_rfl) (fun _ _ _ h => h) (fun w2 hw => hw) ?_
              refine DT.not 47 rfl rfl rfl rfl (by kernel_rfl) (fun _ _ _ h => h) (fun w2 hw => hw) ?_
              refine DT.not 48 rfl rfl rfl rfl (by kernel_rfl) (fun _ _ _ h => h) (fun w2 hw => hw) ?_
              refine DT.not 49 rfl rfl rfl rfl (by kernel_rfl) (fun _ _ _ h => h) (fun w2 hw => hw) ?_
              refine DT.take 50 rfl rfl rfl rfl (by kernel_rfl) (fun _ _ _ h => h) (Val.pickT rfl rfl) (fun w2 hw => hw) ?_
              refine DT.take 51 rfl rfl rfl rfl (by kernel_rfl) (fun _ _ _ h => h) (Val.move rfl) (fun w2 hw => hw) ?_
              refine DT.not 52 rfl rfl rfl rfl (by kernel_rfl) (fun _ _ _ h => h) (fun w2 hw => hw) ?_
              refine DT.not 53 rfl rfl rfl rfl (by kernel_rfl) (fun _ _ _ h => h) (fun w2 hw => hw) ?_
              refine DT.not 54 rfl rfl rfl rfl (by kernel_rfl) (fun _ _ _ h => h) (fun w2 hw => hw) ?_
              refine DT.not 55 rfl rfl rfl rfl (by kernel_rfl) (fun _ _ _ h => h) (fun w2 hw => hw) ?_
              refine DT.not 56 rfl rfl rfl rfl (by kernel_rfl) (fun _ _ _ h => h) (fun w2 hw => hw) ?_
              refine DT.not 57 rfl rfl rfl rfl (by kernel_rfl) (fun _ _ _ h => h) (fun w2 hw => hw) ?_
              refine DT.not 58 rfl rfl rfl rfl (by kernel_rfl) (fun _ _ _ h => h) (fun w2 hw => hw) ?_
              refine DT.not 59 rfl rfl rfl rfl (by kernel_rfl) (fun _ _ _ h => h) (fun w2 hw => hw) ?_
              refine DT.not 60 rfl rfl rfl rfl (by kernel_rfl) (fun _ _ _ h => h) (fun w2 hw => hw) ?_
              refine DT.not 61 rfl rfl rfl rfl (by kernel_rfl) (fun _ _ _ h => h) (fun w2 hw => hw) ?_
              refine DT.not 62 rfl rfl rfl rfl (by kernel_rfl) (fun _ _ _ h => h) (fun w2 hw => hw) ?_
              refine DT.take 63 rfl rfl rfl rfl (by kernel_rfl) (fun _ _ _ h => h) (Val.pickT rfl rfl) (fun w2 hw => hw) ?_
              refine DT.take 64 rfl rfl rfl rfl (by kernel_rfl) (fun _ _ _ h => h) (Val.move rfl) (fun w2 hw => hw) ?_
              refine DT.not 65 rfl rfl rfl rfl (by kernel_rfl) (fun _ _ _ h => h) (fun w2 hw => hw) ?_
              refine DT.not 66 rfl rfl rfl rfl (by kernel_rfl) (fun _ _ _ h => h) (fun w2 hw => hw) ?_
              refine DT.not 67 rfl rfl rfl rfl (by kernel_rfl) (fun _ _ _ h => h) (fun w2 hw => hw) ?_
              refine DT.not 68 rfl rfl rfl rfl (by kernel_rfl) (fun _ _ _ h => h) (fun w2 hw => hw) ?_
              refine DT.not 69 rfl rfl rfl rfl (by kernel_rfl) (fun _ _ _ h => h) (fun w2 hw => hw) ?_
              refine DT.not 70 rfl rfl rfl rfl (by kernel_rfl) (fun _ _ _ h => h) (fun w2 hw => hw) ?_
              refine DT.not 71 rfl rfl rfl rfl (by kernel_rfl) (fun _ _ _ h => h) (fun w2 hw => hw) ?_
              refine DT.not 72 rfl rfl rfl rfl (by kernel_rfl) (fun _ _ _ h => h) (fun w2 hw => hw) ?_
              refine DT.not 73 rfl rfl rfl rfl (by kernel_rfl) (fun _ _ _ h => h) (fun w2 hw => hw) ?_
              refine DT.not 74 rfl rfl rfl rfl (by kernel_rfl) (fun _ _ _ h => h) (fun w2 hw => hw) ?_
              refine DT.not 75 rfl rfl rfl rfl (by kernel_rfl) (fun _ _ _ h => h) (fun w2 hw => hw) ?_
              refine DT.take 76 rfl rfl rfl rfl (by kernel_rfl) (fun _ _ _ h => h) (Val.pickT rfl rfl) (fun w2 hw => hw) ?_
              refine DT.next (by kernel_rfl) ?_
              refine DA.done (by kernel_rfl) ?_
              exact QE.meet fun a w2 ha hw => ⟨true, m99, _, (by omega), ho, hr, ha.sub ⟨rfl, rfl, rfl, rfl, trivial⟩, (St.selP [22, 23] rfl hw)⟩
            · have hg151 := (bf hc)
              clear hc
              obtain ⟨x154, hx, ho⟩ := bind_some ho
              have hx := elt_some hx
              refine DA.ghost (fun w2 h => h.elem see 22 rfl hx.1 hx.2) (fun p152 h_p152 => ?_)
              clear hx
              refine DA.ghost (fun w2 h => h.fieldE see 0 rfl k_history_Call.part_Reply) (fun p155 h_p155 => ?_)
              refine DA.ghost (fun w2 h => h.openE see 0 rfl (fun _ : Unit => [.int .i64 x154.Reply.Err, .int .i64 x154.Reply.Out.Trap, .int .u8 x154.Reply.Out.Result.Kind, .int .i64 x154.Reply.Out.Result.A, .int .i64 x154.Reply.Out.Result.B]) (fun _ => []) (fun h cs e => ⟨(), e, All.nil _⟩)) (fun _ _ => ?_)
              obtain ⟨x160, hx, ho⟩ := bind_some ho
              have hx := elt_some hx
              refine DA.ghost (fun w2 h => h.elem see 26 rfl hx.1 hx.2) (fun p158 h_p158 => ?_)
              clear hx
              refine DA.ghost (fun w2 h => h.fieldE see 0 rfl k_history_Call.part_Reply) (fun p161 h_p161 => ?_)
              refine DA.ghost (fun w2 h => h.openE see 0 rfl (fun _ : Unit => [.int .i64 x160.Reply.Err, .int .i64 x160.Reply.Out.Trap, .int .u8 x160.Reply.Out.Result.Kind, .int .i64 x160.Reply.Out.Result.A, .int .i64 x160.Reply.Out.Result.B]) (fun _ => []) (fun h cs e => ⟨(), e, All.nil _⟩)) (fun _ _ => ?_)
              rcases if_some ho with ⟨hc, ho⟩ | ⟨hc, ho⟩
              · have hg164 := hc
                clear hc
                refine DA.phase (fun i => Nat.ble 0 i && Nat.blt i 77) (fun w2 => St w em hV [atP p161 [.int .i64 x160.Reply.Err, .int .i64 x160.Reply.Out.Trap, .int .u8 x160.Reply.Out.Result.Kind, .int .i64 x160.Reply.Out.Result.A, .int .i64 x160.Reply.Out.Result.B], elP k_api_Reply p161 x160.Reply, elP k_history_Call p158 x160, atP p155 [.int .i64 x154.Reply.Err, .int .i64 x154.Reply.Out.Trap, .int .u8 x154.Reply.Out.Result.Kind, .int .i64 x154.Reply.Out.Result.A, .int .i64 x154.Reply.Out.Result.B], elP k_api_Reply p155 x154.Reply, elP k_history_Call p152 x154, atP p147 [.bool x146.Read], elP kBool p147 x146.Read, elP k_history_Call p144 x146, atP p141 [.bool x140.Read], elP kBool p141 x140.Read, elP k_history_Call p138 x140, atP p127 [.int .u8 x126.Op.Kind, .int .i64 x126.Op.Method, v129, v131], slP k_api_Value v129 x126.Op.Args, slP (kInt .u8) v131 x126.Op.Bytes, elP k_api_Op p127 x126.Op, elP k_history_Call p124 x126, atP p117 [.int .u8 x116.Op.Kind, .int .i64 x116.Op.Method, v119, v121], slP k_api_Value v119 x116.Op.Args, slP (kInt .u8) v121 x116.Op.Bytes, elP k_api_Op p117 x116.Op, elP k_history_Call p114 x116, atP p109 [.int .i64 x108.Proc], elP (kInt .i64) p109 x108.Proc, elP k_history_Call p106 x108, atP p103 [.int .i64 x102.Proc], elP (kInt .i64) p103 x102.Proc, elP k_history_Call p100 x102, slP k_history_Call v_a_0 a_0, slP k_history_Call v_b_1 b_1] [] w2) ?_
                refine DT.take 0 rfl rfl rfl rfl (by kernel_rfl) (fun _ _ _ h => h) (Val.move rfl) (fun w2 hw => hw) ?_
                refine DT.take 1 rfl rfl rfl rfl (by kernel_rfl) (fun _ _ _ h => h) (Val.move rfl) (fun w2 hw => hw) ?_
                refine DT.take 2 rfl rfl rfl rfl (by kernel_rfl) (fun _ _ _ h => h) (Val.indexE h_p100 Try.underlying44 sz48 rfl rfl) (fun w2 hw => hw) ?_
                refine DT.take 3 rfl rfl rfl rfl (by kernel_rfl) (fun _ _ _ h => h) (Val.fieldE h_p103 Try.underlying48 rfl rfl sz3 rfl) (fun w2 hw => hw) ?_
                refine DT.take 4 rfl rfl rfl rfl (by kernel_rfl) (fun _ _ _ h => h) (Val.loadAt1 see 25 rfl Try.underlying3 rfl rfl) (fun w2 hw => hw) ?_
                refine DT.take 5 rfl rfl rfl rfl (by kernel_rfl) (fun _ _ _ h => h) (Val.move rfl) (fun w2 hw => hw) ?_
                refine DT.take 6 rfl rfl rfl rfl (by kernel_rfl) (fun _ _ _ h => h) (Val.move rfl) (fun w2 hw => hw) ?_
                refine DT.take 7 rfl rfl rfl rfl (by kernel_rfl) (fun _ _ _ h => h) (Val.indexE h_p106 Try.underlying44 sz48 rfl rfl) (fun w2 hw => hw) ?_
                refine DT.take 8 rfl rfl rfl rfl (by kernel_rfl) (fun _ _ _ h => h) (Val.fieldE h_p109 Try.underlying48 rfl rfl sz3 rfl) (fun w2 hw => hw) ?_
                refine DT.take 9 rfl rfl rfl rfl (by kernel_rfl) (fun _ _ _ h => h) (Val.loadAt1 see 22 rfl Try.underlying3 rfl rfl) (fun w2 hw => hw) ?_
                refine DT.take 10 rfl rfl rfl rfl (by kernel_rfl) (fun _ _ _ h => h) (Val.neq rfl rfl) (fun w2 hw => hw) ?_
                refine DT.take 11 rfl rfl rfl rfl (by kernel_rfl) (fun _ _ _ h => h) (Val.move rfl) (fun w2 hw => hw) ?_
                refine DT.is (d := 28) (b := false) rfl hg113 ?_
                refine DT.take 12 rfl rfl rfl rfl (by kernel_rfl) (fun _ _ _ h => h) (Val.move rfl) (fun w2 hw => hw) ?_
                refine DT.take 13 rfl rfl rfl rfl (by kernel_rfl) (fun _ _ _ h => h) (Val.move rfl) (fun w2 hw => hw) ?_
                refine DT.take 14 rfl rfl rfl rfl (by kernel_rfl) (fun _ _ _ h => h) (Val.indexE h_p114 Try.underlying44 sz48 rfl rfl) (fun w2 hw => hw) ?_
                refine DT.take 15 rfl rfl rfl rfl (by kernel_rfl) (fun _ _ _ h => h) (Val.fieldE h_p117 Try.underlying48 rfl rfl sz34 rfl) (fun w2 hw => hw) ?_
                refine DT.take 16 rfl rfl rfl rfl (by kernel_rfl) (fun _ _ _ h => h) (Val.loadAtA see 17 rfl Try.underlying34 rfl sz34 rfl) (fun w2 hw => hw) ?_
                refine DT.take 17 rfl rfl rfl rfl (by kernel_rfl) (fun _ _ _ h => h) (Val.move rfl) (fun w2 hw => hw) ?_
                refine DT.take 18 rfl rfl rfl rfl (by kernel_rfl) (fun _ _ _ h => h) (Val.move rfl) (fun w2 hw => hw) ?_
                refine DT.take 19 rfl rfl rfl rfl (by kernel_rfl) (fun _ _ _ h => h) (Val.indexE h_p124 Try.underlying44 sz48 rfl rfl) (fun w2 hw => hw) ?_
                refine DT.take 20 rfl rfl rfl rfl (by kernel_rfl) (fun _ _ _ h => h) (Val.fieldE h_p127 Try.underlying48 rfl rfl sz34 rfl) (fun w2 hw => hw) ?_
                refine DT.take 21 rfl rfl rfl rfl (by kernel_rfl) (fun _ _ _ h => h) (Val.loadAtA see 12 rfl Try.underlying34 rfl sz34 rfl) (fun w2 hw => hw) ?_
                refine DT.one 22 rfl (by kernel_rfl) rfl ?_
                refine SP.callV see (caps := []) (.bool t134) fn43 rfl rfl rfl rfl (fun w2 hP hs sub ap => capstanref20_Same.ok x116.Op x126.Op _ _ _ _ _ hc135 w2 hP sub (ap.get 18 rfl) (ap.get 19 rfl) (ap.get 13 rfl) (ap.get 14 rfl)) ?_
                refine SP.nil ?_
                refine QE.atT (fun w2 hw => hw) ?_
                refine DT.take 23 rfl rfl rfl rfl (by kernel_rfl) (fun _ _ _ h => h) (Val.notB rfl) (fun w2 hw => hw) ?_
                refine DT.take 24 rfl rfl rfl rfl (by kernel_rfl) (fun _ _ _ h => h) (Val.pickF rfl rfl) (fun w2 hw => hw) ?_
                refine DT.take 25 rfl rfl rfl rfl (by kernel_rfl) (fun _ _ _ h => h) (Val.move rfl) (fun w2 hw => hw) ?_
                refine DT.is (d := 42) (b := false) rfl hg137 ?_
                refine DT.take 26 rfl rfl rfl rfl (by kernel_rfl) (fun _ _ _ h => h) (Val.move rfl) (fun w2 hw => hw) ?_
                refine DT.take 27 rfl rfl rfl rfl (by kernel_rfl) (fun _ _ _ h => h) (Val.move rfl) (fun w2 hw => hw) ?_
                refine DT.take 28 rfl rfl rfl rfl (by kernel_rfl) (fun _ _ _ h => h) (Val.indexE h_p138 Try.underlying44 sz48 rfl rfl) (fun w2 hw => hw) ?_
                refine DT.take 29 rfl rfl rfl rfl (by kernel_rfl) (fun _ _ _ h => h) (Val.fieldE h_p141 Try.underlying48 rfl rfl sz4 rfl) (fun w2 hw => hw) ?_
                refine DT.take 30 rfl rfl rfl rfl (by kernel_rfl) (fun _ _ _ h => h) (Val.loadAt1 see 9 rfl Try.underlying4 rfl rfl) (fun w2 hw => hw) ?_
                refine DT.take 31 rfl rfl rfl rfl (by kernel_rfl) (fun _ _ _ h => h) (Val.move rfl) (fun w2 hw => hw) ?_
                refine DT.take 32 rfl rfl rfl rfl (by kernel_rfl) (fun _ _ _ h => h) (Val.move rfl) (fun w2 hw => hw) ?_
                refine DT.take 33 rfl rfl rfl rfl (by kernel_rfl) (fun _ _ _ h => h) (Val.indexE h_p144 Try.underlying44 sz48 rfl rfl) (fun w2 hw => hw) ?_
                refine DT.take 34 rfl rfl rfl rfl (by kernel_rfl) (fun _ _ _ h => h) (Val.fieldE h_p147 Try.underlying48 rfl rfl sz4 rfl) (fun w2 hw => hw) ?_
                refine DT.take 35 rfl rfl rfl rfl (by kernel_rfl) (fun _ _ _ h => h) (Val.loadAt1 see 6 rfl Try.underlying4 rfl rfl) (fun w2 hw => hw) ?_
                refine DT.take 36 rfl rfl rfl rfl (by kernel_rfl) (fun _ _ _ h => h) (Val.neqB Try.underlying4 rfl rfl) (fun w2 hw => hw) ?_
                refine DT.take 37 rfl rfl rfl rfl (by kernel_rfl) (fun _ _ _ h => h) (Val.pickF rfl rfl) (fun w2 hw => hw) ?_
                refine DT.take 38 rfl rfl rfl rfl (by kernel_rfl) (fun _ _ _ h => h) (Val.move rfl) (fun w2 hw => hw) ?_
                refine DT.is (d := 55) (b := false) rfl hg151 ?_
                refine DT.take 39 rfl rfl rfl rfl (by kernel_rfl) (fun _ _ _ h => h) (Val.move rfl) (fun w2 hw => hw) ?_
                refine DT.take 40 rfl rfl rfl rfl (by kernel_rfl) (fun _ _ _ h => h) (Val.move rfl) (fun w2 hw => hw) ?_
                refine DT.take 41 rfl rfl rfl rfl (by kernel_rfl) (fun _ _ _ h => h) (Val.indexE h_p152 Try.underlying44 sz48 rfl rfl) (fun w2 hw => hw) ?_
                refine DT.take 42 rfl rfl rfl rfl (by kernel_rfl) (fun _ _ _ h => h) (Val.fieldE h_p155 Try.underlying48 rfl rfl sz41 rfl) (fun w2 hw => hw) ?_
                refine DT.take 43 rfl rfl rfl rfl (by kernel_rfl) (fun _ _ _ h => h) (Val.loadAtA see 3 rfl Try.underlying41 rfl sz41 rfl) (fun w2 hw => hw) ?_
                refine DT.take 44 rfl rfl rfl rfl (by kernel_rfl) (fun _ _ _ h => h) (Val.move rfl) (fun w2 hw => hw) ?_
                refine DT.take 45 rfl rfl rfl rfl (by kernel_rfl) (fun _ _ _ h => h) (Val.move rfl) (fun w2 hw => hw) ?_
                refine DT.take 46 rfl rfl rfl rfl (by kernel_rfl) (fun _ _ _ h => h) (Val.indexE h_p158 Try.underlying44 sz48 rfl rfl) (fun w2 hw => hw) ?_
                refine DT.take 47 rfl rfl rfl rfl (by kernel_rfl) (fun _ _ _ h => h) (Val.fieldE h_p161 Try.underlying48 rfl rfl sz41 rfl) (fun w2 hw => hw) ?_
                refine DT.take 48 rfl rfl rfl rfl (by kernel_rfl) (fun _ _ _ h => h) (Val.loadAtA see 0 rfl Try.underlying41 rfl sz41 rfl) (fun w2 hw => hw) ?_
                refine DT.take 49 rfl rfl rfl rfl (by kernel_rfl) (fun _ _ _ h => h) (Val.neqA (by kernel_rfl) (fun w2 => eqA41 9996 w2 x154.Reply.Err x160.Reply.Err x154.Reply.Out.Trap x160.Reply.Out.Trap x154.Reply.Out.Result.Kind x160.Reply.Out.Result.Kind x154.Reply.Out.Result.A x160.Reply.Out.Result.A x154.Reply.Out.Result.B x160.Reply.Out.Result.B) rfl rfl) (fun w2 hw => hw) ?_
                refine DT.take 50 rfl rfl rfl rfl (by kernel_rfl) (fun _ _ _ h => h) (Val.pickF rfl rfl) (fun w2 hw => hw) ?_
                refine DT.take 51 rfl rfl rfl rfl (by kernel_rfl) (fun _ _ _ h => h) (Val.move rfl) (fun w2 hw => hw) ?_
                refine DT.is (d := 68) (b := true) rfl hg164 ?_
                refine DT.not 52 rfl rfl rfl rfl (by kernel_rfl) (fun _ _ _ h => h) (fun w2 hw => hw) ?_
                refine DT.not 53 rfl rfl rfl rfl (by kernel_rfl) (fun _ _ _ h => h) (fun w2 hw => hw) ?_
                refine DT.not 54 rfl rfl rfl rfl (by kernel_rfl) (fun _ _ _ h => h) (fun w2 hw => hw) ?_
                refine DT.not 55 rfl rfl rfl rfl (by kernel_rfl) (fun _ _ _ h => h) (fun w2 hw => hw) ?_
                refine DT.not 56 rfl rfl rfl rfl (by kernel_rfl) (fun _ _ _ h => h) (fun w2 hw => hw) ?_
                refine DT.not 57 rfl rfl rfl rfl (by kernel_rfl) (fun _ _ _ h => h) (fun w2 hw => hw) ?_
                refine DT.not 58 rfl rfl rfl rfl (by kernel_rfl) (fun _ _ _ h => h) (fun w2 hw => hw) ?_
                refine DT.not 59 rfl rfl rfl rfl (by kernel_rfl) (fun _ _ _ h => h) (fun w2 hw => hw) ?_
                refine DT.not 60 rfl rfl rfl rfl (by kernel_rfl) (fun _ _ _ h => h) (fun w2 hw => hw) ?_
                refine DT.not 61 rfl rfl rfl rfl (by kernel_rfl) (fun _ _ _ h => h) (fun w2 hw => hw) ?_
                refine DT.not 62 rfl rfl rfl rfl (by kernel_rfl) (fun _ _ _ h => h) (fun w2 hw => hw) ?_
                refine DT.take 63 rfl rfl rfl rfl (by kernel_rfl) (fun _ _ _ h => h) (Val.pickT rfl rfl) (fun w2 hw => hw) ?_
                refine DT.take 64 rfl rfl rfl rfl (by kernel_rfl) (fun _ _ _ h => h) (Val.move rfl) (fun w2 hw => hw) ?_
                refine DT.not 65 rfl rfl rfl rfl (by kernel_rfl) (fun _ _ _ h => h) (fun w2 hw => hw) ?_
                refine DT.not 66 rfl rfl rfl rfl (by kernel_rfl) (fun _ _ _ h => h) (fun w2 hw => hw) ?_
                refine DT.not 67 rfl rfl rfl rfl (by kernel_rfl) (fun _ _ _ h => h) (fun w2 hw => hw) ?_
                refine DT.not 68 rfl rfl rfl rfl (by kernel_rfl) (fun _ _ _ h => h) (fun w2 hw => hw) ?_
                refine DT.not 69 rfl rfl rfl rfl (by kernel_rfl) (fun _ _ _ h => h) (fun w2 hw => hw) ?_
                refine DT.not 70 rfl rfl rfl rfl (by kernel_rfl) (fun _ _ _ h => h) (fun w2 hw => hw) ?_
                refine DT.not 71 rfl rfl rfl rfl (by kernel_rfl) (fun _ _ _ h => h) (fun w2 hw => hw) ?_
                refine DT.not 72 rfl rfl rfl rfl (by kernel_rfl) (fun _ _ _ h => h) (fun w2 hw => hw) ?_
                refine DT.not 73 rfl rfl rfl rfl (by kernel_rfl) (fun _ _ _ h => h) (fun w2 hw => hw) ?_
                refine DT.not 74 rfl rfl rfl rfl (by kernel_rfl) (fun _ _ _ h => h) (fun w2 hw => hw) ?_
                refine DT.not 75 rfl rfl rfl rfl (by kernel_rfl) (fun _ _ _ h => h) (fun w2 hw => hw) ?_
                refine DT.take 76 rfl rfl rfl rfl (by kernel_rfl) (fun _ _ _ h => h) (Val.pickT rfl rfl) (fun w2 hw => hw) ?_
                refine DT.next (by kernel_rfl) ?_
                refine DA.done (by kernel_rfl) ?_
                exact QE.meet fun a w2 ha hw => ⟨true, m99, _, (by omega), ho, hr, ha.sub ⟨rfl, rfl, rfl, rfl, trivial⟩, (St.selP [28, 29] rfl hw)⟩
              · have hg165 := (bf hc)
                clear hc
                obtain ⟨x168, hx, ho⟩ := bind_some ho
                have hx := elt_some hx
                refine DA.ghost (fun w2 h => h.elem see 28 rfl hx.1 hx.2) (fun p166 h_p166 => ?_)
                clear hx
                refine DA.ghost (fun w2 h => h.fieldE see 0 rfl k_history_Call.part_Start) (fun p169 h_p169 => ?_)
                refine DA.ghost (fun w2 h => h.openE see 0 rfl (fun _ : Unit => [.int .i64 x168.Start]) (fun _ => []) (fun h cs e => ⟨(), e, All.nil _⟩)) (fun _ _ => ?_)
                obtain ⟨x174, hx, ho⟩ := bind_some ho
                have hx := elt_some hx
                refine DA.ghost (fun w2 h => h.elem see 32 rfl hx.1 hx.2) (fun p172 h_p172 => ?_)
                clear hx
                refine DA.ghost (fun w2 h => h.fieldE see 0 rfl k_history_Call.part_Start) (fun p175 h_p175 => ?_)
                refine DA.ghost (fun w2 h => h.openE see 0 rfl (fun _ : Unit => [.int .i64 x174.Start]) (fun _ => []) (fun h cs e => ⟨(), e, All.nil _⟩)) (fun _ _ => ?_)
                rcases if_some ho with ⟨hc, ho⟩ | ⟨hc, ho⟩
                · have hg178 := (decide_eq_true hc)
                  clear hc
                  refine DA.phase (fun i => Nat.ble 0 i && Nat.blt i 77) (fun w2 => St w em hV [atP p175 [.int .i64 x174.Start], elP (kInt .i64) p175 x174.Start, elP k_history_Call p172 x174, atP p169 [.int .i64 x168.Start], elP (kInt .i64) p169 x168.Start, elP k_history_Call p166 x168, atP p161 [.int .i64 x160.Reply.Err, .int .i64 x160.Reply.Out.Trap, .int .u8 x160.Reply.Out.Result.Kind, .int .i64 x160.Reply.Out.Result.A, .int .i64 x160.Reply.Out.Result.B], elP k_api_Reply p161 x160.Reply, elP k_history_Call p158 x160, atP p155 [.int .i64 x154.Reply.Err, .int .i64 x154.Reply.Out.Trap, .int .u8 x154.Reply.Out.Result.Kind, .int .i64 x154.Reply.Out.Result.A, .int .i64 x154.Reply.Out.Result.B], elP k_api_Reply p155 x154.Reply, elP k_history_Call p152 x154, atP p147 [.bool x146.Read], elP kBool p147 x146.Read, elP k_history_Call p144 x146, atP p141 [.bool x140.Read], elP kBool p141 x140.Read, elP k_history_Call p138 x140, atP p127 [.int .u8 x126.Op.Kind, .int .i64 x126.Op.Method, v129, v131], slP k_api_Value v129 x126.Op.Args, slP (kInt .u8) v131 x126.Op.Bytes, elP k_api_Op p127 x126.Op, elP k_history_Call p124 x126, atP p117 [.int .u8 x116.Op.Kind, .int .i64 x116.Op.Method, v119, v121], slP k_api_Value v119 x116.Op.Args, slP (kInt .u8) v121 x116.Op.Bytes, elP k_api_Op p117 x116.Op, elP k_history_Call p114 x116, atP p109 [.int .i64 x108.Proc], elP (kInt .i64) p109 x108.Proc, elP k_history_Call p106 x108, atP p103 [.int .i64 x102.Proc], elP (kInt .i64) p103 x102.Proc, elP k_history_Call p100 x102, slP k_history_Call v_a_0 a_0, slP k_history_Call v_b_1 b_1] [] w2) ?_
                  refine DT.take 0 rfl rfl rfl rfl (by kernel_rfl) (fun _ _ _ h => h) (Val.move rfl) (fun w2 hw => hw) ?_
                  refine DT.take 1 rfl rfl rfl rfl (by kernel_rfl) (fun _ _ _ h => h) (Val.move rfl) (fun w2 hw => hw) ?_
                  refine DT.take 2 rfl rfl rfl rfl (by kernel_rfl) (fun _ _ _ h => h) (Val.indexE h_p100 Try.underlying44 sz48 rfl rfl) (fun w2 hw => hw) ?_
                  refine DT.take 3 rfl rfl rfl rfl (by kernel_rfl) (fun _ _ _ h => h) (Val.fieldE h_p103 Try.underlying48 rfl rfl sz3 rfl) (fun w2 hw => hw) ?_
                  refine DT.take 4 rfl rfl rfl rfl (by kernel_rfl) (fun _ _ _ h => h) (Val.loadAt1 see 31 rfl Try.underlying3 rfl rfl) (fun w2 hw => hw) ?_
                  refine DT.take 5 rfl rfl rfl rfl (by kernel_rfl) (fun _ _ _ h => h) (Val.move rfl) (fun w2 hw => hw) ?_
                  refine DT.take 6 rfl rfl rfl rfl (by kernel_rfl) (fun _ _ _ h => h) (Val.move rfl) (fun w2 hw => hw) ?_
                  refine DT.take 7 rfl rfl rfl rfl (by kernel_rfl) (fun _ _ _ h => h) (Val.indexE h_p106 Try.underlying44 sz48 rfl rfl) (fun w2 hw => hw) ?_
                  refine DT.take 8 rfl rfl rfl rfl (by kernel_rfl) (fun _ _ _ h => h) (Val.fieldE h_p109 Try.underlying48 rfl rfl sz3 rfl) (fun w2 hw => hw) ?_
                  refine DT.take 9 rfl rfl rfl rfl (by kernel_rfl) (fun _ _ _ h => h) (Val.loadAt1 see 28 rfl Try.underlying3 rfl rfl) (fun w2 hw => hw) ?_
                  refine DT.take 10 rfl rfl rfl rfl (by kernel_rfl) (fun _ _ _ h => h) (Val.neq rfl rfl) (fun w2 hw => hw) ?_
                  refine DT.take 11 rfl rfl rfl rfl (by kernel_rfl) (fun _ _ _ h => h) (Val.move rfl) (fun w2 hw => hw) ?_
                  refine DT.is (d := 28) (b := false) rfl hg113 ?_
                  refine DT.take 12 rfl rfl rfl rfl (by kernel_rfl) (fun _ _ _ h => h) (Val.move rfl) (fun w2 hw => hw) ?_
                  refine DT.take 13 rfl rfl rfl rfl (by kernel_rfl) (fun _ _ _ h => h) (Val.move rfl) (fun w2 hw => hw) ?_
                  refine DT.take 14 rfl rfl rfl rfl (by kernel_rfl) (fun _ _ _ h => h) (Val.indexE h_p114 Try.underlying44 sz48 rfl rfl) (fun w2 hw => hw) ?_
                  refine DT.take 15 rfl rfl rfl rfl (by kernel_rfl) (fun _ _ _ h => h) (Val.fieldE h_p117 Try.underlying48 rfl rfl sz34 rfl) (fun w2 hw => hw) ?_
                  refine DT.take 16 rfl rfl rfl rfl (by kernel_rfl) (fun _ _ _ h => h) (Val.loadAtA see 23 rfl Try.underlying34 rfl sz34 rfl) (fun w2 hw => hw) ?_
                  refine DT.take 17 rfl rfl rfl rfl (by kernel_rfl) (fun _ _ _ h => h) (Val.move rfl) (fun w2 hw => hw) ?_
                  refine DT.take 18 rfl rfl rfl rfl (by kernel_rfl) (fun _ _ _ h => h) (Val.move rfl) (fun w2 hw => hw) ?_
                  refine DT.take 19 rfl rfl rfl rfl (by kernel_rfl) (fun _ _ _ h => h) (Val.indexE h_p124 Try.underlying44 sz48 rfl rfl) (fun w2 hw => hw) ?_
                  refine DT.take 20 rfl rfl rfl rfl (by kernel_rfl) (fun _ _ _ h => h) (Val.fieldE h_p127 Try.underlying48 rfl rfl sz34 rfl) (fun w2 hw => hw) ?_
                  refine DT.take 21 rfl rfl rfl rfl (by kernel_rfl) (fun _ _ _ h => h) (Val.loadAtA see 18 rfl Try.underlying34 rfl sz34 rfl) (fun w2 hw => hw) ?_
                  refine DT.one 22 rfl (by kernel_rfl) rfl ?_
                  refine SP.callV see (caps := []) (.bool t134) fn43 rfl rfl rfl rfl (fun w2 hP hs sub ap => capstanref20_Same.ok x116.Op x126.Op _ _ _ _ _ hc135 w2 hP sub (ap.get 24 rfl) (ap.get 25 rfl) (ap.get 19 rfl) (ap.get 20 rfl)) ?_
                  refine SP.nil ?_
                  refine QE.atT (fun w2 hw => hw) ?_
                  refine DT.take 23 rfl rfl rfl rfl (by kernel_rfl) (fun _ _ _ h => h) (Val.notB rfl) (fun w2 hw => hw) ?_
                  refine DT.take 24 rfl rfl rfl rfl (by kernel_rfl) (fun _ _ _ h => h) (Val.pickF rfl rfl) (fun w2 hw => hw) ?_
                  refine DT.take 25 rfl rfl rfl rfl (by kernel_rfl) (fun _ _ _ h => h) (Val.move rfl) (fun w2 hw => hw) ?_
                  refine DT.is (d := 42) (b := false) rfl hg137 ?_
                  refine DT.take 26 rfl rfl rfl rfl (by kernel_rfl) (fun _ _ _ h => h) (Val.move rfl) (fun w2 hw => hw) ?_
                  refine DT.take 27 rfl rfl rfl rfl (by kernel_rfl) (fun _ _ _ h => h) (Val.move rfl) (fun w2 hw => hw) ?_
                  refine DT.take 28 rfl rfl rfl rfl (by kernel_rfl) (fun _ _ _ h => h) (Val.indexE h_p138 Try.underlying44 sz48 rfl rfl) (fun w2 hw => hw) ?_
                  refine DT.take 29 rfl rfl rfl rfl (by kernel_rfl) (fun _ _ _ h => h) (Val.fieldE h_p141 Try.underlying48 rfl rfl sz4 rfl) (fun w2 hw => hw) ?_
                  refine DT.take 30 rfl rfl rfl rfl (by kernel_rfl) (fun _ _ _ h => h) (Val.loadAt1 see 15 rfl Try.underlying4 rfl rfl) (fun w2 hw => hw) ?_
                  refine DT.take 31 rfl rfl rfl rfl (by kernel_rfl) (fun _ _ _ h => h) (Val.move rfl) (fun w2 hw => hw) ?_
                  refine DT.take 32 rfl rfl rfl rfl (by kernel_rfl) (fun _ _ _ h => h) (Val.move rfl) (fun w2 hw => hw) ?_
                  refine DT.take 33 rfl rfl rfl rfl (by kernel_rfl) (fun _ _ _ h => h) (Val.indexE h_p144 Try.underlying44 sz48 rfl rfl) (fun w2 hw => hw) ?_
                  refine DT.take 34 rfl rfl rfl rfl (by kernel_rfl) (fun _ _ _ h => h) (Val.fieldE h_p147 Try.underlying48 rfl rfl sz4 rfl) (fun w2 hw => hw) ?_
                  refine DT.take 35 rfl rfl rfl rfl (by kernel_rfl) (fun _ _ _ h => h) (Val.loadAt1 see 12 rfl Try.underlying4 rfl rfl) (fun w2 hw => hw) ?_
                  refine DT.take 36 rfl rfl rfl rfl (by kernel_rfl) (fun _ _ _ h => h) (Val.neqB Try.underlying4 rfl rfl) (fun w2 hw => hw) ?_
                  refine DT.take 37 rfl rfl rfl rfl (by kernel_rfl) (fun _ _ _ h => h) (Val.pickF rfl rfl) (fun w2 hw => hw) ?_
                  refine DT.take 38 rfl rfl rfl rfl (by kernel_rfl) (fun _ _ _ h => h) (Val.move rfl) (fun w2 hw => hw) ?_
                  refine DT.is (d := 55) (b := false) rfl hg151 ?_
                  refine DT.take 39 rfl rfl rfl rfl (by kernel_rfl) (fun _ _ _ h => h) (Val.move rfl) (fun w2 hw => hw) ?_
                  refine DT.take 40 rfl rfl rfl rfl (by kernel_rfl) (fun _ _ _ h => h) (Val.move rfl) (fun w2 hw => hw) ?_
                  refine DT.take 41 rfl rfl rfl rfl (by kernel_rfl) (fun _ _ _ h => h) (Val.indexE h_p152 Try.underlying44 sz48 rfl rfl) (fun w2 hw => hw) ?_
                  refine DT.take 42 rfl rfl rfl rfl (by kernel_rfl) (fun _ _ _ h => h) (Val.fieldE h_p155 Try.underlying48 rfl rfl sz41 rfl) (fun w2 hw => hw) ?_
                  refine DT.take 43 rfl rfl rfl rfl (by kernel_rfl) (fun _ _ _ h => h) (Val.loadAtA see 9 rfl Try.underlying41 rfl sz41 rfl) (fun w2 hw => hw) ?_
                  refine DT.take 44 rfl rfl rfl rfl (by kernel_rfl) (fun _ _ _ h => h) (Val.move rfl) (fun w2 hw => hw) ?_
                  refine DT.take 45 rfl rfl rfl rfl (by kernel_rfl) (fun _ _ _ h => h) (Val.move rfl) (fun w2 hw => hw) ?_
                  refine DT.take 46 rfl rfl rfl rfl (by kernel_rfl) (fun _ _ _ h => h) (Val.indexE h_p158 Try.underlying44 sz48 rfl rfl) (fun w2 hw => hw) ?_
                  refine DT.take 47 rfl rfl rfl rfl (by kernel_rfl) (fun _ _ _ h => h) (Val.fieldE h_p161 Try.underlying48 rfl rfl sz41 rfl) (fun w2 hw => hw) ?_
                  refine DT.take 48 rfl rfl rfl rfl (by kernel_rfl) (fun _ _ _ h => h) (Val.loadAtA see 6 rfl Try.underlying41 rfl sz41 rfl) (fun w2 hw => hw) ?_
                  refine DT.take 49 rfl rfl rfl rfl (by kernel_rfl) (fun _ _ _ h => h) (Val.neqA (by kernel_rfl) (fun w2 => eqA41 9996 w2 x154.Reply.Err x160.Reply.Err x154.Reply.Out.Trap x160.Reply.Out.Trap x154.Reply.Out.Result.Kind x160.Reply.Out.Result.Kind x154.Reply.Out.Result.A x160.Reply.Out.Result.A x154.Reply.Out.Result.B x160.Reply.Out.Result.B) rfl rfl) (fun w2 hw => hw) ?_
                  refine DT.take 50 rfl rfl rfl rfl (by kernel_rfl) (fun _ _ _ h => h) (Val.pickF rfl rfl) (fun w2 hw => hw) ?_
                  refine DT.take 51 rfl rfl rfl rfl (by kernel_rfl) (fun _ _ _ h => h) (Val.move rfl) (fun w2 hw => hw) ?_
                  refine DT.is (d := 68) (b := false) rfl hg165 ?_
                  refine DT.take 52 rfl rfl rfl rfl (by kernel_rfl) (fun _ _ _ h => h) (Val.move rfl) (fun w2 hw => hw) ?_
                  refine DT.take 53 rfl rfl rfl rfl (by kernel_rfl) (fun _ _ _ h => h) (Val.move rfl) (fun w2 hw => hw) ?_
                  refine DT.take 54 rfl rfl rfl rfl (by kernel_rfl) (fun _ _ _ h => h) (Val.indexE h_p166 Try.underlying44 sz48 rfl rfl) (fun w2 hw => hw) ?_
                  refine DT.take 55 rfl rfl rfl rfl (by kernel_rfl) (fun _ _ _ h => h) (Val.fieldE h_p169 Try.underlying48 rfl rfl sz3 rfl) (fun w2 hw => hw) ?_
                  refine DT.take 56 rfl rfl rfl rfl (by kernel_rfl) (fun _ _ _ h => h) (Val.loadAt1 see 3 rfl Try.underlying3 rfl rfl) (fun w2 hw => hw) ?_
                  refine DT.take 57 rfl rfl rfl rfl (by kernel_rfl) (fun _ _ _ h => h) (Val.move rfl) (fun w2 hw => hw) ?_
                  refine DT.take 58 rfl rfl rfl rfl (by kernel_rfl) (fun _ _ _ h => h) (Val.move rfl) (fun w2 hw => hw) ?_
                  refine DT.take 59 rfl rfl rfl rfl (by kernel_rfl) (fun _ _ _ h => h) (Val.indexE h_p172 Try.underlying44 sz48 rfl rfl) (fun w2 hw => hw) ?_
                  refine DT.take 60 rfl rfl rfl rfl (by kernel_rfl) (fun _ _ _ h => h) (Val.fieldE h_p175 Try.underlying48 rfl rfl sz3 rfl) (fun w2 hw => hw) ?_
                  refine DT.take 61 rfl rfl rfl rfl (by kernel_rfl) (fun _ _ _ h => h) (Val.loadAt1 see 0 rfl Try.underlying3 rfl rfl) (fun w2 hw => hw) ?_
                  refine DT.take 62 rfl rfl rfl rfl (by kernel_rfl) (fun _ _ _ h => h) (Val.neq rfl rfl) (fun w2 hw => hw) ?_
                  refine DT.take 63 rfl rfl rfl rfl (by kernel_rfl) (fun _ _ _ h => h) (Val.pickF rfl rfl) (fun w2 hw => hw) ?_
                  refine DT.take 64 rfl rfl rfl rfl (by kernel_rfl) (fun _ _ _ h => h) (Val.move rfl) (fun w2 hw => hw) ?_
                  refine DT.is (d := 81) (b := true) rfl hg178 ?_
                  refine DT.not 65 rfl rfl rfl rfl (by kernel_rfl) (fun _ _ _ h => h) (fun w2 hw => hw) ?_
                  refine DT.not 66 rfl rfl rfl rfl (by kernel_rfl) (fun _ _ _ h => h) (fun w2 hw => hw) ?_
                  refine DT.not 67 rfl rfl rfl rfl (by kernel_rfl) (fun _ _ _ h => h) (fun w2 hw => hw) ?_
                  refine DT.not 68 rfl rfl rfl rfl (by kernel_rfl) (fun _ _ _ h => h) (fun w2 hw => hw) ?_
                  refine DT.not 69 rfl rfl rfl rfl (by kernel_rfl) (fun _ _ _ h => h) (fun w2 hw => hw) ?_
                  refine DT.not 70 rfl rfl rfl rfl (by kernel_rfl) (fun _ _ _ h => h) (fun w2 hw => hw) ?_
                  refine DT.not 71 rfl rfl rfl rfl (by kernel_rfl) (fun _ _ _ h => h) (fun w2 hw => hw) ?_
                  refine DT.not 72 rfl rfl rfl rfl (by kernel_rfl) (fun _ _ _ h => h) (fun w2 hw => hw) ?_
                  refine DT.not 73 rfl rfl rfl rfl (by kernel_rfl) (fun _ _ _ h => h) (fun w2 hw => hw) ?_
                  refine DT.not 74 rfl rfl rfl rfl (by kernel_rfl) (fun _ _ _ h => h) (fun w2 hw => hw) ?_
                  refine DT.not 75 rfl rfl rfl rfl (by kernel_rfl) (fun _ _ _ h => h) (fun w2 hw => hw) ?_
                  refine DT.take 76 rfl rfl rfl rfl (by kernel_rfl) (fun _ _ _ h => h) (Val.pickT rfl rfl) (fun w2 hw => hw) ?_
                  refine DT.next (by kernel_rfl) ?_
                  refine DA.done (by kernel_rfl) ?_
                  exact QE.meet fun a w2 ha hw => ⟨true, m99, _, (by omega), ho, hr, ha.sub ⟨rfl, rfl, rfl, rfl, trivial⟩, (St.selP [34, 35] rfl hw)⟩
                · have hg179 := (decide_eq_false hc)
                  clear hc
                  obtain ⟨x182, hx, ho⟩ := bind_some ho
                  have hx := elt_some hx
                  refine DA.ghost (fun w2 h => h.elem see 34 rfl hx.1 hx.2) (fun p180 h_p180 => ?_)
                  clear hx
                  refine DA.ghost (fun w2 h => h.fieldE see 0 rfl k_history_Call.part_End) (fun p183 h_p183 => ?_)
                  refine DA.ghost (fun w2 h => h.openE see 0 rfl (fun _ : Unit => [.int .i64 x182.End]) (fun _ => []) (fun h cs e => ⟨(), e, All.nil _⟩)) (fun _ _ => ?_)
                  obtain ⟨x188, hx, ho⟩ := bind_some ho
                  have hx := elt_some hx
                  refine DA.ghost (fun w2 h => h.elem see 38 rfl hx.1 hx.2) (fun p186 h_p186 => ?_)
                  clear hx
                  refine DA.ghost (fun w2 h => h.fieldE see 0 rfl k_history_Call.part_End) (fun p189 h_p189 => ?_)
                  refine DA.ghost (fun w2 h => h.openE see 0 rfl (fun _ : Unit => [.int .i64 x188.End]) (fun _ => []) (fun h cs e => ⟨(), e, All.nil _⟩)) (fun _ _ => ?_)
                  refine DA.phase (fun i => Nat.ble 0 i && Nat.blt i 77) (fun w2 => St w em hV [atP p189 [.int .i64 x188.End], elP (kInt .i64) p189 x188.End, elP k_history_Call p186 x188, atP p183 [.int .i64 x182.End], elP (kInt .i64) p183 x182.End, elP k_history_Call p180 x182, atP p175 [.int .i64 x174.Start], elP (kInt .i64) p175 x174.Start, elP k_history_Call p172 x174, atP p169 [.int .i64 x168.Start], elP (kInt .i64) p169 x168.Start, elP k_history_Call p166 x168, atP p161 [.int .i64 x160.Reply.Err, .int .i64 x160.Reply.Out.Trap, .int .u8 x160.Reply.Out.Result.Kind, .int .i64 x160.Reply.Out.Result.A, .int .i64 x160.Reply.Out.Result.B], elP k_api_Reply p161 x160.Reply, elP k_history_Call p158 x160, atP p155 [.int .i64 x154.Reply.Err, .int .i64 x154.Reply.Out.Trap, .int .u8 x154.Reply.Out.Result.Kind, .int .i64 x154.Reply.Out.Result.A, .int .i64 x154.Reply.Out.Result.B], elP k_api_Reply p155 x154.Reply, elP k_history_Call p152 x154, atP p147 [.bool x146.Read], elP kBool p147 x146.Read, elP k_history_Call p144 x146, atP p141 [.bool x140.Read], elP kBool p141 x140.Read, elP k_history_Call p138 x140, atP p127 [.int .u8 x126.Op.Kind, .int .i64 x126.Op.Method, v129, v131], slP k_api_Value v129 x126.Op.Args, slP (kInt .u8) v131 x126.Op.Bytes, elP k_api_Op p127 x126.Op, elP k_history_Call p124 x126, atP p117 [.int .u8 x116.Op.Kind, .int .i64 x116.Op.Method, v119, v121], slP k_api_Value v119 x116.Op.Args, slP (kInt .u8) v121 x116.Op.Bytes, elP k_api_Op p117 x116.Op, elP k_history_Call p114 x116, atP p109 [.int .i64 x108.Proc], elP (kInt .i64) p109 x108.Proc, elP k_history_Call p106 x108, atP p103 [.int .i64 x102.Proc], elP (kInt .i64) p103 x102.Proc, elP k_history_Call p100 x102, slP k_history_Call v_a_0 a_0, slP k_history_Call v_b_1 b_1] [] w2) ?_
                  refine DT.take 0 rfl rfl rfl rfl (by kernel_rfl) (fun _ _ _ h => h) (Val.move rfl) (fun w2 hw => hw) ?_
                  refine DT.take 1 rfl rfl rfl rfl (by kernel_rfl) (fun _ _ _ h => h) (Val.move rfl) (fun w2 hw => hw) ?_
                  refine DT.take 2 rfl rfl rfl rfl (by kernel_rfl) (fun _ _ _ h => h) (Val.indexE h_p100 Try.underlying44 sz48 rfl rfl) (fun w2 hw => hw) ?_
                  refine DT.take 3 rfl rfl rfl rfl (by kernel_rfl) (fun _ _ _ h => h) (Val.fieldE h_p103 Try.underlying48 rfl rfl sz3 rfl) (fun w2 hw => hw) ?_
                  refine DT.take 4 rfl rfl rfl rfl (by kernel_rfl) (fun _ _ _ h => h) (Val.loadAt1 see 37 rfl Try.underlying3 rfl rfl) (fun w2 hw => hw) ?_
                  refine DT.take 5 rfl rfl rfl rfl (by kernel_rfl) (fun _ _ _ h => h) (Val.move rfl) (fun w2 hw => hw) ?_
                  refine DT.take 6 rfl rfl rfl rfl (by kernel_rfl) (fun _ _ _ h => h) (Val.move rfl) (fun w2 hw => hw) ?_
                  refine DT.take 7 rfl rfl rfl rfl (by kernel_rfl) (fun _ _ _ h => h) (Val.indexE h_p106 Try.underlying44 sz48 rfl rfl) (fun w2 hw => hw) ?_
                  refine DT.take 8 rfl rfl rfl rfl (by kernel_rfl) (fun _ _ _ h => h) (Val.fieldE h_p109 Try.underlying48 rfl rfl sz3 rfl) (fun w2 hw => hw) ?_
                  refine DT.take 9 rfl rfl rfl rfl (by kernel_rfl) (fun _ _ _ h => h) (Val.loadAt1 see 34 rfl Try.underlying3 rfl rfl) (fun w2 hw => hw) ?_
                  refine DT.take 10 rfl rfl rfl rfl (by kernel_rfl) (fun _ _ _ h => h) (Val.neq rfl rfl) (fun w2 hw => hw) ?_
                  refine DT.take 11 rfl rfl rfl rfl (by kernel_rfl) (fun _ _ _ h => h) (Val.move rfl) (fun w2 hw => hw) ?_
                  refine DT.is (d := 28) (b := false) rfl hg113 ?_
                  refine DT.take 12 rfl rfl rfl rfl (by kernel_rfl) (fun _ _ _ h => h) (Val.move rfl) (fun w2 hw => hw) ?_
                  refine DT.take 13 rfl rfl rfl rfl (by kernel_rfl) (fun _ _ _ h => h) (Val.move rfl) (fun w2 hw => hw) ?_
                  refine DT.take 14 rfl rfl rfl rfl (by kernel_rfl) (fun _ _ _ h => h) (Val.indexE h_p114 Try.underlying44 sz48 rfl rfl) (fun w2 hw => hw) ?_
                  refine DT.take 15 rfl rfl rfl rfl (by kernel_rfl) (fun _ _ _ h => h) (Val.fieldE h_p117 Try.underlying48 rfl rfl sz34 rfl) (fun w2 hw => hw) ?_
                  refine DT.take 16 rfl rfl rfl rfl (by kernel_rfl) (fun _ _ _ h => h) (Val.loadAtA see 29 rfl Try.underlying34 rfl sz34 rfl) (fun w2 hw => hw) ?_
                  refine DT.take 17 rfl rfl rfl rfl (by kernel_rfl) (fun _ _ _ h => h) (Val.move rfl) (fun w2 hw => hw) ?_
                  refine DT.take 18 rfl rfl rfl rfl (by kernel_rfl) (fun _ _ _ h => h) (Val.move rfl) (fun w2 hw => hw) ?_
                  refine DT.take 19 rfl rfl rfl rfl (by kernel_rfl) (fun _ _ _ h => h) (Val.indexE h_p124 Try.underlying44 sz48 rfl rfl) (fun w2 hw => hw) ?_
                  refine DT.take 20 rfl rfl rfl rfl (by kernel_rfl) (fun _ _ _ h => h) (Val.fieldE h_p127 Try.underlying48 rfl rfl sz34 rfl) (fun w2 hw => hw) ?_
                  refine DT.take 21 rfl rfl rfl rfl (by kernel_rfl) (fun _ _ _ h => h) (Val.loadAtA see 24 rfl Try.underlying34 rfl sz34 rfl) (fun w2 hw => hw) ?_
                  refine DT.one 22 rfl (by kernel_rfl) rfl ?_
                  refine SP.callV see (caps := []) (.bool t134) fn43 rfl rfl rfl rfl (fun w2 hP hs sub ap => capstanref20_Same.ok x116.Op x126.Op _ _ _ _ _ hc135 w2 hP sub (ap.get 30 rfl) (ap.get 31 rfl) (ap.get 25 rfl) (ap.get 26 rfl)) ?_
                  refine SP.nil ?_
                  refine QE.atT (fun w2 hw => hw) ?_
                  refine DT.take 23 rfl rfl rfl rfl (by kernel_rfl) (fun _ _ _ h => h) (Val.notB rfl) (fun w2 hw => hw) ?_
                  refine DT.take 24 rfl rfl rfl rfl (by kernel_rfl) (fun _ _ _ h => h) (Val.pickF rfl rfl) (fun w2 hw => hw) ?_
                  refine DT.take 25 rfl rfl rfl rfl (by kernel_rfl) (fun _ _ _ h => h) (Val.move rfl) (fun w2 hw => hw) ?_
                  refine DT.is (d := 42) (b := false) rfl hg137 ?_
                  refine DT.take 26 rfl rfl rfl rfl (by kernel_rfl) (fun _ _ _ h => h) (Val.move rfl) (fun w2 hw => hw) ?_
                  refine DT.take 27 rfl rfl rfl rfl (by kernel_rfl) (fun _ _ _ h => h) (Val.move rfl) (fun w2 hw => hw) ?_
                  refine DT.take 28 rfl rfl rfl rfl (by kernel_rfl) (fun _ _ _ h => h) (Val.indexE h_p138 Try.underlying44 sz48 rfl rfl) (fun w2 hw => hw) ?_
                  refine DT.take 29 rfl rfl rfl rfl (by kernel_rfl) (fun _ _ _ h => h) (Val.fieldE h_p141 Try.underlying48 rfl rfl sz4 rfl) (fun w2 hw => hw) ?_
                  refine DT.take 30 rfl rfl rfl rfl (by kernel_rfl) (fun _ _ _ h => h) (Val.loadAt1 see 21 rfl Try.underlying4 rfl rfl) (fun w2 hw => hw) ?_
                  refine DT.take 31 rfl rfl rfl rfl (by kernel_rfl) (fun _ _ _ h => h) (Val.move rfl) (fun w2 hw => hw) ?_
                  refine DT.take 32 rfl rfl rfl rfl (by kernel_rfl) (fun _ _ _ h => h) (Val.move rfl) (fun w2 hw => hw) ?_
                  refine DT.take 33 rfl rfl rfl rfl (by kernel_rfl) (fun _ _ _ h => h) (Val.indexE h_p144 Try.underlying44 sz48 rfl rfl) (fun w2 hw => hw) ?_
                  refine DT.take 34 rfl rfl rfl rfl (by kernel_rfl) (fun _ _ _ h => h) (Val.fieldE h_p147 Try.underlying48 rfl rfl sz4 rfl) (fun w2 hw => hw) ?_
                  refine DT.take 35 rfl rfl rfl rfl (by kernel_rfl) (fun _ _ _ h => h) (Val.loadAt1 see 18 rfl Try.underlying4 rfl rfl) (fun w2 hw => hw) ?_
                  refine DT.take 36 rfl rfl rfl rfl (by kernel_rfl) (fun _ _ _ h => h) (Val.neqB Try.underlying4 rfl rfl) (fun w2 hw => hw) ?_
                  refine DT.take 37 rfl rfl rfl rfl (by kernel_rfl) (fun _ _ _ h => h) (Val.pickF rfl rfl) (fun w2 hw => hw) ?_
                  refine DT.take 38 rfl rfl rfl rfl (by kernel_rfl) (fun _ _ _ h => h) (Val.move rfl) (fun w2 hw => hw) ?_
                  refine DT.is (d := 55) (b := false) rfl hg151 ?_
                  refine DT.take 39 rfl rfl rfl rfl (by kernel_rfl) (fun _ _ _ h => h) (Val.move rfl) (fun w2 hw => hw) ?_
                  refine DT.take 40 rfl rfl rfl rfl (by kernel_rfl) (fun _ _ _ h => h) (Val.move rfl) (fun w2 hw => hw) ?_
                  refine DT.take 41 rfl rfl rfl rfl (by kernel_rfl) (fun _ _ _ h => h) (Val.indexE h_p152 Try.underlying44 sz48 rfl rfl) (fun w2 hw => hw) ?_
                  refine DT.take 42 rfl rfl rfl rfl (by kernel_rfl) (fun _ _ _ h => h) (Val.fieldE h_p155 Try.underlying48 rfl rfl sz41 rfl) (fun w2 hw => hw) ?_
                  refine DT.take 43 rfl rfl rfl rfl (by kernel_rfl) (fun _ _ _ h => h) (Val.loadAtA see 15 rfl Try.underlying41 rfl sz41 rfl) (fun w2 hw => hw) ?_
                  refine DT.take 44 rfl rfl rfl rfl (by kernel_rfl) (fun _ _ _ h => h) (Val.move rfl) (fun w2 hw => hw) ?_
                  refine DT.take 45 rfl rfl rfl rfl (by kernel_rfl) (fun _ _ _ h => h) (Val.move rfl) (fun w2 hw => hw) ?_
                  refine DT.take 46 rfl rfl rfl rfl (by kernel_rfl) (fun _ _ _ h => h) (Val.indexE h_p158 Try.underlying44 sz48 rfl rfl) (fun w2 hw => hw) ?_
                  refine DT.take 47 rfl rfl rfl rfl (by kernel_rfl) (fun _ _ _ h => h) (Val.fieldE h_p161 Try.underlying48 rfl rfl sz41 rfl) (fun w2 hw => hw) ?_
                  refine DT.take 48 rfl rfl rfl rfl (by kernel_rfl) (fun _ _ _ h => h) (Val.loadAtA see 12 rfl Try.underlying41 rfl sz41 rfl) (fun w2 hw => hw) ?_
                  refine DT.take 49 rfl rfl rfl rfl (by kernel_rfl) (fun _ _ _ h => h) (Val.neqA (by kernel_rfl) (fun w2 => eqA41 9996 w2 x154.Reply.Err x160.Reply.Err x154.Reply.Out.Trap x160.Reply.Out.Trap x154.Reply.Out.Result.Kind x160.Reply.Out.Result.Kind x154.Reply.Out.Result.A x160.Reply.Out.Result.A x154.Reply.Out.Result.B x160.Reply.Out.Result.B) rfl rfl) (fun w2 hw => hw) ?_
                  refine DT.take 50 rfl rfl rfl rfl (by kernel_rfl) (fun _ _ _ h => h) (Val.pickF rfl rfl) (fun w2 hw => hw) ?_
                  refine DT.take 51 rfl rfl rfl rfl (by kernel_rfl) (fun _ _ _ h => h) (Val.move rfl) (fun w2 hw => hw) ?_
                  refine DT.is (d := 68) (b := false) rfl hg165 ?_
                  refine DT.take 52 rfl rfl rfl rfl (by kernel_rfl) (fun _ _ _ h => h) (Val.move rfl) (fun w2 hw => hw) ?_
                  refine DT.take 53 rfl rfl rfl rfl (by kernel_rfl) (fun _ _ _ h => h) (Val.move rfl) (fun w2 hw => hw) ?_
                  refine DT.take 54 rfl rfl rfl rfl (by kernel_rfl) (fun _ _ _ h => h) (Val.indexE h_p166 Try.underlying44 sz48 rfl rfl) (fun w2 hw => hw) ?_
                  refine DT.take 55 rfl rfl rfl rfl (by kernel_rfl) (fun _ _ _ h => h) (Val.fieldE h_p169 Try.underlying48 rfl rfl sz3 rfl) (fun w2 hw => hw) ?_
                  refine DT.take 56 rfl rfl rfl rfl (by kernel_rfl) (fun _ _ _ h => h) (Val.loadAt1 see 9 rfl Try.underlying3 rfl rfl) (fun w2 hw => hw) ?_
                  refine DT.take 57 rfl rfl rfl rfl (by kernel_rfl) (fun _ _ _ h => h) (Val.move rfl) (fun w2 hw => hw) ?_
                  refine DT.take 58 rfl rfl rfl rfl (by kernel_rfl) (fun _ _ _ h => h) (Val.move rfl) (fun w2 hw => hw) ?_
                  refine DT.take 59 rfl rfl rfl rfl (by kernel_rfl) (fun _ _ _ h => h) (Val.indexE h_p172 Try.underlying44 sz48 rfl rfl) (fun w2 hw => hw) ?_
                  refine DT.take 60 rfl rfl rfl rfl (by kernel_rfl) (fun _ _ _ h => h) (Val.fieldE h_p175 Try.underlying48 rfl rfl sz3 rfl) (fun w2 hw => hw) ?_
                  refine DT.take 61 rfl rfl rfl rfl (by kernel_rfl) (fun _ _ _ h => h) (Val.loadAt1 see 6 rfl Try.underlying3 rfl rfl) (fun w2 hw => hw) ?_
                  refine DT.take 62 rfl rfl rfl rfl (by kernel_rfl) (fun _ _ _ h => h) (Val.neq rfl rfl) (fun w2 hw => hw) ?_
                  refine DT.take 63 rfl rfl rfl rfl (by kernel_rfl) (fun _ _ _ h => h) (Val.pickF rfl rfl) (fun w2 hw => hw) ?_
                  refine DT.take 64 rfl rfl rfl rfl (by kernel_rfl) (fun _ _ _ h => h) (Val.move rfl) (fun w2 hw => hw) ?_
                  refine DT.is (d := 81) (b := false) rfl hg179 ?_
                  refine DT.take 65 rfl rfl rfl rfl (by kernel_rfl) (fun _ _ _ h => h) (Val.move rfl) (fun w2 hw => hw) ?_
                  refine DT.take 66 rfl rfl rfl rfl (by kernel_rfl) (fun _ _ _ h => h) (Val.move rfl) (fun w2 hw => hw) ?_
                  refine DT.take 67 rfl rfl rfl rfl (by kernel_rfl) (fun _ _ _ h => h) (Val.indexE h_p180 Try.underlying44 sz48 rfl rfl) (fun w2 hw => hw) ?_
                  refine DT.take 68 rfl rfl rfl rfl (by kernel_rfl) (fun _ _ _ h => h) (Val.fieldE h_p183 Try.underlying48 rfl rfl sz3 rfl) (fun w2 hw => hw) ?_
                  refine DT.take 69 rfl rfl rfl rfl (by kernel_rfl) (fun _ _ _ h => h) (Val.loadAt1 see 3 rfl Try.underlying3 rfl rfl) (fun w2 hw => hw) ?_
                  refine DT.take 70 rfl rfl rfl rfl (by kernel_rfl) (fun _ _ _ h => h) (Val.move rfl) (fun w2 hw => hw) ?_
                  refine DT.take 71 rfl rfl rfl rfl (by kernel_rfl) (fun _ _ _ h => h) (Val.move rfl) (fun w2 hw => hw) ?_
                  refine DT.take 72 rfl rfl rfl rfl (by kernel_rfl) (fun _ _ _ h => h) (Val.indexE h_p186 Try.underlying44 sz48 rfl rfl) (fun w2 hw => hw) ?_
                  refine DT.take 73 rfl rfl rfl rfl (by kernel_rfl) (fun _ _ _ h => h) (Val.fieldE h_p189 Try.underlying48 rfl rfl sz3 rfl) (fun w2 hw => hw) ?_
                  refine DT.take 74 rfl rfl rfl rfl (by kernel_rfl) (fun _ _ _ h => h) (Val.loadAt1 see 0 rfl Try.underlying3 rfl rfl) (fun w2 hw => hw) ?_
                  refine DT.take 75 rfl rfl rfl rfl (by kernel_rfl) (fun _ _ _ h => h) (Val.neq rfl rfl) (fun w2 hw => hw) ?_
                  refine DT.take 76 rfl rfl rfl rfl (by kernel_rfl) (fun _ _ _ h => h) (Val.pickF rfl rfl) (fun w2 hw => hw) ?_
                  refine DT.next (by kernel_rfl) ?_
                  refine DA.done (by kernel_rfl) ?_
                  exact QE.meet fun a w2 ha hw => ⟨(decide (x182.End ≠ x188.End)), m99, _, (by omega), ho, hr, ha.sub ⟨rfl, rfl, rfl, rfl, trivial⟩, (St.selP [40, 41] rfl hw)⟩
    · refine CP.condF rfl (decide_eq_false hc) ?_
      refine CP.exit ?_
      refine QE.thru (by intro e; cases e) ?_
      refine QE.thru (by intro e; cases e) ?_
      refine QE.blockE ?_
      refine QE.then ?_
      refine CP.seq ?_
      refine CP.region ?_
      refine SP.val (Val.assign rfl) rfl rfl rfl ?_
      refine SP.nil ?_
      refine QE.then ?_
      refine CP.ret ?_
      obtain rfl := Option.some.inj ho
      obtain rfl := Option.some.inj hr
      exact QE.rets (rs := [.tmp 4]) (vs := [.bool true]) Try.results14 rfl ⟨RVs.tmp rfl, trivial⟩ (fun w2 h => St.done (fun a b p s => rfl) h)
/-! ### capstan/capstanlaw30.HistoryTells: function 6 -/
inductive capstanlaw30_HistoryTells.S where
  | start
  | l1 (x747 : Int)
  | l2 (t809 : (List history_Call)) (x1145 : Int)
  | l3 (t809 : (List history_Call)) (x1145 : Int) (l1312 : List history_Call) (x1314 : Int)
  | l4 (t809 : (List history_Call)) (x1145 : Int) (x1314 : Int) (l1393 : List history_Call) (x1395 : Int)
  | l5 (t809 : (List history_Call)) (x1145 : Int) (x1314 : Int) (l1442 : List history_Call) (x1444 : Int)

def capstanlaw30_HistoryTells.j1 (l_0 : (List history_Call)) (x747 : Int) (b807 : Bool) : Option (capstanlaw30_HistoryTells.S ⊕ Bool) :=
  if b807 = true then (some (.inr false)) else (some (.inl (.l1 (IntKind.i64.wrap (x747 + 1)))))

def capstanlaw30_HistoryTells.F (l_0 : (List history_Call)) : capstanlaw30_HistoryTells.S → Option (capstanlaw30_HistoryTells.S ⊕ Bool)
  | .start => (capstanlaw30_Great.f l_0).bind fun t2 => if t2 = true then (some (.inr true)) else ((history_May.f l_0).bind fun t3 => (capstanref30_May.f l_0).bind fun t4 => (if (!(t3 == t4)) = true then (some true) else ((history_Pending.f l_0).bind fun t7 => (capstanref30_Pending.f l_0).bind fun t8 => some (decide (t7 ≠ t8)))).bind fun t9 => (if t9 = true then (some true) else ((history_Width.f l_0).bind fun t12 => (capstanref30_Width.f l_0).bind fun t13 => some (decide (t12 ≠ t13)))).bind fun t14 => if t14 = true then (some (.inr false)) else (some (.inl (.l1 0))))
  | .l1 x747 => if x747 < (l_0.length : Int) then ((elt l_0 x747).bind fun x751 => (history_Nothing.f x751).bind fun t757 => (elt l_0 x747).bind fun x761 => (capstanref30_Nothing.f x761).bind fun t767 => if (!(t757 == t767)) = true then (capstanlaw30_HistoryTells.j1 l_0 x747 true) else ((elt l_0 x747).bind fun x773 => (elt l_0 (IntKind.i64.wrap ((IntKind.i64.wrap ((l_0.length : Int) - 1)) - x747))).bind fun x781 => (history_Ahead.f x773 x781).bind fun t787 => (elt l_0 x747).bind fun x791 => (elt l_0 (IntKind.i64.wrap ((IntKind.i64.wrap ((l_0.length : Int) - 1)) - x747))).bind fun x799 => (capstanref30_Ahead.f x791 x799).bind fun t805 => capstanlaw30_HistoryTells.j1 l_0 x747 (!(t787 == t805)))) else ((capstanref30_Some.f l_0).bind fun t809 => some (.inl (.l2 t809 0)))
  | .l2 t809 x1145 => if x1145 < 2 then ((history_Some.f l_0).bind fun t1147 => (capstanref30_Same.f t1147 t809).bind fun t1150 => if (!t1150) = true then (some (.inr false)) else (some (.inl (.l3 t809 x1145 t1147 0)))) else (some (.inr true))
  | .l3 t809 x1145 l1312 x1314 => if x1314 < (l1312.length : Int) then (some (.inl (.l4 t809 x1145 x1314 l1312 0))) else (some (.inl (.l2 t809 (IntKind.i64.wrap (x1145 + 1)))))
  | .l4 t809 x1145 x1314 l1393 x1395 => (elt l1393 x1314).bind fun x1398 => if x1395 < (x1398.Op.Args.length : Int) then ((elt l1393 x1314).bind fun x1405 => (elt x1405.Op.Args x1395).bind fun x1412 => (elt x1405.Op.Args x1395).bind fun x1415 => some (.inl (.l4 t809 x1145 x1314 (l1393.set x1314.toNat (history_Call.set_Op_Args x1405 (x1405.Op.Args.set x1395.toNat (⟨x1415.Kind, IntKind.i64.wrap (x1412.A + 1), x1415.B⟩ : api_Value)))) (IntKind.i64.wrap (x1395 + 1))))) else (some (.inl (.l5 t809 x1145 x1314 l1393 0)))
  | .l5 t809 x1145 x1314 l1442 x1444 => (elt l1442 x1314).bind fun x1447 => if x1444 < (x1447.Op.Bytes.length : Int) then ((elt l1442 x1314).bind fun x1454 => (elt x1454.Op.Bytes x1444).bind fun x1461 => (elt x1454.Op.Bytes x1444).bind fun x1463 => some (.inl (.l5 t809 x1145 x1314 (l1442.set x1314.toNat (history_Call.set_Op_Bytes x1454 (x1454.Op.Bytes.set x1444.toNat (IntKind.u8.wrap (x1461 + 1))))) (IntKind.i64.wrap (x1444 + 1))))) else ((elt l1442 x1314).bind fun x1465 => (elt l1442 x1314).bind fun x1468 => some (.inl (.l3 t809 x1145 (l1442.set x1314.toNat ({ x1468 with Start := IntKind.i64.wrap (x1465.Start + 1) } : history_Call)) (IntKind.i64.wrap (x1314 + 1)))))

def capstanlaw30_HistoryTells.f (l_0 : (List history_Call)) : Option Bool := runF (capstanlaw30_HistoryTells.F l_0) .start
theorem capstanlaw30_HistoryTells.ok (l_0 : (List history_Call)) (v_l_0 : Value) (r : Bool) (H : capstanlaw30_HistoryTells.f l_0 = some r) (w : World) (hV : Hp) (sV : Sub hV (hp w)) (h0 : slR k_history_Call hV v_l_0 l_0) :
    Trip Try.prog 6 [v_l_0].toArray em hV w (fun v => HO.pure (v = .bool r)) := by
  have see : Sees w em hV := ⟨sV, Dj.em_right _⟩
  refine Trip.of (P := Try.prog) (n := ⟨147, []⟩) Try.func6 rfl ⟨rfl, rfl⟩ rfl (St.begin (All.cons (x := slP k_history_Call v_l_0 l_0) h0 (All.nil _))) ?_
  obtain ⟨n0, hi⟩ := runF_iff.1 H
  obtain ⟨m0, o, hm0, ho, hr⟩ := iter_some hi
  clear hi
  refine CP.seq ?_
  refine CP.region ?_
  refine SP.val (Val.assign rfl) rfl rfl rfl ?_
  refine SP.nil ?_
  refine QE.then ?_
  refine CP.seq ?_
  refine CP.seq ?_
  refine CP.region ?_
  refine SP.val (Val.move rfl) rfl rfl rfl ?_
  obtain ⟨t2, hc, ho⟩ := bind_some ho
  refine SP.callV see (caps := []) (.bool t2) fn24 rfl rfl rfl rfl (fun w2 hP hs sub ap => capstanlaw30_Great.ok l_0 _ _ hc w2 hP sub (ap.get 0 rfl)) ?_
  clear hc
  refine SP.nil ?_
  refine QE.then ?_
  rcases if_some ho with ⟨hc, ho⟩ | ⟨hc, ho⟩
  · refine CP.condT rfl hc ?_
    refine CP.seq ?_
    refine CP.region ?_
    refine SP.val (Val.assign rfl) rfl rfl rfl ?_
    refine SP.nil ?_
    refine QE.then ?_
    refine CP.ret ?_
    refine QE.thru (by intro e; cases e) ?_
    obtain rfl := Option.some.inj ho
    obtain rfl := Option.some.inj hr
    exact QE.rets (rs := [.tmp 2]) (vs := [.bool true]) Try.results6 rfl ⟨RVs.tmp rfl, trivial⟩ (fun w2 h => St.done (fun a b p s => rfl) h)
  · refine CP.condF rfl (bf hc) ?_
    refine CP.skip ?_
    refine QE.then ?_
    refine CP.seq ?_
    refine CP.seq ?_
    refine CP.region ?_
    refine SP.val (Val.move rfl) rfl rfl rfl ?_
    obtain ⟨t3, hc, ho⟩ := bind_some ho
    refine SP.callV see (caps := []) (.bool t3) fn25 rfl rfl rfl rfl (fun w2 hP hs sub ap => history_May.ok l_0 _ _ hc w2 hP sub (ap.get 0 rfl)) ?_
    clear hc
    refine SP.val (Val.move rfl) rfl rfl rfl ?_
    obtain ⟨t4, hc, ho⟩ := bind_some ho
    refine SP.callV see (caps := []) (.bool t4) fn26 rfl rfl rfl rfl (fun w2 hP hs sub ap => capstanref30_May.ok l_0 _ _ hc w2 hP sub (ap.get 0 rfl)) ?_
    clear hc
    refine SP.val (Val.neqB Try.underlying4 rfl rfl) rfl rfl rfl ?_
    refine SP.val (Val.move rfl) rfl rfl rfl ?_
    obtain ⟨t9, hg_t9, ho⟩ := bind_some ho
    refine SP.join 6 (fun a w2 => Env ⟨147, []⟩ [(0, v_l_0), (24, .bool t9)] a ∧ St w em hV [slP k_history_Call v_l_0 l_0] [] w2) ?_ ?_
    · rintro a w2 ⟨ha, hw⟩
      refine SP.app ha hw ?_
      clear ha hw a w2 hg_t9
      refine SP.val (Val.move rfl) rfl rfl rfl ?_
      obtain ⟨t14, hg_t14, ho⟩ := bind_some ho
      refine SP.join 6 (fun a w2 => Env ⟨147, []⟩ [(0, v_l_0), (31, .bool t14)] a ∧ St w em hV [slP k_history_Call v_l_0 l_0] [] w2) ?_ ?_
      · rintro a w2 ⟨ha, hw⟩
        refine SP.app ha hw ?_
        clear ha hw a w2 hg_t14
        refine SP.nil ?_
        refine QE.then ?_
        rcases if_some ho with ⟨hc, ho⟩ | ⟨hc, ho⟩
        · refine CP.condT rfl hc ?_
          refine CP.seq ?_
          refine CP.region ?_
          refine SP.val (Val.assign rfl) rfl rfl rfl ?_
          refine SP.nil ?_
          refine QE.then ?_
          refine CP.ret ?_
          refine QE.thru (by intro e; cases e) ?_
          obtain rfl := Option.some.inj ho
          obtain rfl := Option.some.inj hr
          exact QE.rets (rs := [.tmp 2]) (vs := [.bool false]) Try.results6 rfl ⟨RVs.tmp rfl, trivial⟩ (fun w2 h => St.done (fun a b p s => rfl) h)
        · refine CP.condF rfl (bf hc) ?_
          refine CP.skip ?_
          refine QE.then ?_
          refine CP.seq ?_
          refine CP.seq ?_
          refine CP.region ?_
          refine SP.val (Val.assign rfl) rfl rfl rfl ?_
          refine SP.nil ?_
          refine QE.then ?_
          refine CP.block ?_
          obtain rfl := Option.some.inj ho
          refine CP.loop (fun cl1 a w2 => ∃ x747 : Int, cl1 ≤ m0 ∧ iter (capstanlaw30_HistoryTells.F l_0) cl1 (.l1 x747) = some r ∧ Env ⟨147, []⟩ [(0, v_l_0), (3, .int .i64 x747)] a ∧ St w em hV [slP k_history_Call v_l_0 l_0] [] w2) m0 (fun a w2 ha hw => ⟨0, Nat.le_refl _, hr, ha.sub ⟨rfl, rfl, trivial⟩, hw⟩) ?_
          clear hr
          rintro cl1 a w2 ⟨x747, hc_l1, hi, ha, hw⟩
          obtain ⟨m748, o, hm_m748, ho, hr⟩ := iter_some hi
          refine CP.app ha hw ?_
          clear ha hw a w2 hi
          refine CP.seq ?_
          refine CP.seq ?_
          refine CP.region ?_
          refine SP.val (Val.move rfl) rfl rfl rfl ?_
          refine SP.val (Val.move rfl) rfl rfl rfl ?_
          refine SP.val (Val.lenP see 0 rfl Try.underlying44 rfl) rfl rfl rfl ?_
          refine SP.val (Val.lss rfl rfl) rfl rfl rfl ?_
          refine SP.nil ?_
          refine QE.then ?_
          rcases if_some ho with ⟨hc, ho⟩ | ⟨hc, ho⟩
          · refine CP.condT rfl (decide_eq_true hc) ?_
            refine CP.skip ?_
            refine QE.then ?_
            refine CP.seq ?_
            refine CP.block ?_
            refine CP.seq ?_
            refine CP.region ?_
            refine SP.val (Val.move rfl) rfl rfl rfl ?_
            refine SP.val (Val.lenP see 0 rfl Try.underlying44 rfl) rfl rfl rfl ?_
            refine SP.val (Val.sub rfl rfl) rfl rfl rfl ?_
            refine SP.val (Val.move rfl) rfl rfl rfl ?_
            refine SP.val (Val.sub rfl rfl) rfl rfl rfl ?_
            refine SP.val (Val.assign rfl) rfl rfl rfl ?_
            refine SP.nil ?_
            refine QE.then ?_
            refine CP.join (fun a w2 => ∃ b807 : Bool, ∃ (m808 : Nat) (o : (capstanlaw30_HistoryTells.S ⊕ Bool)), m808 ≤ m748 ∧ capstanlaw30_HistoryTells.j1 l_0 x747 b807 = some o ∧ next (capstanlaw30_HistoryTells.F l_0) m808 o = some r ∧ Env ⟨147, []⟩ [(0, v_l_0), (3, .int .i64 x747), (74, .bool b807)] a ∧ St w em hV [slP k_history_Call v_l_0 l_0] [] w2) ?_ ?_
            · rintro a w2 ⟨b807, m808, o, hm_m808, ho, hr, ha, hw⟩
              refine CP.app ha hw ?_
              clear ha hw a w2
              rcases if_some ho with ⟨hc, ho⟩ | ⟨hc, ho⟩
              · refine CP.condT rfl hc ?_
                refine CP.seq ?_
                refine CP.region ?_
                refine SP.val (Val.assign rfl) rfl rfl rfl ?_
                refine SP.nil ?_
                refine QE.then ?_
                refine CP.ret ?_
                refine QE.blockR ?_
                refine QE.thru (by intro e; cases e) ?_
                refine QE.thru (by intro e; cases e) ?_
                refine QE.blockR ?_
                refine QE.thru (by intro e; cases e) ?_
                obtain rfl := Option.some.inj ho
                obtain rfl := Option.some.inj hr
                exact QE.rets (rs := [.tmp 2]) (vs := [.bool false]) Try.results6 rfl ⟨RVs.tmp rfl, trivial⟩ (fun w2 h => St.done (fun a b p s => rfl) h)
              · refine CP.condF rfl (bf hc) ?_
                refine CP.skip ?_
                refine QE.blockN ?_
                refine QE.then ?_
                refine CP.region ?_
                refine SP.val (Val.move rfl) rfl rfl rfl ?_
                refine SP.val (Val.add rfl rfl) rfl rfl rfl ?_
                refine SP.val (Val.assign rfl) rfl rfl rfl ?_
                refine SP.nil ?_
                obtain rfl := Option.some.inj ho
                exact QE.lower m808 (by omega) fun a w2 ha hw => ⟨(IntKind.i64.wrap (x747 + 1)), (by omega), hr, ha.sub ⟨rfl, rfl, trivial⟩, hw⟩
            · refine CP.drawA (by kernel_rfl) (fun w2 k h => h.drawn k) ?_
              obtain ⟨x751, hx, ho⟩ := bind_some ho
              have hx := elt_some hx
              refine DA.ghost (fun w2 h => h.elem see 0 rfl hx.1 hx.2) (fun p749 h_p749 => ?_)
              clear hx
              refine DA.ghost (fun w2 h => h.openE see 0 rfl (fun ((v752, v754) : Value × Value) => [.int .i64 x751.Proc, .int .u8 x751.Op.Kind, .int .i64 x751.Op.Method, v752, v754, .bool x751.Read, .int .i64 x751.Reply.Err, .int .i64 x751.Reply.Out.Trap, .int .u8 x751.Reply.Out.Result.Kind, .int .i64 x751.Reply.Out.Result.A, .int .i64 x751.Reply.Out.Result.B, .int .i64 x751.Start, .int .i64 x751.End]) (fun ((v752, v754) : Value × Value) => [slP k_api_Value v752 x751.Op.Args, slP (kInt .u8) v754 x751.Op.Bytes]) (fun h cs ⟨v752, v754, e, p0, p1⟩ => ⟨(v752, v754), e, All.cons p0 (All.cons p1 (All.nil _))⟩)) (fun z_ _ => ?_)
              obtain ⟨v752, v754⟩ := z_
              obtain ⟨t757, hc758, ho⟩ := bind_some ho
              obtain ⟨x761, hx, ho⟩ := bind_some ho
              have hx := elt_some hx
              refine DA.ghost (fun w2 h => h.elem see 4 rfl hx.1 hx.2) (fun p759 h_p759 => ?_)
              clear hx
              refine DA.ghost (fun w2 h => h.openE see 0 rfl (fun ((v762, v764) : Value × Value) => [.int .i64 x761.Proc, .int .u8 x761.Op.Kind, .int .i64 x761.Op.Method, v762, v764, .bool x761.Read, .int .i64 x761.Reply.Err, .int .i64 x761.Reply.Out.Trap, .int .u8 x761.Reply.Out.Result.Kind, .int .i64 x761.Reply.Out.Result.A, .int .i64 x761.Reply.Out.Result.B, .int .i64 x761.Start, .int .i64 x761.End]) (fun ((v762, v764) : Value × Value) => [slP k_api_Value v762 x761.Op.Args, slP (kInt .u8) v764 x761.Op.Bytes]) (fun h cs ⟨v762, v764, e, p0, p1⟩ => ⟨(v762, v764), e, All.cons p0 (All.cons p1 (All.nil _))⟩)) (fun z_ _ => ?_)
              obtain ⟨v762, v764⟩ := z_
              obtain ⟨t767, hc768, ho⟩ := bind_some ho
              rcases if_some ho with ⟨hc, ho⟩ | ⟨hc, ho⟩
              · have hg769 := hc
                clear hc
                refine DA.phase (fun i => Nat.ble 0 i && Nat.blt i 32) (fun w2 => St w em hV [atP p759 [.int .i64 x761.Proc, .int .u8 x761.Op.Kind, .int .i64 x761.Op.Method, v762, v764, .bool x761.Read, .int .i64 x761.Reply.Err, .int .i64 x761.Reply.Out.Trap, .int .u8 x761.Reply.Out.Result.Kind, .int .i64 x761.Reply.Out.Result.A, .int .i64 x761.Reply.Out.Result.B, .int .i64 x761.Start, .int .i64 x761.End], slP k_api_Value v762 x761.Op.Args, slP (kInt .u8) v764 x761.Op.Bytes, elP k_history_Call p759 x761, atP p749 [.int .i64 x751.Proc, .int .u8 x751.Op.Kind, .int .i64 x751.Op.Method, v752, v754, .bool x751.Read, .int .i64 x751.Reply.Err, .int .i64 x751.Reply.Out.Trap, .int .u8 x751.Reply.Out.Result.Kind, .int .i64 x751.Reply.Out.Result.A, .int .i64 x751.Reply.Out.Result.B, .int .i64 x751.Start, .int .i64 x751.End], slP k_api_Value v752 x751.Op.Args, slP (kInt .u8) v754 x751.Op.Bytes, elP k_history_Call p749 x751, slP k_history_Call v_l_0 l_0] [] w2) ?_
                refine DT.take 0 rfl rfl rfl rfl (by kernel_rfl) (fun _ _ _ h => h) (Val.move rfl) (fun w2 hw => hw) ?_
                refine DT.take 1 rfl rfl rfl rfl (by kernel_rfl) (fun _ _ _ h => h) (Val.move rfl) (fun w2 hw => hw) ?_
                refine DT.take 2 rfl rfl rfl rfl (by kernel_rfl) (fun _ _ _ h => h) (Val.indexE h_p749 Try.underlying44 sz48 rfl rfl) (fun w2 hw => hw) ?_
                refine DT.take 3 rfl rfl rfl rfl (by kernel_rfl) (fun _ _ _ h => h) (Val.loadAtA see 4 rfl Try.underlying48 rfl sz48 rfl) (fun w2 hw => hw) ?_
                refine DT.take 5 rfl rfl rfl rfl (by kernel_rfl) (fun _ _ _ h => h) (Val.move rfl) (fun w2 hw => hw) ?_
                refine DT.take 6 rfl rfl rfl rfl (by kernel_rfl) (fun _ _ _ h => h) (Val.move rfl) (fun w2 hw => hw) ?_
                refine DT.take 7 rfl rfl rfl rfl (by kernel_rfl) (fun _ _ _ h => h) (Val.indexE h_p759 Try.underlying44 sz48 rfl rfl) (fun w2 hw => hw) ?_
                refine DT.take 8 rfl rfl rfl rfl (by kernel_rfl) (fun _ _ _ h => h) (Val.loadAtA see 0 rfl Try.underlying48 rfl sz48 rfl) (fun w2 hw => hw) ?_
                refine DT.one 4 rfl (by kernel_rfl) rfl ?_
                refine SP.callV see (caps := []) (.bool t757) fn31 rfl rfl rfl rfl (fun w2 hP hs sub ap => history_Nothing.ok x751 _ _ _ hc758 w2 hP sub (ap.get 5 rfl) (ap.get 6 rfl)) ?_
                refine SP.nil ?_
                refine QE.atT (fun w2 hw => hw) ?_
                refine DT.one 9 rfl (by kernel_rfl) rfl ?_
                refine SP.callV see (caps := []) (.bool t767) fn32 rfl rfl rfl rfl (fun w2 hP hs sub ap => capstanref30_Nothing.ok x761 _ _ _ hc768 w2 hP sub (ap.get 1 rfl) (ap.get 2 rfl)) ?_
                refine SP.nil ?_
                refine QE.atT (fun w2 hw => hw) ?_
                refine DT.take 10 rfl rfl rfl rfl (by kernel_rfl) (fun _ _ _ h => h) (Val.neqB Try.underlying4 rfl rfl) (fun w2 hw => hw) ?_
                refine DT.take 11 rfl rfl rfl rfl (by kernel_rfl) (fun _ _ _ h => h) (Val.move rfl) (fun w2 hw => hw) ?_
                refine DT.is (d := 54) (b := true) rfl hg769 ?_
                refine DT.not 12 rfl rfl rfl rfl (by kernel_rfl) (fun _ _ _ h => h) (fun w2 hw => hw) ?_
                refine DT.not 13 rfl rfl rfl rfl (by kernel_rfl) (fun _ _ _ h => h) (fun w2 hw => hw) ?_
                refine DT.not 14 rfl rfl rfl rfl (by kernel_rfl) (fun _ _ _ h => h) (fun w2 hw => hw) ?_
                refine DT.not 15 rfl rfl rfl rfl (by kernel_rfl) (fun _ _ _ h => h) (fun w2 hw => hw) ?_
                refine DT.not 16 rfl rfl rfl rfl (by kernel_rfl) (fun _ _ _ h => h) (fun w2 hw => hw) ?_
                refine DT.not 17 rfl rfl rfl rfl (by kernel_rfl) (fun _ _ _ h => h) (fun w2 hw => hw) ?_
                refine DT.not 18 rfl rfl rfl rfl (by kernel_rfl) (fun _ _ _ h => h) (fun w2 hw => hw) ?_
                refine DT.not 19 rfl rfl rfl rfl (by kernel_rfl) (fun _ _ _ h => h) (fun w2 hw => hw) ?_
                refine DT.not 20 rfl rfl rfl rfl (by kernel_rfl) (fun _ _ _ h => h) (fun w2 hw => hw) ?_
                refine DT.not 21 rfl rfl rfl rfl (by kernel_rfl) (fun _ _ _ h => h) (fun w2 hw => hw) ?_
                refine DT.not 22 rfl rfl rfl rfl (by kernel_rfl) (fun _ _ _ h => h) (fun w2 hw => hw) ?_
                refine DT.not 23 rfl rfl rfl rfl (by kernel_rfl) (fun _ _ _ h => h) (fun w2 hw => hw) ?_
                refine DT.not 24 rfl rfl rfl rfl (by kernel_rfl) (fun _ _ _ h => h) (fun w2 hw => hw) ?_
                refine DT.not 25 rfl rfl rfl rfl (by kernel_rfl) (fun _ _ _ h => h) (fun w2 hw => hw) ?_
                refine DT.not 26 rfl rfl rfl rfl (by kernel_rfl) (fun _ _ _ h => h) (fun w2 hw => hw) ?_
                refine DT.not 27 rfl rfl rfl rfl (by kernel_rfl) (fun _ _ _ h => h) (fun w2 hw => hw) ?_
                refine DT.not 28 rfl rfl rfl rfl (by kernel_rfl) (fun _ _ _ h => h) (fun w2 hw => hw) ?_
                refine DT.not 29 rfl rfl rfl rfl (by kernel_rfl) (fun _ _ _ h => h) (fun w2 hw => hw) ?_
                refine DT.not 30 rfl rfl rfl rfl (by kernel_rfl) (fun _ _ _ h => h) (fun w2 hw => hw) ?_
                refine DT.take 31 rfl rfl rfl rfl (by kernel_rfl) (fun _ _ _ h => h) (Val.pickT rfl rfl) (fun w2 hw => hw) ?_
                refine DT.next (by kernel_rfl) ?_
                refine DA.done (by kernel_rfl) ?_
                exact QE.meet fun a w2 ha hw => ⟨true, m748, _, (by omega), ho, hr, ha.sub ⟨rfl, rfl, rfl, trivial⟩, (St.selP [8] rfl hw)⟩
              · have hg770 := (bf hc)
                clear hc
                obtain ⟨x773, hx, ho⟩ := bind_some ho
                have hx := elt_some hx
                refine DA.ghost (fun w2 h => h.elem see 8 rfl hx.1 hx.2) (fun p771 h_p771 => ?_)
                clear hx
                refine DA.ghost (fun w2 h => h.openE see 0 rfl (fun ((v774, v776) : Value × Value) => [.int .i64 x773.Proc, .int .u8 x773.Op.Kind, .int .i64 x773.Op.Method, v774, v776, .bool x773.Read, .int .i64 x773.Reply.Err, .int .i64 x773.Reply.Out.Trap, .int .u8 x773.Reply.Out.Result.Kind, .int .i64 x773.Reply.Out.Result.A, .int .i64 x773.Reply.Out.Result.B, .int .i64 x773.Start, .int .i64 x773.End]) (fun ((v774, v776) : Value × Value) => [slP k_api_Value v774 x773.Op.Args, slP (kInt .u8) v776 x773.Op.Bytes]) (fun h cs ⟨v774, v776, e, p0, p1⟩ => ⟨(v774, v776), e, All.cons p0 (All.cons p1 (All.nil _))⟩)) (fun z_ _ => ?_)
                obtain ⟨v774, v776⟩ := z_
                obtain ⟨x781, hx, ho⟩ := bind_some ho
                have hx := elt_some hx
                refine DA.ghost (fun w2 h => h.elem see 12 rfl hx.1 hx.2) (fun p779 h_p779 => ?_)
                clear hx
                refine DA.ghost (fun w2 h => h.openE see 0 rfl (fun ((v782, v784) : Value × Value) => [.int .i64 x781.Proc, .int .u8 x781.Op.Kind, .int .i64 x781.Op.Method, v782, v784, .bool x781.Read, .int .i64 x781.Reply.Err, .int .i64 x781.Reply.Out.Trap, .int .u8 x781.Reply.Out.Result.Kind, .int .i64 x781.Reply.Out.Result.A, .int .i64 x781.Reply.Out.Result.B, .int .i64 x781.Start, .int .i64 x781.End]) (fun ((v782, v784) : Value × Value) => [slP k_api_Value v782 x781.Op.Args, slP (kInt .u8) v784 x781.Op.Bytes]) (fun h cs ⟨v782, v784, e, p0, p1⟩ => ⟨(v782, v784), e, All.cons p0 (All.cons p1 (All.nil _))⟩)) (fun z_ _ => ?_)
                obtain ⟨v782, v784⟩ := z_
                obtain ⟨t787, hc788, ho⟩ := bind_some ho
                obtain ⟨x791, hx, ho⟩ := bind_some ho
                have hx := elt_some hx
                refine DA.ghost (fun w2 h => h.elem see 16 rfl hx.1 hx.2) (fun p789 h_p789 => ?_)
                clear hx
                refine DA.ghost (fun w2 h => h.openE see 0 rfl (fun ((v792, v794) : Value × Value) => [.int .i64 x791.Proc, .int .u8 x791.Op.Kind, .int .i64 x791.Op.Method, v792, v794, .bool x791.Read, .int .i64 x791.Reply.Err, .int .i64 x791.Reply.Out.Trap, .int .u8 x791.Reply.Out.Result.Kind, .int .i64 x791.Reply.Out.Result.A, .int .i64 x791.Reply.Out.Result.B, .int .i64 x791.Start, .int .i64 x791.End]) (fun ((v792, v794) : Value × Value) => [slP k_api_Value v792 x791.Op.Args, slP (kInt .u8) v794 x791.Op.Bytes]) (fun h cs ⟨v792, v794, e, p0, p1⟩ => ⟨(v792, v794), e, All.cons p0 (All.cons p1 (All.nil _))⟩)) (fun z_ _ => ?_)
                obtain ⟨v792, v794⟩ := z_
                obtain ⟨x799, hx, ho⟩ := bind_some ho
                have hx := elt_some hx
                refine DA.ghost (fun w2 h => h.elem see 20 rfl hx.1 hx.2) (fun p797 h_p797 => ?_)
                clear hx
                refine DA.ghost (fun w2 h => h.openE see 0 rfl (fun ((v800, v802) : Value × Value) => [.int .i64 x799.Proc, .int .u8 x799.Op.Kind, .int .i64 x799.Op.Method, v800, v802, .bool x799.Read, .int .i64 x799.Reply.Err, .int .i64 x799.Reply.Out.Trap, .int .u8 x799.Reply.Out.Result.Kind, .int .i64 x799.Reply.Out.Result.A, .int .i64 x799.Reply.Out.Result.B, .int .i64 x799.Start, .int .i64 x799.End]) (fun ((v800, v802) : Value × Value) => [slP k_api_Value v800 x799.Op.Args, slP (kInt .u8) v802 x799.Op.Bytes]) (fun h cs ⟨v800, v802, e, p0, p1⟩ => ⟨(v800, v802), e, All.cons p0 (All.cons p1 (All.nil _))⟩)) (fun z_ _ => ?_)
                obtain ⟨v800, v802⟩ := z_
                obtain ⟨t805, hc806, ho⟩ := bind_some ho
                refine DA.phase (fun i => Nat.ble 0 i && Nat.blt i 32) (fun w2 => St w em hV [atP p797 [.int .i64 x799.Proc, .int .u8 x799.Op.Kind, .int .i64 x799.Op.Method, v800, v802, .bool x799.Read, .int .i64 x799.Reply.Err, .int .i64 x799.Reply.Out.Trap, .int .u8 x799.Reply.Out.Result.Kind, .int .i64 x799.Reply.Out.Result.A, .int .i64 x799.Reply.Out.Result.B, .int .i64 x799.Start, .int .i64 x799.End], slP k_api_Value v800 x799.Op.Args, slP (kInt .u8) v802 x799.Op.Bytes, elP k_history_Call p797 x799, atP p789 [.int .i64 x791.Proc, .int .u8 x791.Op.Kind, .int .i64 x791.Op.Method, v792, v794, .bool x791.Read, .int .i64 x791.Reply.Err, .int .i64 x791.Reply.Out.Trap, .int .u8 x791.Reply.Out.Result.Kind, .int .i64 x791.Reply.Out.Result.A, .int .i64 x791.Reply.Out.Result.B, .int .i64 x791.Start, .int .i64 x791.End], slP k_api_Value v792 x791.Op.Args, slP (kInt .u8) v794 x791.Op.Bytes, elP k_history_Call p789 x791, atP p779 [.int .i64 x781.Proc, .int .u8 x781.Op.Kind, .int .i64 x781.Op.Method, v782, v784, .bool x781.Read, .int .i64 x781.Reply.Err, .int .i64 x781.Reply.Out.Trap, .int .u8 x781.Reply.Out.Result.Kind, .int .i64 x781.Reply.Out.Result.A, .int .i64 x781.Reply.Out.Result.B, .int .i64 x781.Start, .int .i64 x781.End], slP k_api_Value v782 x781.Op.Args, slP (kInt .u8) v784 x781.Op.Bytes, elP k_history_Call p779 x781, atP p771 [.int .i64 x773.Proc, .int .u8 x773.Op.Kind, .int .i64 x773.Op.Method, v774, v776, .bool x773.Read, .int .i64 x773.Reply.Err, .int .i64 x773.Reply.Out.Trap, .int .u8 x773.Reply.Out.Result.Kind, .int .i64 x773.Reply.Out.Result.A, .int .i64 x773.Reply.Out.Result.B, .int .i64 x773.Start, .int .i64 x773.End], slP k_api_Value v774 x773.Op.Args, slP (kInt .u8) v776 x773.Op.Bytes, elP k_history_Call p771 x773, atP p759 [.int .i64 x761.Proc, .int .u8 x761.Op.Kind, .int .i64 x761.Op.Method, v762, v764, .bool x761.Read, .int .i64 x761.Reply.Err, .int .i64 x761.Reply.Out.Trap, .int .u8 x761.Reply.Out.Result.Kind, .int .i64 x761.Reply.Out.Result.A, .int .i64 x761.Reply.Out.Result.B, .int .i64 x761.Start, .int .i64 x761.End], slP k_api_Value v762 x761.Op.Args, slP (kInt .u8) v764 x761.Op.Bytes, elP k_history_Call p759 x761, atP p749 [.int .i64 x751.Proc, .int .u8 x751.Op.Kind, .int .i64 x751.Op.Method, v752, v754, .bool x751.Read, .int .i64 x751.Reply.Err, .int .i64 x751.Reply.Out.Trap, .int .u8 x751.Reply.Out.Result.Kind, .int .i64 x751.Reply.Out.Result.A, .int .i64 x751.Reply.Out.Result.B, .int .i64 x751.Start, .int .i64 x751.End], slP k_api_Value v752 x751.Op.Args, slP (kInt .u8) v754 x751.Op.Bytes, elP k_history_Call p749 x751, slP k_history_Call v_l_0 l_0] [] w2) ?_
                refine DT.take 0 rfl rfl rfl rfl (by kernel_rfl) (fun _ _ _ h => h) (Val.move rfl) (fun w2 hw => hw) ?_
                refine DT.take 1 rfl rfl rfl rfl (by kernel_rfl) (fun _ _ _ h => h) (Val.move rfl) (fun w2 hw => hw) ?_
                refine DT.take 2 rfl rfl rfl rfl (by kernel_rfl) (fun _ _ _ h => h) (Val.indexE h_p749 Try.underlying44 sz48 rfl rfl) (fun w2 hw => hw) ?_
                refine DT.take 3 rfl rfl rfl rfl (by kernel_rfl) (fun _ _ _ h => h) (Val.loadAtA see 20 rfl Try.underlying48 rfl sz48 rfl) (fun w2 hw => hw) ?_
                refine DT.take 5 rfl rfl rfl rfl (by kernel_rfl) (fun _ _ _ h => h) (Val.move rfl) (fun w2 hw => hw) ?_
                refine DT.take 6 rfl rfl rfl rfl (by kernel_rfl) (fun _ _ _ h => h) (Val.move rfl) (fun w2 hw => hw) ?_
                refine DT.take 7 rfl rfl rfl rfl (by kernel_rfl) (fun _ _ _ h => h) (Val.indexE h_p759 Try.underlying44 sz48 rfl rfl) (fun w2 hw => hw) ?_
                refine DT.take 8 rfl rfl rfl rfl (by kernel_rfl) (fun _ _ _ h => h) (Val.loadAtA see 16 rfl Try.underlying48 rfl sz48 rfl) (fun w2 hw => hw) ?_
                refine DT.one 4 rfl (by kernel_rfl) rfl ?_
                refine SP.callV see (caps := []) (.bool t757) fn31 rfl rfl rfl rfl (fun w2 hP hs sub ap => history_Nothing.ok x751 _ _ _ hc758 w2 hP sub (ap.get 21 rfl) (ap.get 22 rfl)) ?_
                refine SP.nil ?_
                refine QE.atT (fun w2 hw => hw) ?_
                refine DT.one 9 rfl (by kernel_rfl) rfl ?_
                refine SP.callV see (caps := []) (.bool t767) fn32 rfl rfl rfl rfl (fun w2 hP hs sub ap => capstanref30_Nothing.ok x761 _ _ _ hc768 w2 hP sub (ap.get 17 rfl) (ap.get 18 rfl)) ?_
                refine SP.nil ?_
                refine QE.atT (fun w2 hw => hw) ?_
                refine DT.take 10 rfl rfl rfl rfl (by kernel_rfl) (fun _ _ _ h => h) (Val.neqB Try.underlying4 rfl rfl) (fun w2 hw => hw) ?_
                refine DT.take 11 rfl rfl rfl rfl (by kernel_rfl) (fun _ _ _ h => h) (Val.move rfl) (fun w2 hw => hw) ?_
                refine DT.is (d := 54) (b := false) rfl hg770 ?_
                refine DT.take 12 rfl rfl rfl rfl (by kernel_rfl) (fun _ _ _ h => h) (Val.move rfl) (fun w2 hw => hw) ?_
                refine DT.take 13 rfl rfl rfl rfl (by kernel_rfl) (fun _ _ _ h => h) (Val.move rfl) (fun w2 hw => hw) ?_
                refine DT.take 14 rfl rfl rfl rfl (by kernel_rfl) (fun _ _ _ h => h) (Val.indexE h_p771 Try.underlying44 sz48 rfl rfl) (fun w2 hw => hw) ?_
                refine DT.take 15 rfl rfl rfl rfl (by kernel_rfl) (fun _ _ _ h => h) (Val.loadAtA see 12 rfl Try.underlying48 rfl sz48 rfl) (fun w2 hw => hw) ?_
                refine DT.take 16 rfl rfl rfl rfl (by kernel_rfl) (fun _ _ _ h => h) (Val.move rfl) (fun w2 hw => hw) ?_
                refine DT.take 17 rfl rfl rfl rfl (by kernel_rfl) (fun _ _ _ h => h) (Val.move rfl) (fun w2 hw => hw) ?_
                refine DT.take 18 rfl rfl rfl rfl (by kernel_rfl) (fun _ _ _ h => h) (Val.indexE h_p779 Try.underlying44 sz48 rfl rfl) (fun w2 hw => hw) ?_
                refine DT.take 19 rfl rfl rfl rfl (by kernel_rfl) (fun _ _ _ h => h) (Val.loadAtA see 8 rfl Try.underlying48 rfl sz48 rfl) (fun w2 hw => hw) ?_
                refine DT.take 21 rfl rfl rfl rfl (by kernel_rfl) (fun _ _ _ h => h) (Val.move rfl) (fun w2 hw => hw) ?_
                refine DT.take 22 rfl rfl rfl rfl (by kernel_rfl) (fun _ _ _ h => h) (Val.move rfl) (fun w2 hw => hw) ?_
                refine DT.take 23 rfl rfl rfl rfl (by kernel_rfl) (fun _ _ _ h => h) (Val.indexE h_p789 Try.underlying44 sz48 rfl rfl) (fun w2 hw => hw) ?_
                refine DT.take 24 rfl rfl rfl rfl (by kernel_rfl) (fun _ _ _ h => h) (Val.loadAtA see 4 rfl Try.underlying48 rfl sz48 rfl) (fun w2 hw => hw) ?_
                refine DT.take 25 rfl rfl rfl rfl (by kernel_rfl) (fun _ _ _ h => h) (Val.move rfl) (fun w2 hw => hw) ?_
                refine DT.take 26 rfl rfl rfl rfl (by kernel_rfl) (fun _ _ _ h => h) (Val.move rfl) (fun w2 hw => hw) ?_
                refine DT.take 27 rfl rfl rfl rfl (by kernel_rfl) (fun _ _ _ h => h) (Val.indexE h_p797 Try.underlying44 sz48 rfl rfl) (fun w2 hw => hw) ?_
                refine DT.take 28 rfl rfl rfl rfl (by kernel_rfl) (fun _ _ _ h => h) (Val.loadAtA see 0 rfl Try.underlying48 rfl sz48 rfl) (fun w2 hw => hw) ?_
                refine DT.one 20 rfl (by kernel_rfl) rfl ?_
                refine SP.callV see (caps := []) (.bool t787) fn33 rfl rfl rfl rfl (fun w2 hP hs sub ap => history_Ahead.ok x773 x781 _ _ _ _ _ hc788 w2 hP sub (ap.get 13 rfl) (ap.get 14 rfl) (ap.get 9 rfl) (ap.get 10 rfl)) ?_
                refine SP.nil ?_
                refine QE.atT (fun w2 hw => hw) ?_
                refine DT.one 29 rfl (by kernel_rfl) rfl ?_
                refine SP.callV see (caps := []) (.bool t805) fn34 rfl rfl rfl rfl (fun w2 hP hs sub ap => capstanref30_Ahead.ok x791 x799 _ _ _ _ _ hc806 w2 hP sub (ap.get 5 rfl) (ap.get 6 rfl) (ap.get 1 rfl) (ap.get 2 rfl)) ?_
                refine SP.nil ?_
                refine QE.atT (fun w2 hw => hw) ?_
                refine DT.take 30 rfl rfl rfl rfl (by kernel_rfl) (fun _ _ _ h => h) (Val.neqB Try.underlying4 rfl rfl) (fun w2 hw => hw) ?_
                refine DT.take 31 rfl rfl rfl rfl (by kernel_rfl) (fun _ _ _ h => h) (Val.pickF rfl rfl) (fun w2 hw => hw) ?_
                refine DT.next (by kernel_rfl) ?_
                refine DA.done (by kernel_rfl) ?_
                exact QE.meet fun a w2 ha hw => ⟨(!(t787 == t805)), m748, _, (by omega), ho, hr, ha.sub ⟨rfl, rfl, rfl, trivial⟩, (St.selP [24] rfl hw)⟩
          · refine CP.condF rfl (decide_eq_false hc) ?_
            refine CP.exit ?_
            refine QE.thru (by intro e; cases e) ?_
            refine QE.thru (by intro e; cases e) ?_
            refine QE.blockE ?_
            refine QE.then ?_
            refine CP.seq ?_
            refine CP.region ?_
            refine SP.val (Val.move rfl) rfl rfl rfl ?_
            obtain ⟨t809, hc, ho⟩ := bind_some ho
            refine SP.callK see (caps := []) _ fn35 rfl rfl rfl rfl (fun w2 hP hs sub ap => capstanref30_Some.ok l_0 _ _ hc w2 hP sub (ap.get 0 rfl)) (fun vr => ?_)
            refine SP.ex (fun w2 h => St.open h) (fun v810 => ?_)
            refine SP.have (fun w2 h => (St.pand h).1.symm) (fun er => ?_)
            subst er
            refine SP.imp (fun w2 h => St.seps (St.pand h).2) ?_
            clear hc
            refine SP.val (Val.assign rfl) rfl rfl rfl ?_
            refine SP.nil ?_
            refine QE.then ?_
            refine CP.seq ?_
            refine CP.seq ?_
            refine CP.region ?_
            refine SP.val (Val.assign rfl) rfl rfl rfl ?_
            refine SP.nil ?_
            refine QE.then ?_
            refine CP.block ?_
            obtain rfl := Option.some.inj ho
            refine CP.loop (fun cl2 a w2 => ∃ x1145 : Int, cl2 ≤ m748 ∧ iter (capstanlaw30_HistoryTells.F l_0) cl2 (.l2 t809 x1145) = some r ∧ Env ⟨147, []⟩ [(0, v_l_0), (5, v810), (6, .int .i64 x1145)] a ∧ St w em hV [slP k_history_Call v_l_0 l_0] [slO k_history_Call 48 v810 t809] w2) m748 (fun a w2 ha hw => ⟨0, Nat.le_refl _, hr, ha.sub ⟨rfl, rfl, rfl, trivial⟩, hw⟩) ?_
            clear hr
            rintro cl2 a w2 ⟨x1145, hc_l2, hi, ha, hw⟩
            obtain ⟨m1146, o, hm_m1146, ho, hr⟩ := iter_some hi
            refine CP.app ha hw ?_
            clear ha hw a w2 hi
            refine CP.seq ?_
            refine CP.seq ?_
            refine CP.region ?_
            refine SP.val (Val.move rfl) rfl rfl rfl ?_
            refine SP.val (Val.lss rfl rfl) rfl rfl rfl ?_
            refine SP.nil ?_
            refine QE.then ?_
            rcases if_some ho with ⟨hc, ho⟩ | ⟨hc, ho⟩
            · refine CP.condT rfl (decide_eq_true hc) ?_
              refine CP.skip ?_
              refine QE.then ?_
              refine CP.seq ?_
              refine CP.block ?_
              refine CP.seq ?_
              refine CP.region ?_
              refine SP.val (Val.move rfl) rfl rfl rfl ?_
              obtain ⟨t1147, hc, ho⟩ := bind_some ho
              refine SP.callK see (caps := []) _ fn36 rfl rfl rfl rfl (fun w2 hP hs sub ap => history_Some.ok l_0 _ _ hc w2 hP sub (ap.get 0 rfl)) (fun vr => ?_)
              refine SP.ex (fun w2 h => St.open h) (fun v1148 => ?_)
              refine SP.have (fun w2 h => (St.pand h).1.symm) (fun er => ?_)
              subst er
              refine SP.imp (fun w2 h => St.seps (St.pand h).2) ?_
              clear hc
              refine SP.val (Val.assign rfl) rfl rfl rfl ?_
              refine SP.nil ?_
              refine QE.then ?_
              refine CP.seq ?_
              refine CP.seq ?_
              refine CP.region ?_
              refine SP.val (Val.move rfl) rfl rfl rfl ?_
              refine SP.val (Val.move rfl) rfl rfl rfl ?_
              obtain ⟨t1150, hc, ho⟩ := bind_some ho
              refine SP.callVO see (caps := []) (.bool t1150) fn14 rfl rfl rfl rfl (fun w2 hs => capstanref30_Same.ok t1147 t809 _ _ _ hc w2 (hp w2) (Sub.refl _) (slD.read (St.own 0 rfl see.sub see.dj hs) (Sub.refl _) (Sub.refl _)) (slO.read (St.own 1 rfl see.sub see.dj hs) (Sub.refl _) (Sub.refl _))) ?_
              clear hc
              refine SP.val (Val.notB rfl) rfl rfl rfl ?_
              refine SP.nil ?_
              refine QE.then ?_
              rcases if_some ho with ⟨hc, ho⟩ | ⟨hc, ho⟩
              · refine CP.condT rfl hc ?_
                refine CP.seq ?_
                refine CP.region ?_
                refine SP.val (Val.assign rfl) rfl rfl rfl ?_
                refine SP.nil ?_
                refine QE.then ?_
                refine CP.ret ?_
                refine QE.thru (by intro e; cases e) ?_
                refine QE.blockR ?_
                refine QE.thru (by intro e; cases e) ?_
                refine QE.thru (by intro e; cases e) ?_
                refine QE.blockR ?_
                refine QE.thru (by intro e; cases e) ?_
                obtain rfl := Option.some.inj ho
                obtain rfl := Option.some.inj hr
                exact QE.rets (rs := [.tmp 2]) (vs := [.bool false]) Try.results6 rfl ⟨RVs.tmp rfl, trivial⟩ (fun w2 h => St.done (fun a b p s => rfl) h)
              · refine CP.condF rfl (bf hc) ?_
                refine CP.skip ?_
                refine QE.then ?_
                refine CP.seq ?_
                refine CP.region ?_
                refine SP.val (Val.assign rfl) rfl rfl rfl ?_
                refine SP.nil ?_
                refine QE.then ?_
                refine CP.block ?_
                obtain rfl := Option.some.inj ho
                refine CP.loop (fun cl3 a w2 => ∃ l1312 : List history_Call, ∃ x1314 : Int, ∃ v1313 : Value, cl3 ≤ m1146 ∧ iter (capstanlaw30_HistoryTells.F l_0) cl3 (.l3 t809 x1145 l1312 x1314) = some r ∧ Env ⟨147, []⟩ [(0, v_l_0), (5, v810), (6, .int .i64 x1145), (7, v1313), (8, .int .i64 x1314)] a ∧ St w em hV [slP k_history_Call v_l_0 l_0] [slD o_history_Call 48 v1313 l1312, slO k_history_Call 48 v810 t809] w2) m1146 (fun a w2 ha hw => ⟨t1147, 0, v1148, Nat.le_refl _, hr, ha.sub ⟨rfl, rfl, rfl, rfl, rfl, trivial⟩, hw⟩) ?_
                clear hr
                rintro cl3 a w2 ⟨l1312, x1314, v1313, hc_l3, hi, ha, hw⟩
                obtain ⟨m1315, o, hm_m1315, ho, hr⟩ := iter_some hi
                refine CP.app ha hw ?_
                clear ha hw a w2 hi
                refine CP.seq ?_
                refine CP.seq ?_
                refine CP.region ?_
                refine SP.val (Val.move rfl) rfl rfl rfl ?_
                refine SP.val (Val.move rfl) rfl rfl rfl ?_
                refine SP.val (Val.lenW (fun w2 hw => slD.flat (St.own 0 rfl see.sub see.dj hw) (Sub.refl _) (Sub.refl _)) Try.underlying44 rfl) rfl rfl rfl ?_
                refine SP.val (Val.lss rfl rfl) rfl rfl rfl ?_
                refine SP.nil ?_
                refine QE.then ?_
                rcases if_some ho with ⟨hc, ho⟩ | ⟨hc, ho⟩
                · refine CP.condT rfl (decide_eq_true hc) ?_
                  refine CP.skip ?_
                  refine QE.then ?_
                  refine CP.seq ?_
                  refine CP.block ?_
                  refine CP.seq ?_
                  refine CP.seq ?_
                  refine CP.region ?_
                  refine SP.val (Val.assign rfl) rfl rfl rfl ?_
                  refine SP.nil ?_
                  refine QE.then ?_
                  refine CP.block ?_
                  obtain rfl := Option.some.inj ho
                  refine CP.loop (fun cl4 a w2 => ∃ l1393 : List history_Call, ∃ x1395 : Int, ∃ v1394 : Value, cl4 ≤ m1315 ∧ iter (capstanlaw30_HistoryTells.F l_0) cl4 (.l4 t809 x1145 x1314 l1393 x1395) = some r ∧ Env ⟨147, []⟩ [(0, v_l_0), (5, v810), (6, .int .i64 x1145), (7, v1394), (8, .int .i64 x1314), (9, .int .i64 x1395)] a ∧ St w em hV [slP k_history_Call v_l_0 l_0] [slD o_history_Call 48 v1394 l1393, slO k_history_Call 48 v810 t809] w2) m1315 (fun a w2 ha hw => ⟨l1312, 0, v1313, Nat.le_refl _, hr, ha.sub ⟨rfl, rfl, rfl, rfl, rfl, rfl, trivial⟩, hw⟩) ?_
                  clear hr
                  rintro cl4 a w2 ⟨l1393, x1395, v1394, hc_l4, hi, ha, hw⟩
                  obtain ⟨m1396, o, hm_m1396, ho, hr⟩ := iter_some hi
                  refine CP.app ha hw ?_
                  clear ha hw a w2 hi
                  refine CP.seq ?_
                  refine CP.seq ?_
                  refine CP.region ?_
                  refine SP.val (Val.move rfl) rfl rfl rfl ?_
                  refine SP.val (Val.move rfl) rfl rfl rfl ?_
                  refine SP.val (Val.move rfl) rfl rfl rfl ?_
                  obtain ⟨x1398, hx_x1398, ho⟩ := bind_some ho
                  have hx_x1398 := elt_some hx_x1398
                  refine SP.indexW (fun w2 hw => slD.flat (St.own 0 rfl see.sub see.dj hw) (Sub.refl _) (Sub.refl _)) Try.underlying44 sz48 hx_x1398.1 hx_x1398.2 rfl rfl rfl rfl (fun p1397 h_p1397 => ?_)
                  refine SP.fieldO h_p1397 Try.underlying48 rfl sz34 rfl rfl rfl (fun p1399 h_p1399 => ?_)
                  refine SP.fieldO h_p1399 Try.underlying34 rfl sz32 rfl rfl rfl (fun p1400 h_p1400 => ?_)
                  refine SP.loadDS o_history_Call.leaf3 hx_x1398.2 h_p1400 Try.underlying32 rfl rfl rfl (fun v1401 => ?_)
                  refine SP.val (Val.lenW (fun w2 hw => slO.whole (St.own 0 rfl see.sub see.dj hw)) Try.underlying32 rfl) rfl rfl rfl ?_
                  refine SP.val (Val.lss rfl rfl) rfl rfl rfl ?_
                  refine SP.nil ?_
                  refine QE.then ?_
                  rcases if_some ho with ⟨hc, ho⟩ | ⟨hc, ho⟩
                  · refine CP.condT rfl (decide_eq_true hc) ?_
                    refine CP.skip ?_
                    refine QE.then ?_
                    refine CP.seq ?_
                    refine CP.block ?_
                    refine CP.region ?_
                    refine SP.val (Val.move rfl) rfl rfl rfl ?_
                    refine SP.val (Val.move rfl) rfl rfl rfl ?_
                    refine SP.imp (fun w2 hw => St.unfocus0 hx_x1398.2 rfl hw) ?_
                    obtain ⟨x1405, hx_x1405, ho⟩ := bind_some ho
                    have hx_x1405 := elt_some hx_x1405
                    refine SP.indexW (fun w2 hw => slD.flat (St.own 0 rfl see.sub see.dj hw) (Sub.refl _) (Sub.refl _)) Try.underlying44 sz48 hx_x1405.1 hx_x1405.2 rfl rfl rfl rfl (fun p1404 h_p1404 => ?_)
                    refine SP.fieldO h_p1404 Try.underlying48 rfl sz34 rfl rfl rfl (fun p1406 h_p1406 => ?_)
                    refine SP.fieldO h_p1406 Try.underlying34 rfl sz32 rfl rfl rfl (fun p1407 h_p1407 => ?_)
                    refine SP.loadDS o_history_Call.leaf3 hx_x1405.2 h_p1407 Try.underlying32 rfl rfl rfl (fun v1408 => ?_)
                    refine SP.val (Val.move rfl) rfl rfl rfl ?_
                    obtain ⟨x1412, hx_x1412, ho⟩ := bind_some ho
                    have hx_x1412 := elt_some hx_x1412
                    refine SP.indexW (fun w2 hw => slO.whole (St.own 0 rfl see.sub see.dj hw)) Try.underlying32 sz37 hx_x1412.1 hx_x1412.2 rfl rfl rfl rfl (fun p1411 h_p1411 => ?_)
                    refine SP.fieldO h_p1411 Try.underlying37 rfl sz2 rfl rfl rfl (fun p1413 h_p1413 => ?_)
                    refine SP.val (Val.loadW1 (off := 1) (k := k_api_Value) (fun w2 hw => slO.whole (St.own 0 rfl see.sub see.dj hw)) hx_x1412.2 h_p1413 (fun _ _ e => by subst e; rfl) Try.underlying2 rfl rfl) rfl rfl rfl ?_
                    refine SP.val (Val.add rfl rfl) rfl rfl rfl ?_
                    obtain ⟨x1415, hx_x1415, ho⟩ := bind_some ho
                    have hx_x1415 := elt_some hx_x1415
                    refine SP.indexW (fun w2 hw => slO.whole (St.own 0 rfl see.sub see.dj hw)) Try.underlying32 sz37 hx_x1415.1 hx_x1415.2 rfl rfl rfl rfl (fun p1414 h_p1414 => ?_)
                    refine SP.fieldO h_p1414 Try.underlying37 rfl sz2 rfl rfl rfl (fun p1416 h_p1416 => ?_)
                    refine SP.storeO (z0 := (⟨x1415.Kind, IntKind.i64.wrap (x1412.A + 1), x1415.B⟩ : api_Value)) (off := 1) (vs := [.int .i64 (IntKind.i64.wrap (x1412.A + 1))]) see 0 rfl hx_x1415.2 h_p1416 rfl rfl sz2 rfl (fun a cs _ e => by subst e; rfl) rfl rfl rfl ?_
                    refine SP.nil ?_
                    refine QE.blockN ?_
                    refine QE.then ?_
                    refine CP.region ?_
                    refine SP.val (Val.move rfl) rfl rfl rfl ?_
                    refine SP.val (Val.add rfl rfl) rfl rfl rfl ?_
                    refine SP.val (Val.assign rfl) rfl rfl rfl ?_
                    refine SP.nil ?_
                    refine QE.imp (fun w2 hw => St.unfocus hw) ?_
                    obtain rfl := Option.some.inj ho
                    exact QE.lower m1396 (by omega) fun a w2 ha hw => ⟨(l1393.set x1314.toNat (history_Call.set_Op_Args x1405 (x1405.Op.Args.set x1395.toNat (⟨x1415.Kind, IntKind.i64.wrap (x1412.A + 1), x1415.B⟩ : api_Value)))), (IntKind.i64.wrap (x1395 + 1)), v1394, (by omega), hr, ha.sub ⟨rfl, rfl, rfl, rfl, rfl, rfl, trivial⟩, hw⟩
                  · refine CP.condF rfl (decide_eq_false hc) ?_
                    refine CP.exit ?_
                    refine QE.thru (by intro e; cases e) ?_
                    refine QE.thru (by intro e; cases e) ?_
                    refine QE.blockE ?_
                    refine QE.then ?_
                    refine CP.seq ?_
                    refine CP.seq ?_
                    refine CP.region ?_
                    refine SP.val (Val.assign rfl) rfl rfl rfl ?_
                    refine SP.nil ?_
                    refine QE.then ?_
                    refine CP.block ?_
                    refine CP.imp (fun w2 hw => St.unfocus0 hx_x1398.2 rfl hw) ?_
                    obtain rfl := Option.some.inj ho
                    refine CP.loop (fun cl5 a w2 => ∃ l1442 : List history_Call, ∃ x1444 : Int, ∃ v1443 : Value, cl5 ≤ m1396 ∧ iter (capstanlaw30_HistoryTells.F l_0) cl5 (.l5 t809 x1145 x1314 l1442 x1444) = some r ∧ Env ⟨147, []⟩ [(0, v_l_0), (5, v810), (6, .int .i64 x1145), (7, v1443), (8, .int .i64 x1314), (10, .int .i64 x1444)] a ∧ St w em hV [slP k_history_Call v_l_0 l_0] [slD o_history_Call 48 v1443 l1442, slO k_history_Call 48 v810 t809] w2) m1396 (fun a w2 ha hw => ⟨l1393, 0, v1394, Nat.le_refl _, hr, ha.sub ⟨rfl, rfl, rfl, rfl, rfl, rfl, trivial⟩, hw⟩) ?_
                    clear hr
                    rintro cl5 a w2 ⟨l1442, x1444, v1443, hc_l5, hi, ha, hw⟩
                    obtain ⟨m1445, o, hm_m1445, ho, hr⟩ := iter_some hi
                    refine CP.app ha hw ?_
                    clear ha hw a w2 hi
                    refine CP.seq ?_
                    refine CP.seq ?_
                    refine CP.region ?_
                    refine SP.val (Val.move rfl) rfl rfl rfl ?_
                    refine SP.val (Val.move rfl) rfl rfl rfl ?_
                    refine SP.val (Val.move rfl) rfl rfl rfl ?_
                    obtain ⟨x1447, hx_x1447, ho⟩ := bind_some ho
                    have hx_x1447 := elt_some hx_x1447
                    refine SP.indexW (fun w2 hw => slD.flat (St.own 0 rfl see.sub see.dj hw) (Sub.refl _) (Sub.refl _)) Try.underlying44 sz48 hx_x1447.1 hx_x1447.2 rfl rfl rfl rfl (fun p1446 h_p1446 => ?_)
                    refine SP.fieldO h_p1446 Try.underlying48 rfl sz34 rfl rfl rfl (fun p1448 h_p1448 => ?_)
                    refine SP.fieldO h_p1448 Try.underlying34 rfl sz24 rfl rfl rfl (fun p1449 h_p1449 => ?_)
                    refine SP.loadDS o_history_Call.leaf4 hx_x1447.2 h_p1449 Try.underlying24 rfl rfl rfl (fun v1450 => ?_)
                    refine SP.val (Val.lenW (fun w2 hw => slO.whole (St.own 0 rfl see.sub see.dj hw)) Try.underlying24 rfl) rfl rfl rfl ?_
                    refine SP.val (Val.lss rfl rfl) rfl rfl rfl ?_
                    refine SP.nil ?_
                    refine QE.then ?_
                    rcases if_some ho with ⟨hc, ho⟩ | ⟨hc, ho⟩
                    · refine CP.condT rfl (decide_eq_true hc) ?_
                      refine CP.skip ?_
                      refine QE.then ?_
                      refine CP.seq ?_
                      refine CP.block ?_
                      refine CP.region ?_
                      refine SP.val (Val.move rfl) rfl rfl rfl ?_
                      refine SP.val (Val.move rfl) rfl rfl rfl ?_
                      refine SP.imp (fun w2 hw => St.unfocus0 hx_x1447.2 rfl hw) ?_
                      obtain ⟨x1454, hx_x1454, ho⟩ := bind_some ho
                      have hx_x1454 := elt_some hx_x1454
                      refine SP.indexW (fun w2 hw => slD.flat (St.own 0 rfl see.sub see.dj hw) (Sub.refl _) (Sub.refl _)) Try.underlying44 sz48 hx_x1454.1 hx_x1454.2 rfl rfl rfl rfl (fun p1453 h_p1453 => ?_)
                      refine SP.fieldO h_p1453 Try.underlying48 rfl sz34 rfl rfl rfl (fun p1455 h_p1455 => ?_)
                      refine SP.fieldO h_p1455 Try.underlying34 rfl sz24 rfl rfl rfl (fun p1456 h_p1456 => ?_)
                      refine SP.loadDS o_history_Call.leaf4 hx_x1454.2 h_p1456 Try.underlying24 rfl rfl rfl (fun v1457 => ?_)
                      refine SP.val (Val.move rfl) rfl rfl rfl ?_
                      obtain ⟨x1461, hx_x1461, ho⟩ := bind_some ho
                      have hx_x1461 := elt_some hx_x1461
                      refine SP.indexW (fun w2 hw => slO.whole (St.own 0 rfl see.sub see.dj hw)) Try.underlying24 sz5 hx_x1461.1 hx_x1461.2 rfl rfl rfl rfl (fun p1460 h_p1460 => ?_)
                      refine SP.val (Val.loadW1 (off := 0) (k := (kInt .u8)) (fun w2 hw => slO.whole (St.own 0 rfl see.sub see.dj hw)) hx_x1461.2 h_p1460 (fun _ _ e => by subst e; rfl) Try.underlying5 rfl rfl) rfl rfl rfl ?_
                      refine SP.val (Val.add rfl rfl) rfl rfl rfl ?_
                      obtain ⟨x1463, hx_x1463, ho⟩ := bind_some ho
                      have hx_x1463 := elt_some hx_x1463
                      refine SP.indexW (fun w2 hw => slO.whole (St.own 0 rfl see.sub see.dj hw)) Try.underlying24 sz5 hx_x1463.1 hx_x1463.2 rfl rfl rfl rfl (fun p1462 h_p1462 => ?_)
                      refine SP.storeO (z0 := IntKind.u8.wrap (x1461 + 1)) (off := 0) (vs := [.int .u8 (IntKind.u8.wrap (x1461 + 1))]) see 0 rfl hx_x1463.2 h_p1462 rfl rfl sz5 rfl (fun a cs _ e => by subst e; rfl) rfl rfl rfl ?_
                      refine SP.nil ?_
                      refine QE.blockN ?_
                      refine QE.then ?_
                      refine CP.region ?_
                      refine SP.val (Val.move rfl) rfl rfl rfl ?_
                      refine SP.val (Val.add rfl rfl) rfl rfl rfl ?_
                      refine SP.val (Val.assign rfl) rfl rfl rfl ?_
                      refine SP.nil ?_
                      refine QE.imp (fun w2 hw => St.unfocus hw) ?_
                      obtain rfl := Option.some.inj ho
                      exact QE.lower m1445 (by omega) fun a w2 ha hw => ⟨(l1442.set x1314.toNat (history_Call.set_Op_Bytes x1454 (x1454.Op.Bytes.set x1444.toNat (IntKind.u8.wrap (x1461 + 1))))), (IntKind.i64.wrap (x1444 + 1)), v1443, (by omega), hr, ha.sub ⟨rfl, rfl, rfl, rfl, rfl, rfl, trivial⟩, hw⟩
                    · refine CP.condF rfl (decide_eq_false hc) ?_
                      refine CP.exit ?_
                      refine QE.thru (by intro e; cases e) ?_
                      refine QE.thru (by intro e; cases e) ?_
                      refine QE.blockE ?_
                      refine QE.then ?_
                      refine CP.region ?_
                      refine SP.val (Val.move rfl) rfl rfl rfl ?_
                      refine SP.val (Val.move rfl) rfl rfl rfl ?_
                      refine SP.imp (fun w2 hw => St.unfocus0 hx_x1447.2 rfl hw) ?_
                      obtain ⟨x1465, hx_x1465, ho⟩ := bind_some ho
                      have hx_x1465 := elt_some hx_x1465
                      refine SP.indexW (fun w2 hw => slD.flat (St.own 0 rfl see.sub see.dj hw) (Sub.refl _) (Sub.refl _)) Try.underlying44 sz48 hx_x1465.1 hx_x1465.2 rfl rfl rfl rfl (fun p1464 h_p1464 => ?_)
                      refine SP.fieldO h_p1464 Try.underlying48 rfl sz3 rfl rfl rfl (fun p1466 h_p1466 => ?_)
                      refine SP.val (Val.loadW1 (off := 11) (k := k_history_Call) (fun w2 hw => slD.flat (St.own 0 rfl see.sub see.dj hw) (Sub.refl _) (Sub.refl _)) hx_x1465.2 h_p1466 (fun _ _ ⟨_, _, e, _⟩ => by subst e; rfl) Try.underlying3 rfl rfl) rfl rfl rfl ?_
                      refine SP.val (Val.add rfl rfl) rfl rfl rfl ?_
                      obtain ⟨x1468, hx_x1468, ho⟩ := bind_some ho
                      have hx_x1468 := elt_some hx_x1468
                      refine SP.indexW (fun w2 hw => slD.flat (St.own 0 rfl see.sub see.dj hw) (Sub.refl _) (Sub.refl _)) Try.underlying44 sz48 hx_x1468.1 hx_x1468.2 rfl rfl rfl rfl (fun p1467 h_p1467 => ?_)
                      refine SP.fieldO h_p1467 Try.underlying48 rfl sz3 rfl rfl rfl (fun p1469 h_p1469 => ?_)
                      refine SP.storeD (z0 := ({ x1468 with Start := IntKind.i64.wrap (x1465.Start + 1) } : history_Call)) (off := 11) (vs := [.int .i64 (IntKind.i64.wrap (x1465.Start + 1))]) see hx_x1468.2 h_p1469 rfl rfl sz3 rfl (fun a h c ⟨_, _, e, q⟩ => by subst e; exact ⟨_, _, rfl, q⟩) rfl rfl rfl ?_
                      refine SP.nil ?_
                      refine QE.blockN ?_
                      refine QE.then ?_
                      refine CP.region ?_
                      refine SP.val (Val.move rfl) rfl rfl rfl ?_
                      refine SP.val (Val.add rfl rfl) rfl rfl rfl ?_
                      refine SP.val (Val.assign rfl) rfl rfl rfl ?_
                      refine SP.nil ?_
                      obtain rfl := Option.some.inj ho
                      exact QE.lower m1445 (by omega) fun a w2 ha hw => ⟨(l1442.set x1314.toNat ({ x1468 with Start := IntKind.i64.wrap (x1465.Start + 1) } : history_Call)), (IntKind.i64.wrap (x1314 + 1)), v1443, (by omega), hr, ha.sub ⟨rfl, rfl, rfl, rfl, rfl, trivial⟩, hw⟩
                · refine CP.condF rfl (decide_eq_false hc) ?_
                  refine CP.exit ?_
                  refine QE.thru (by intro e; cases e) ?_
                  refine QE.thru (by intro e; cases e) ?_
                  refine QE.blockE ?_
                  refine QE.blockN ?_
                  refine QE.then ?_
                  refine CP.region ?_
                  refine SP.val (Val.move rfl) rfl rfl rfl ?_
                  refine SP.val (Val.add rfl rfl) rfl rfl rfl ?_
                  refine SP.val (Val.assign rfl) rfl rfl rfl ?_
                  refine SP.nil ?_
                  obtain rfl := Option.some.inj ho
                  exact QE.lower m1315 (by omega) fun a w2 ha hw => ⟨(IntKind.i64.wrap (x1145 + 1)), (by omega), hr, ha.sub ⟨rfl, rfl, rfl, trivial⟩, (St.selO [1] rfl rfl hw)⟩
            · refine CP.condF rfl (decide_eq_false hc) ?_
              refine CP.exit ?_
              refine QE.thru (by intro e; cases e) ?_
              refine QE.thru (by intro e; cases e) ?_
              refine QE.blockE ?_
              refine QE.then ?_
              refine CP.seq ?_
              refine CP.region ?_
              refine SP.val (Val.assign rfl) rfl rfl rfl ?_
              refine SP.nil ?_
              refine QE.then ?_
              refine CP.ret ?_
              obtain rfl := Option.some.inj ho
              obtain rfl := Option.some.inj hr
              exact QE.rets (rs := [.tmp 2]) (vs := [.bool true]) Try.results6 rfl ⟨RVs.tmp rfl, trivial⟩ (fun w2 h => St.done (fun a b p s => rfl) h)
      · intro J
        clear ho
        have ho := hg_t14
        clear hg_t14
        rcases if_some ho with ⟨hc, ho⟩ | ⟨hc, ho⟩
        · have hq11 := hc
          refine SP.isT (d := 25) rfl hq11 ?_
          refine SP.not rfl rfl rfl ?_
          refine SP.not rfl rfl rfl ?_
          refine SP.not rfl rfl rfl ?_
          refine SP.not rfl rfl rfl ?_
          refine SP.not rfl rfl rfl ?_
          refine SP.val (Val.pickT rfl rfl) rfl rfl rfl ?_
          obtain rfl := Option.some.inj ho
          exact J fun a w2 ha hw => ⟨ha.sub ⟨rfl, rfl, trivial⟩, hw⟩
        · have hq11 := (bf hc)
          refine SP.isF (d := 25) rfl hq11 ?_
          refine SP.val (Val.move rfl) rfl rfl rfl ?_
          obtain ⟨t12, hc, ho⟩ := bind_some ho
          refine SP.callV see (caps := []) (.int .i64 t12) fn29 rfl rfl rfl rfl (fun w2 hP hs sub ap => history_Width.ok l_0 _ _ hc w2 hP sub (ap.get 0 rfl)) ?_
          clear hc
          refine SP.val (Val.move rfl) rfl rfl rfl ?_
          obtain ⟨t13, hc, ho⟩ := bind_some ho
          refine SP.callV see (caps := []) (.int .i64 t13) fn30 rfl rfl rfl rfl (fun w2 hP hs sub ap => capstanref30_Width.ok l_0 _ _ hc w2 hP sub (ap.get 0 rfl)) ?_
          clear hc
          refine SP.val (Val.neq rfl rfl) rfl rfl rfl ?_
          refine SP.val (Val.pickF rfl rfl) rfl rfl rfl ?_
          obtain rfl := Option.some.inj ho
          exact J fun a w2 ha hw => ⟨ha.sub ⟨rfl, rfl, trivial⟩, hw⟩
    · intro J
      clear ho
      have ho := hg_t9
      clear hg_t9
      rcases if_some ho with ⟨hc, ho⟩ | ⟨hc, ho⟩
      · have hq6 := hc
        refine SP.isT (d := 18) rfl hq6 ?_
        refine SP.not rfl rfl rfl ?_
        refine SP.not rfl rfl rfl ?_
        refine SP.not rfl rfl rfl ?_
        refine SP.not rfl rfl rfl ?_
        refine SP.not rfl rfl rfl ?_
        refine SP.val (Val.pickT rfl rfl) rfl rfl rfl ?_
        obtain rfl := Option.some.inj ho
        exact J fun a w2 ha hw => ⟨ha.sub ⟨rfl, rfl, trivial⟩, hw⟩
      · have hq6 := (bf hc)
        refine SP.isF (d := 18) rfl hq6 ?_
        refine SP.val (Val.move rfl) rfl rfl rfl ?_
        obtain ⟨t7, hc, ho⟩ := bind_some ho
        refine SP.callV see (caps := []) (.int .i64 t7) fn27 rfl rfl rfl rfl (fun w2 hP hs sub ap => history_Pending.ok l_0 _ _ hc w2 hP sub (ap.get 0 rfl)) ?_
        clear hc
        refine SP.val (Val.move rfl) rfl rfl rfl ?_
        obtain ⟨t8, hc, ho⟩ := bind_some ho
        refine SP.callV see (caps := []) (.int .i64 t8) fn28 rfl rfl rfl rfl (fun w2 hP hs sub ap => capstanref30_Pending.ok l_0 _ _ hc w2 hP sub (ap.get 0 rfl)) ?_
        clear hc
        refine SP.val (Val.neq rfl rfl) rfl rfl rfl ?_
        refine SP.val (Val.pickF rfl rfl) rfl rfl rfl ?_
        obtain rfl := Option.some.inj ho
        exact J fun a w2 ha hw => ⟨ha.sub ⟨rfl, rfl, trivial⟩, hw⟩
theorem cl5 : Try.prog.cellsOf 5 = 1 := by kernel_rfl
theorem cl2 : Try.prog.cellsOf 2 = 1 := by kernel_rfl
theorem cl37 : Try.prog.cellsOf 37 = 3 := by kernel_rfl
def wf_api_Value (x : api_Value) : Prop := (Lit.int .u8 x.Kind).wf = true ∧ (Lit.int .i64 x.A).wf = true ∧ (Lit.int .i64 x.B).wf = true
theorem opens_api_Value : Opens Try.prog 37 k_api_Value wf_api_Value := by
  intro H enc W fuel cs d ps h
  cases fuel with
  | zero => simp [DataW.trod] at h
  | succ n =>
    obtain ⟨hl, hf⟩ := trod_struct Try.underlying37 h
    rw [cl37] at hl
    obtain ⟨c0, c1, c2, rfl⟩ := len3 hl
    obtain ⟨d0, q0, h0⟩ := hf 0 _ rfl
    replace h0 : DataW.trod enc Try.prog W 0 (fun _ => true) true n 5 (List.take (Try.prog.cellsOf 5) [c0, c1, c2]) = some (d0, q0) := h0
    rw [cl5] at h0
    replace h0 : DataW.trod enc Try.prog W 0 (fun _ => true) true n 5 [c0] = some (d0, q0) := h0
    obtain ⟨x0, r0, w0⟩ := (Opens.int Try.underlying5) enc W n _ _ _ h0
    obtain ⟨rfl, -⟩ := List.cons.inj r0
    obtain ⟨d1, q1, h1⟩ := hf 1 _ rfl
    replace h1 : DataW.trod enc Try.prog W 0 (fun _ => true) true n 2 (List.take (Try.prog.cellsOf 2) [c1, c2]) = some (d1, q1) := h1
    rw [cl2] at h1
    replace h1 : DataW.trod enc Try.prog W 0 (fun _ => true) true n 2 [c1] = some (d1, q1) := h1
    obtain ⟨x1, r1, w1⟩ := (Opens.int Try.underlying2) enc W n _ _ _ h1
    obtain ⟨rfl, -⟩ := List.cons.inj r1
    obtain ⟨d2, q2, h2⟩ := hf 2 _ rfl
    replace h2 : DataW.trod enc Try.prog W 0 (fun _ => true) true n 2 (List.take (Try.prog.cellsOf 2) [c2]) = some (d2, q2) := h2
    rw [cl2] at h2
    replace h2 : DataW.trod enc Try.prog W 0 (fun _ => true) true n 2 [c2] = some (d2, q2) := h2
    obtain ⟨x2, r2, w2⟩ := (Opens.int Try.underlying2) enc W n _ _ _ h2
    obtain ⟨rfl, -⟩ := List.cons.inj r2
    exact ⟨⟨x0, x1, x2⟩, rfl, w0, w1, w2⟩
theorem cl3 : Try.prog.cellsOf 3 = 1 := by kernel_rfl
theorem cl32 : Try.prog.cellsOf 32 = 1 := by kernel_rfl
theorem cl24 : Try.prog.cellsOf 24 = 1 := by kernel_rfl
theorem cl34 : Try.prog.cellsOf 34 = 4 := by kernel_rfl
def wf_api_Op (x : api_Op) : Prop := (Lit.int .u8 x.Kind).wf = true ∧ (Lit.int .i64 x.Method).wf = true ∧ (x.Args.length ≤ maxLen ∧ ∀ y ∈ x.Args, wf_api_Value y) ∧ (x.Bytes.length ≤ maxLen ∧ ∀ y ∈ x.Bytes, (Lit.int .u8 y).wf = true)
theorem opens_api_Op : Opens Try.prog 34 k_api_Op wf_api_Op := by
  intro H enc W fuel cs d ps h
  cases fuel with
  | zero => simp [DataW.trod] at h
  | succ n =>
    obtain ⟨hl, hf⟩ := trod_struct Try.underlying34 h
    rw [cl34] at hl
    obtain ⟨c0, c1, c2, c3, rfl⟩ := len4 hl
    obtain ⟨d0, q0, h0⟩ := hf 0 _ rfl
    replace h0 : DataW.trod enc Try.prog W 0 (fun _ => true) true n 5 (List.take (Try.prog.cellsOf 5) [c0, c1, c2, c3]) = some (d0, q0) := h0
    rw [cl5] at h0
    replace h0 : DataW.trod enc Try.prog W 0 (fun _ => true) true n 5 [c0] = some (d0, q0) := h0
    obtain ⟨x0, r0, w0⟩ := (Opens.int Try.underlying5) enc W n _ _ _ h0
    obtain ⟨rfl, -⟩ := List.cons.inj r0
    obtain ⟨d1, q1, h1⟩ := hf 1 _ rfl
    replace h1 : DataW.trod enc Try.prog W 0 (fun _ => true) true n 3 (List.take (Try.prog.cellsOf 3) [c1, c2, c3]) = some (d1, q1) := h1
    rw [cl3] at h1
    replace h1 : DataW.trod enc Try.prog W 0 (fun _ => true) true n 3 [c1] = some (d1, q1) := h1
    obtain ⟨x1, r1, w1⟩ := (Opens.int Try.underlying3) enc W n _ _ _ h1
    obtain ⟨rfl, -⟩ := List.cons.inj r1
    obtain ⟨d2, q2, h2⟩ := hf 2 _ rfl
    replace h2 : DataW.trod enc Try.prog W 0 (fun _ => true) true n 32 (List.take (Try.prog.cellsOf 32) [c2, c3]) = some (d2, q2) := h2
    rw [cl32] at h2
    replace h2 : DataW.trod enc Try.prog W 0 (fun _ => true) true n 32 [c2] = some (d2, q2) := h2
    obtain ⟨x2, r2, w2⟩ := (Opens.slice Try.underlying32 opens_api_Value cl37 (by decide)) enc W n _ _ _ h2
    obtain ⟨v2, e2, r2⟩ := r2
    obtain ⟨rfl, -⟩ := List.cons.inj e2
    obtain ⟨d3, q3, h3⟩ := hf 3 _ rfl
    replace h3 : DataW.trod enc Try.prog W 0 (fun _ => true) true n 24 (List.take (Try.prog.cellsOf 24) [c3]) = some (d3, q3) := h3
    rw [cl24] at h3
    replace h3 : DataW.trod enc Try.prog W 0 (fun _ => true) true n 24 [c3] = some (d3, q3) := h3
    obtain ⟨x3, r3, w3⟩ := (Opens.slice Try.underlying24 (Opens.int Try.underlying5) cl5 (by decide)) enc W n _ _ _ h3
    obtain ⟨v3, e3, r3⟩ := r3
    obtain ⟨rfl, -⟩ := List.cons.inj e3
    exact ⟨⟨x0, x1, x2, x3⟩, ⟨_, _, rfl, r2, r3⟩, w0, w1, w2, w3⟩
theorem cl39 : Try.prog.cellsOf 39 = 4 := by kernel_rfl
def wf_api_Outcome (x : api_Outcome) : Prop := (Lit.int .i64 x.Trap).wf = true ∧ wf_api_Value x.Result
theorem opens_api_Outcome : Opens Try.prog 39 k_api_Outcome wf_api_Outcome := by
  intro H enc W fuel cs d ps h
  cases fuel with
  | zero => simp [DataW.trod] at h
  | succ n =>
    obtain ⟨hl, hf⟩ := trod_struct Try.underlying39 h
    rw [cl39] at hl
    obtain ⟨c0, c1, c2, c3, rfl⟩ := len4 hl
    obtain ⟨d0, q0, h0⟩ := hf 0 _ rfl
    replace h0 : DataW.trod enc Try.prog W 0 (fun _ => true) true n 3 (List.take (Try.prog.cellsOf 3) [c0, c1, c2, c3]) = some (d0, q0) := h0
    rw [cl3] at h0
    replace h0 : DataW.trod enc Try.prog W 0 (fun _ => true) true n 3 [c0] = some (d0, q0) := h0
    obtain ⟨x0, r0, w0⟩ := (Opens.int Try.underlying3) enc W n _ _ _ h0
    obtain ⟨rfl, -⟩ := List.cons.inj r0
    obtain ⟨d1, q1, h1⟩ := hf 1 _ rfl
    replace h1 : DataW.trod enc Try.prog W 0 (fun _ => true) true n 37 (List.take (Try.prog.cellsOf 37) [c1, c2, c3]) = some (d1, q1) := h1
    rw [cl37] at h1
    replace h1 : DataW.trod enc Try.prog W 0 (fun _ => true) true n 37 [c1, c2, c3] = some (d1, q1) := h1
    obtain ⟨x1, r1, w1⟩ := opens_api_Value enc W n _ _ _ h1
    have e1 : [c1, c2, c3] = [.int .u8 x1.Kind, .int .i64 x1.A, .int .i64 x1.B] := r1
    simp only [List.cons.injEq, and_true] at e1
    obtain ⟨rfl, rfl, rfl⟩ := e1
    exact ⟨⟨x0, x1⟩, rfl, w0, w1⟩
theorem cl35 : Try.prog.cellsOf 35 = 1 := by kernel_rfl
theorem cl41 : Try.prog.cellsOf 41 = 5 := by kernel_rfl
def wf_api_Reply (x : api_Reply) : Prop := (Lit.int .i64 x.Err).wf = true ∧ wf_api_Outcome x.Out
theorem opens_api_Reply : Opens Try.prog 41 k_api_Reply wf_api_Reply := by
  intro H enc W fuel cs d ps h
  cases fuel with
  | zero => simp [DataW.trod] at h
  | succ n =>
    obtain ⟨hl, hf⟩ := trod_struct Try.underlying41 h
    rw [cl41] at hl
    obtain ⟨c0, c1, c2, c3, c4, rfl⟩ := len5 hl
    obtain ⟨d0, q0, h0⟩ := hf 0 _ rfl
    replace h0 : DataW.trod enc Try.prog W 0 (fun _ => true) true n 35 (List.take (Try.prog.cellsOf 35) [c0, c1, c2, c3, c4]) = some (d0, q0) := h0
    rw [cl35] at h0
    replace h0 : DataW.trod enc Try.prog W 0 (fun _ => true) true n 35 [c0] = some (d0, q0) := h0
    obtain ⟨x0, r0, w0⟩ := (Opens.int Try.underlying35) enc W n _ _ _ h0
    obtain ⟨rfl, -⟩ := List.cons.inj r0
    obtain ⟨d1, q1, h1⟩ := hf 1 _ rfl
    replace h1 : DataW.trod enc Try.prog W 0 (fun _ => true) true n 39 (List.take (Try.prog.cellsOf 39) [c1, c2, c3, c4]) = some (d1, q1) := h1
    rw [cl39] at h1
    replace h1 : DataW.trod enc Try.prog W 0 (fun _ => true) true n 39 [c1, c2, c3, c4] = some (d1, q1) := h1
    obtain ⟨x1, r1, w1⟩ := opens_api_Outcome enc W n _ _ _ h1
    have e1 : [c1, c2, c3, c4] = [.int .i64 x1.Trap, .int .u8 x1.Result.Kind, .int .i64 x1.Result.A, .int .i64 x1.Result.B] := r1
    simp only [List.cons.injEq, and_true] at e1
    obtain ⟨rfl, rfl, rfl, rfl⟩ := e1
    exact ⟨⟨x0, x1⟩, rfl, w0, w1⟩
theorem cl4 : Try.prog.cellsOf 4 = 1 := by kernel_rfl
theorem cl48 : Try.prog.cellsOf 48 = 13 := by kernel_rfl
def wf_history_Call (x : history_Call) : Prop := (Lit.int .i64 x.Proc).wf = true ∧ wf_api_Op x.Op ∧ True ∧ wf_api_Reply x.Reply ∧ (Lit.int .i64 x.Start).wf = true ∧ (Lit.int .i64 x.End).wf = true
theorem opens_history_Call : Opens Try.prog 48 k_history_Call wf_history_Call := by
  intro H enc W fuel cs d ps h
  cases fuel with
  | zero => simp [DataW.trod] at h
  | succ n =>
    obtain ⟨hl, hf⟩ := trod_struct Try.underlying48 h
    rw [cl48] at hl
    obtain ⟨c0, c1, c2, c3, c4, c5, c6, c7, c8, c9, c10, c11, c12, rfl⟩ := len13 hl
    obtain ⟨d0, q0, h0⟩ := hf 0 _ rfl
    replace h0 : DataW.trod enc Try.prog W 0 (fun _ => true) true n 3 (List.take (Try.prog.cellsOf 3) [c0, c1, c2, c3, c4, c5, c6, c7, c8, c9, c10, c11, c12]) = some (d0, q0) := h0
    rw [cl3] at h0
    replace h0 : DataW.trod enc Try.prog W 0 (fun _ => true) true n 3 [c0] = some (d0, q0) := h0
    obtain ⟨x0, r0, w0⟩ := (Opens.int Try.underlying3) enc W n _ _ _ h0
    obtain ⟨rfl, -⟩ := List.cons.inj r0
    obtain ⟨d1, q1, h1⟩ := hf 1 _ rfl
    replace h1 : DataW.trod enc Try.prog W 0 (fun _ => true) true n 34 (List.take (Try.prog.cellsOf 34) [c1, c2, c3, c4, c5, c6, c7, c8, c9, c10, c11, c12]) = some (d1, q1) := h1
    rw [cl34] at h1
    replace h1 : DataW.trod enc Try.prog W 0 (fun _ => true) true n 34 [c1, c2, c3, c4] = some (d1, q1) := h1
    obtain ⟨x1, r1, w1⟩ := opens_api_Op enc W n _ _ _ h1
    obtain ⟨v3, v4, e1, r1_2, r1_3⟩ := r1
    simp only [List.cons.injEq, and_true] at e1
    obtain ⟨rfl, rfl, rfl, rfl⟩ := e1
    obtain ⟨d2, q2, h2⟩ := hf 2 _ rfl
    replace h2 : DataW.trod enc Try.prog W 0 (fun _ => true) true n 4 (List.take (Try.prog.cellsOf 4) [c5, c6, c7, c8, c9, c10, c11, c12]) = some (d2, q2) := h2
    rw [cl4] at h2
    replace h2 : DataW.trod enc Try.prog W 0 (fun _ => true) true n 4 [c5] = some (d2, q2) := h2
    obtain ⟨x2, r2, w2⟩ := (Opens.bool Try.underlying4) enc W n _ _ _ h2
    obtain ⟨rfl, -⟩ := List.cons.inj r2
    obtain ⟨d3, q3, h3⟩ := hf 3 _ rfl
    replace h3 : DataW.trod enc Try.prog W 0 (fun _ => true) true n 41 (List.take (Try.prog.cellsOf 41) [c6, c7, c8, c9, c10, c11, c12]) = some (d3, q3) := h3
    rw [cl41] at h3
    replace h3 : DataW.trod enc Try.prog W 0 (fun _ => true) true n 41 [c6, c7, c8, c9, c10] = some (d3, q3) := h3
    obtain ⟨x3, r3, w3⟩ := opens_api_Reply enc W n _ _ _ h3
    have e3 : [c6, c7, c8, c9, c10] = [.int .i64 x3.Err, .int .i64 x3.Out.Trap, .int .u8 x3.Out.Result.Kind, .int .i64 x3.Out.Result.A, .int .i64 x3.Out.Result.B] := r3
    simp only [List.cons.injEq, and_true] at e3
    obtain ⟨rfl, rfl, rfl, rfl, rfl⟩ := e3
    obtain ⟨d4, q4, h4⟩ := hf 4 _ rfl
    replace h4 : DataW.trod enc Try.prog W 0 (fun _ => true) true n 3 (List.take (Try.prog.cellsOf 3) [c11, c12]) = some (d4, q4) := h4
    rw [cl3] at h4
    replace h4 : DataW.trod enc Try.prog W 0 (fun _ => true) true n 3 [c11] = some (d4, q4) := h4
    obtain ⟨x4, r4, w4⟩ := (Opens.int Try.underlying3) enc W n _ _ _ h4
    obtain ⟨rfl, -⟩ := List.cons.inj r4
    obtain ⟨d5, q5, h5⟩ := hf 5 _ rfl
    replace h5 : DataW.trod enc Try.prog W 0 (fun _ => true) true n 3 (List.take (Try.prog.cellsOf 3) [c12]) = some (d5, q5) := h5
    rw [cl3] at h5
    replace h5 : DataW.trod enc Try.prog W 0 (fun _ => true) true n 3 [c12] = some (d5, q5) := h5
    obtain ⟨x5, r5, w5⟩ := (Opens.int Try.underlying3) enc W n _ _ _ h5
    obtain ⟨rfl, -⟩ := List.cons.inj r5
    exact ⟨⟨x0, x1, x2, x3, x4, x5⟩, ⟨_, _, rfl, r1_2, r1_3⟩, w0, w1, w2, w3, w4, w5⟩
/-- What is left to be shown of the law: of plain values alone. -/
def capstanlaw30_HistoryTells.Pure : Prop := ∀ (x0 : (List history_Call)), (x0.length ≤ maxLen ∧ ∀ y ∈ x0, wf_history_Call y) → capstanlaw30_HistoryTells.f x0 = some true
end Go.Proofs.Ytbejlahmhloloaa
end
