/- Functions of the program as plain functions, with the proof that the code computes them: printed by gen.py of this session. -/
import Derived.Test.YtbejlahmhloloaaProg
import Derived.Test.YtbejlahmhloloaaQ18v37d56f
import Derived.Test.YtbejlahmhloloaaGHistoryAheadp1
set_option linter.unusedVariables false
set_option linter.unusedSimpArgs false
set_option maxRecDepth 20000
set_option maxHeartbeats 2000000
noncomputable section
namespace Go.Proofs.Ytbejlahmhloloaa
open Go.Q
/-! ### capstan/capstanlaw30.awake: function 37 -/
def capstanlaw30_awake.f  : Option Bool :=
  (capstanlaw30_call.f 0 1 5).bind fun t1 => (capstanlaw30_call.f 1 3 4).bind fun t6 => (capstanlaw30_call.f 0 6 0).bind fun t11 => (history_Ahead.f t1 (⟨t11.Proc, (⟨t11.Op.Kind, t11.Op.Method, t11.Op.Args, t11.Op.Bytes⟩ : api_Op), true, (⟨t11.Reply.Err, (⟨t11.Reply.Out.Trap, (⟨t11.Reply.Out.Result.Kind, t11.Reply.Out.Result.A, t11.Reply.Out.Result.B⟩ : api_Value)⟩ : api_Outcome)⟩ : api_Reply), t11.Start, t11.End⟩ : history_Call)).bind fun t26 => (if t26 = true then ((history_Ahead.f t1 t6).bind fun t29 => some (!t29)) else (some false)).bind fun t30 => (if t30 = true then ((history_Ahead.f (⟨t11.Proc, (⟨t11.Op.Kind, t11.Op.Method, t11.Op.Args, t11.Op.Bytes⟩ : api_Op), true, (⟨t11.Reply.Err, (⟨t11.Reply.Out.Trap, (⟨t11.Reply.Out.Result.Kind, t11.Reply.Out.Result.A, t11.Reply.Out.Result.B⟩ : api_Value)⟩ : api_Outcome)⟩ : api_Reply), t11.Start, t11.End⟩ : history_Call) t1).bind fun t33 => some (!t33)) else (some false)).bind fun t34 => (if t34 = true then ((history_Width.f [t1, t6, t11]).bind fun t37 => some (decide (t37 = 2))) else (some false)).bind fun t38 => (if t38 = true then ((history_Pending.f [t1, t6, t11]).bind fun t41 => some (decide (t41 = 1))) else (some false)).bind fun t42 => (if t42 = true then ((history_May.f [t1, t6, t11]).bind fun t45 => some t45) else (some false)).bind fun t46 => (if t46 = true then ((history_May.f [t6, t1]).bind fun t51 => some (!t51)) else (some false)).bind fun t52 => (if t52 = true then ((history_May.f [t1, t1]).bind fun t57 => some (!t57)) else (some false)).bind fun t58 => (if t58 = true then ((history_Nothing.f (⟨t1.Proc, (⟨t1.Op.Kind, t1.Op.Method, t1.Op.Args, t1.Op.Bytes⟩ : api_Op), t1.Read, (⟨4, (⟨t1.Reply.Out.Trap, (⟨t1.Reply.Out.Result.Kind, t1.Reply.Out.Result.A, t1.Reply.Out.Result.B⟩ : api_Value)⟩ : api_Outcome)⟩ : api_Reply), t1.Start, t1.End⟩ : history_Call)).bind fun t61 => some t61) else (some false)).bind fun t62 => (if t62 = true then ((history_Nothing.f (⟨t11.Proc, (⟨t11.Op.Kind, t11.Op.Method, t11.Op.Args, t11.Op.Bytes⟩ : api_Op), true, (⟨t11.Reply.Err, (⟨t11.Reply.Out.Trap, (⟨t11.Reply.Out.Result.Kind, t11.Reply.Out.Result.A, t11.Reply.Out.Result.B⟩ : api_Value)⟩ : api_Outcome)⟩ : api_Reply), t11.Start, t11.End⟩ : history_Call)).bind fun t65 => some t65) else (some false)).bind fun t66 => (if t66 = true then ((history_Nothing.f t1).bind fun t69 => some (!t69)) else (some false)).bind fun t70 => (if t70 = true then ((history_Some.f [(⟨t1.Proc, (⟨t1.Op.Kind, t1.Op.Method, t1.Op.Args, t1.Op.Bytes⟩ : api_Op), t1.Read, (⟨4, (⟨t1.Reply.Out.Trap, (⟨t1.Reply.Out.Result.Kind, t1.Reply.Out.Result.A, t1.Reply.Out.Result.B⟩ : api_Value)⟩ : api_Outcome)⟩ : api_Reply), t1.Start, t1.End⟩ : history_Call), t6, (⟨t11.Proc, (⟨t11.Op.Kind, t11.Op.Method, t11.Op.Args, t11.Op.Bytes⟩ : api_Op), true, (⟨t11.Reply.Err, (⟨t11.Reply.Out.Trap, (⟨t11.Reply.Out.Result.Kind, t11.Reply.Out.Result.A, t11.Reply.Out.Result.B⟩ : api_Value)⟩ : api_Outcome)⟩ : api_Reply), t11.Start, t11.End⟩ : history_Call)]).bind fun t75 => some (decide ((t75.length : Int) = 1))) else (some false)).bind fun t78 => some t78
theorem capstanlaw30_awake.ok   (r : Bool) (H : capstanlaw30_awake.f  = some r) (w : World) (hV : Hp) (sV : Sub hV (hp w))  :
    Trip Try.prog 37 [].toArray em hV w (fun v => HO.pure (v = .bool r)) := by
  have see : Sees w em hV := ⟨sV, Dj.em_right _⟩
  refine Trip.of (P := Try.prog) (n := ⟨82, []⟩) Try.func37 rfl ⟨rfl, rfl⟩ rfl (St.begin (All.nil _)) ?_
  have ho := H
  refine CP.seq ?_
  refine CP.region ?_
  refine SP.val (Val.assign rfl) rfl rfl rfl ?_
  refine SP.nil ?_
  refine QE.then ?_
  refine CP.seq ?_
  refine CP.region ?_
  obtain ⟨t1, hc, ho⟩ := bind_some ho
  refine SP.callK see (caps := []) _ fn56 rfl rfl rfl rfl (fun w2 hP hs sub ap => capstanlaw30_call.ok 0 1 5  _ hc w2 hP sub ) (fun vr => ?_)
  refine SP.ex (fun w2 h => St.open h) (fun v2 => ?_)
  refine SP.ex (fun w2 h => St.open h) (fun v3 => ?_)
  refine SP.have (fun w2 h => (St.pand h).1.symm) (fun er => ?_)
  subst er
  refine SP.imp (fun w2 h => St.seps (St.pand h).2) ?_
  clear hc
  obtain ⟨t6, hc, ho⟩ := bind_some ho
  refine SP.callK see (caps := []) _ fn56 rfl rfl rfl rfl (fun w2 hP hs sub ap => capstanlaw30_call.ok 1 3 4  _ hc w2 hP sub ) (fun vr => ?_)
  refine SP.ex (fun w2 h => St.open h) (fun v7 => ?_)
  refine SP.ex (fun w2 h => St.open h) (fun v8 => ?_)
  refine SP.have (fun w2 h => (St.pand h).1.symm) (fun er => ?_)
  subst er
  refine SP.imp (fun w2 h => St.seps (St.pand h).2) ?_
  clear hc
  obtain ⟨t11, hc, ho⟩ := bind_some ho
  refine SP.callK see (caps := []) _ fn56 rfl rfl rfl rfl (fun w2 hP hs sub ap => capstanlaw30_call.ok 0 6 0  _ hc w2 hP sub ) (fun vr => ?_)
  refine SP.ex (fun w2 h => St.open h) (fun v12 => ?_)
  refine SP.ex (fun w2 h => St.open h) (fun v13 => ?_)
  refine SP.have (fun w2 h => (St.pand h).1.symm) (fun er => ?_)
  subst er
  refine SP.imp (fun w2 h => St.seps (St.pand h).2) ?_
  clear hc
  refine SP.alloc (cs := [.int .i64 0, .int .u8 0, .int .i64 0, (.slice none 0 0), (.slice none 0 0), .bool false, .int .i64 0, .int .i64 0, .int .u8 0, .int .i64 0, .int .i64 0, .int .i64 0, .int .i64 0]) inf48 rfl rfl (fun b16 => ?_)
  refine SP.alloc (cs := [.int .i64 0, .int .u8 0, .int .i64 0, (.slice none 0 0), (.slice none 0 0), .bool false, .int .i64 0, .int .i64 0, .int .u8 0, .int .i64 0, .int .i64 0, .int .i64 0, .int .i64 0]) inf48 rfl rfl (fun b18 => ?_)
  refine SP.alloc (cs := [.int .i64 0, .int .u8 0, .int .i64 0, (.slice none 0 0), (.slice none 0 0), .bool false, .int .i64 0, .int .i64 0, .int .u8 0, .int .i64 0, .int .i64 0, .int .i64 0, .int .i64 0]) inf48 rfl rfl (fun b20 => ?_)
  refine SP.have (fun w2 hw => slO.shape (St.own 7 rfl see.sub see.dj hw)) (fun hs_v2 => ?_)
  refine SP.have (fun w2 hw => slO.shape (St.own 8 rfl see.sub see.dj hw)) (fun hs_v3 => ?_)
  refine SP.store (v := .agg #[.int .i64 t1.Proc, .int .u8 t1.Op.Kind, .int .i64 t1.Op.Method, v2, v3, .bool t1.Read, .int .i64 t1.Reply.Err, .int .i64 t1.Reply.Out.Trap, .int .u8 t1.Reply.Out.Result.Kind, .int .i64 t1.Reply.Out.Result.A, .int .i64 t1.Reply.Out.Result.B, .int .i64 t1.Start, .int .i64 t1.End]) (vs := [.int .i64 t1.Proc, .int .u8 t1.Op.Kind, .int .i64 t1.Op.Method, v2, v3, .bool t1.Read, .int .i64 t1.Reply.Err, .int .i64 t1.Reply.Out.Trap, .int .u8 t1.Reply.Out.Result.Kind, .int .i64 t1.Reply.Out.Result.A, .int .i64 t1.Reply.Out.Result.B, .int .i64 t1.Start, .int .i64 t1.End]) 2 (by rfl) sz48 (by rfl) (by rfl) (by rfl) (by rfl) (one_cons rfl (one_cons rfl (one_cons rfl (one_cons hs_v2 (one_cons hs_v3 (one_cons rfl (one_cons rfl (one_cons rfl (one_cons rfl (one_cons rfl (one_cons rfl (one_cons rfl (one_cons rfl (rfl)))))))))))))) (by rfl) ?_
  refine SP.have (fun w2 hw => slO.shape (St.own 5 rfl see.sub see.dj hw)) (fun hs_v7 => ?_)
  refine SP.have (fun w2 hw => slO.shape (St.own 6 rfl see.sub see.dj hw)) (fun hs_v8 => ?_)
  refine SP.store (v := .agg #[.int .i64 t6.Proc, .int .u8 t6.Op.Kind, .int .i64 t6.Op.Method, v7, v8, .bool t6.Read, .int .i64 t6.Reply.Err, .int .i64 t6.Reply.Out.Trap, .int .u8 t6.Reply.Out.Result.Kind, .int .i64 t6.Reply.Out.Result.A, .int .i64 t6.Reply.Out.Result.B, .int .i64 t6.Start, .int .i64 t6.End]) (vs := [.int .i64 t6.Proc, .int .u8 t6.Op.Kind, .int .i64 t6.Op.Method, v7, v8, .bool t6.Read, .int .i64 t6.Reply.Err, .int .i64 t6.Reply.Out.Trap, .int .u8 t6.Reply.Out.Result.Kind, .int .i64 t6.Reply.Out.Result.A, .int .i64 t6.Reply.Out.Result.B, .int .i64 t6.Start, .int .i64 t6.End]) 1 (by rfl) sz48 (by rfl) (by rfl) (by rfl) (by rfl) (one_cons rfl (one_cons rfl (one_cons rfl (one_cons hs_v7 (one_cons hs_v8 (one_cons rfl (one_cons rfl (one_cons rfl (one_cons rfl (one_cons rfl (one_cons rfl (one_cons rfl (one_cons rfl (rfl)))))))))))))) (by rfl) ?_
  refine SP.have (fun w2 hw => slO.shape (St.own 3 rfl see.sub see.dj hw)) (fun hs_v12 => ?_)
  refine SP.have (fun w2 hw => slO.shape (St.own 4 rfl see.sub see.dj hw)) (fun hs_v13 => ?_)
  refine SP.store (v := .agg #[.int .i64 t11.Proc, .int .u8 t11.Op.Kind, .int .i64 t11.Op.Method, v12, v13, .bool t11.Read, .int .i64 t11.Reply.Err, .int .i64 t11.Reply.Out.Trap, .int .u8 t11.Reply.Out.Result.Kind, .int .i64 t11.Reply.Out.Result.A, .int .i64 t11.Reply.Out.Result.B, .int .i64 t11.Start, .int .i64 t11.End]) (vs := [.int .i64 t11.Proc, .int .u8 t11.Op.Kind, .int .i64 t11.Op.Method, v12, v13, .bool t11.Read, .int .i64 t11.Reply.Err, .int .i64 t11.Reply.Out.Trap, .int .u8 t11.Reply.Out.Result.Kind, .int .i64 t11.Reply.Out.Result.A, .int .i64 t11.Reply.Out.Result.B, .int .i64 t11.Start, .int .i64 t11.End]) 0 (by rfl) sz48 (by rfl) (by rfl) (by rfl) (by rfl) (one_cons rfl (one_cons rfl (one_cons rfl (one_cons hs_v12 (one_cons hs_v13 (one_cons rfl (one_cons rfl (one_cons rfl (one_cons rfl (one_cons rfl (one_cons rfl (one_cons rfl (one_cons rfl (rfl)))))))))))))) (by rfl) ?_
  refine SP.nil ?_
  refine QE.then ?_
  refine CP.seq ?_
  refine CP.region ?_
  refine SP.val (Val.loadA 2 rfl Try.underlying48 rfl sz48 rfl rfl rfl) rfl rfl rfl ?_
  refine SP.val (Val.loadA 1 rfl Try.underlying48 rfl sz48 rfl rfl rfl) rfl rfl rfl ?_
  refine SP.val (Val.loadA 0 rfl Try.underlying48 rfl sz48 rfl rfl rfl) rfl rfl rfl ?_
  refine SP.freezeS see 7 rfl ?_
  refine SP.freezeS see 7 rfl ?_
  refine SP.freezeS see 5 rfl ?_
  refine SP.freezeS see 5 rfl ?_
  refine SP.freezeS see 3 rfl ?_
  refine SP.freezeS see 3 rfl ?_
  refine SP.lit (k := k_history_Call) (xs := [t1, t6, t11]) (vs := [.agg #[.int .i64 t1.Proc, .int .u8 t1.Op.Kind, .int .i64 t1.Op.Method, v2, v3, .bool t1.Read, .int .i64 t1.Reply.Err, .int .i64 t1.Reply.Out.Trap, .int .u8 t1.Reply.Out.Result.Kind, .int .i64 t1.Reply.Out.Result.A, .int .i64 t1.Reply.Out.Result.B, .int .i64 t1.Start, .int .i64 t1.End], .agg #[.int .i64 t6.Proc, .int .u8 t6.Op.Kind, .int .i64 t6.Op.Method, v7, v8, .bool t6.Read, .int .i64 t6.Reply.Err, .int .i64 t6.Reply.Out.Trap, .int .u8 t6.Reply.Out.Result.Kind, .int .i64 t6.Reply.Out.Result.A, .int .i64 t6.Reply.Out.Result.B, .int .i64 t6.Start, .int .i64 t6.End], .agg #[.int .i64 t11.Proc, .int .u8 t11.Op.Kind, .int .i64 t11.Op.Method, v12, v13, .bool t11.Read, .int .i64 t11.Reply.Err, .int .i64 t11.Reply.Out.Trap, .int .u8 t11.Reply.Out.Result.Kind, .int .i64 t11.Reply.Out.Result.A, .int .i64 t11.Reply.Out.Result.B, .int .i64 t11.Start, .int .i64 t11.End]]) (cells := [.int .i64 t1.Proc, .int .u8 t1.Op.Kind, .int .i64 t1.Op.Method, v2, v3, .bool t1.Read, .int .i64 t1.Reply.Err, .int .i64 t1.Reply.Out.Trap, .int .u8 t1.Reply.Out.Result.Kind, .int .i64 t1.Reply.Out.Result.A, .int .i64 t1.Reply.Out.Result.B, .int .i64 t1.Start, .int .i64 t1.End, .int .i64 t6.Proc, .int .u8 t6.Op.Kind, .int .i64 t6.Op.Method, v7, v8, .bool t6.Read, .int .i64 t6.Reply.Err, .int .i64 t6.Reply.Out.Trap, .int .u8 t6.Reply.Out.Result.Kind, .int .i64 t6.Reply.Out.Result.A, .int .i64 t6.Reply.Out.Result.B, .int .i64 t6.Start, .int .i64 t6.End, .int .i64 t11.Proc, .int .u8 t11.Op.Kind, .int .i64 t11.Op.Method, v12, v13, .bool t11.Read, .int .i64 t11.Reply.Err, .int .i64 t11.Reply.Out.Trap, .int .u8 t11.Reply.Out.Result.Kind, .int .i64 t11.Reply.Out.Result.A, .int .i64 t11.Reply.Out.Result.B, .int .i64 t11.Start, .int .i64 t11.End]) Try.underlying44 inf48 rfl rfl rfl rfl rfl rfl rfl rfl (fun _ ap => ⟨[.int .i64 t1.Proc, .int .u8 t1.Op.Kind, .int .i64 t1.Op.Method, v2, v3, .bool t1.Read, .int .i64 t1.Reply.Err, .int .i64 t1.Reply.Out.Trap, .int .u8 t1.Reply.Out.Result.Kind, .int .i64 t1.Reply.Out.Result.A, .int .i64 t1.Reply.Out.Result.B, .int .i64 t1.Start, .int .i64 t1.End], _, rfl, ⟨_, _, rfl, ap.get 5 rfl, ap.get 4 rfl⟩, ⟨[.int .i64 t6.Proc, .int .u8 t6.Op.Kind, .int .i64 t6.Op.Method, v7, v8, .bool t6.Read, .int .i64 t6.Reply.Err, .int .i64 t6.Reply.Out.Trap, .int .u8 t6.Reply.Out.Result.Kind, .int .i64 t6.Reply.Out.Result.A, .int .i64 t6.Reply.Out.Result.B, .int .i64 t6.Start, .int .i64 t6.End], _, rfl, ⟨_, _, rfl, ap.get 3 rfl, ap.get 2 rfl⟩, ⟨[.int .i64 t11.Proc, .int .u8 t11.Op.Kind, .int .i64 t11.Op.Method, v12, v13, .bool t11.Read, .int .i64 t11.Reply.Err, .int .i64 t11.Reply.Out.Trap, .int .u8 t11.Reply.Out.Result.Kind, .int .i64 t11.Reply.Out.Result.A, .int .i64 t11.Reply.Out.Result.B, .int .i64 t11.Start, .int .i64 t11.End], _, rfl, ⟨_, _, rfl, ap.get 1 rfl, ap.get 0 rfl⟩, rfl⟩⟩⟩) rfl rfl rfl (fun v22 => ?_)
  refine SP.val (Val.assign rfl) rfl rfl rfl ?_
  refine SP.nil ?_
  refine QE.then ?_
  refine CP.seq ?_
  refine CP.region ?_
  refine SP.val (Val.loadA 3 rfl Try.underlying48 rfl sz48 rfl rfl rfl) rfl rfl rfl ?_
  refine SP.alloc (cs := [.int .i64 0, .int .u8 0, .int .i64 0, (.slice none 0 0), (.slice none 0 0), .bool false, .int .i64 0, .int .i64 0, .int .u8 0, .int .i64 0, .int .i64 0, .int .i64 0, .int .i64 0]) inf48 rfl rfl (fun b24 => ?_)
  refine SP.have (fun w2 hw => slR.shape (St.pers 5 rfl see.sub see.dj hw)) (fun hs_v2 => ?_)
  refine SP.have (fun w2 hw => slR.shape (St.pers 4 rfl see.sub see.dj hw)) (fun hs_v3 => ?_)
  refine SP.store (v := .agg #[.int .i64 t1.Proc, .int .u8 t1.Op.Kind, .int .i64 t1.Op.Method, v2, v3, .bool t1.Read, .int .i64 t1.Reply.Err, .int .i64 t1.Reply.Out.Trap, .int .u8 t1.Reply.Out.Result.Kind, .int .i64 t1.Reply.Out.Result.A, .int .i64 t1.Reply.Out.Result.B, .int .i64 t1.Start, .int .i64 t1.End]) (vs := [.int .i64 t1.Proc, .int .u8 t1.Op.Kind, .int .i64 t1.Op.Method, v2, v3, .bool t1.Read, .int .i64 t1.Reply.Err, .int .i64 t1.Reply.Out.Trap, .int .u8 t1.Reply.Out.Result.Kind, .int .i64 t1.Reply.Out.Result.A, .int .i64 t1.Reply.Out.Result.B, .int .i64 t1.Start, .int .i64 t1.End]) 0 (by rfl) sz48 (by rfl) (by rfl) (by rfl) (by rfl) (one_cons rfl (one_cons rfl (one_cons rfl (one_cons hs_v2 (one_cons hs_v3 (one_cons rfl (one_cons rfl (one_cons rfl (one_cons rfl (one_cons rfl (one_cons rfl (one_cons rfl (one_cons rfl (rfl)))))))))))))) (by rfl) ?_
  refine SP.nil ?_
  refine QE.then ?_
  refine CP.seq ?_
  refine CP.region ?_
  refine SP.val (Val.fieldAddr Try.underlying48 rfl sz41 rfl) rfl rfl rfl ?_
  refine SP.val (Val.fieldAddr Try.underlying41 rfl sz35 rfl) rfl rfl rfl ?_
  refine SP.store (v := .int .i64 4) (vs := [.int .i64 4]) 0 (by rfl) sz35 (by rfl) (by rfl) (by rfl) (by rfl) (by rfl) (by rfl) ?_
  refine SP.nil ?_
  refine QE.then ?_
  refine CP.seq ?_
  refine CP.region ?_
  refine SP.val (Val.fieldAddr Try.underlying48 rfl sz4 rfl) rfl rfl rfl ?_
  refine SP.store (v := .bool true) (vs := [.bool true]) 2 (by rfl) sz4 (by rfl) (by rfl) (by rfl) (by rfl) (by rfl) (by rfl) ?_
  refine SP.nil ?_
  refine QE.then ?_
  refine CP.seq ?_
  refine CP.region ?_
  refine SP.val (Val.loadA 4 rfl Try.underlying48 rfl sz48 rfl rfl rfl) rfl rfl rfl ?_
  refine SP.val (Val.loadA 2 rfl Try.underlying48 rfl sz48 rfl rfl rfl) rfl rfl rfl ?_
  obtain ⟨t26, hc, ho⟩ := bind_some ho
  refine SP.callV see (caps := []) (.bool t26) fn33 rfl rfl rfl rfl (fun w2 hP hs sub ap => history_Ahead.ok t1 (⟨t11.Proc, (⟨t11.Op.Kind, t11.Op.Method, t11.Op.Args, t11.Op.Bytes⟩ : api_Op), true, (⟨t11.Reply.Err, (⟨t11.Reply.Out.Trap, (⟨t11.Reply.Out.Result.Kind, t11.Reply.Out.Result.A, t11.Reply.Out.Result.B⟩ : api_Value)⟩ : api_Outcome)⟩ : api_Reply), t11.Start, t11.End⟩ : history_Call) _ _ _ _ _ hc w2 hP sub (ap.get 5 rfl) (ap.get 4 rfl) (ap.get 1 rfl) (ap.get 0 rfl)) ?_
  clear hc
  refine SP.val (Val.move rfl) rfl rfl rfl ?_
  obtain ⟨t30, hg_t30, ho⟩ := bind_some ho
  refine SP.join 5 (fun a w2 => Env ⟨82, []⟩ [(1, .pointer (some ⟨b16, 0, none⟩)), (2, .pointer (some ⟨b18, 0, none⟩)), (3, .pointer (some ⟨b20, 0, none⟩)), (4, v22), (5, .pointer (some ⟨b24, 0, none⟩)), (25, .bool t30)] a ∧ St w em hV [slP (kInt .u8) v13 t11.Op.Bytes, slP k_api_Value v12 t11.Op.Args, slP (kInt .u8) v8 t6.Op.Bytes, slP k_api_Value v7 t6.Op.Args, slP (kInt .u8) v3 t1.Op.Bytes, slP k_api_Value v2 t1.Op.Args] [boxO b24 [.int .i64 t1.Proc, .int .u8 t1.Op.Kind, .int .i64 t1.Op.Method, v2, v3, .bool t1.Read, .int .i64 4, .int .i64 t1.Reply.Out.Trap, .int .u8 t1.Reply.Out.Result.Kind, .int .i64 t1.Reply.Out.Result.A, .int .i64 t1.Reply.Out.Result.B, .int .i64 t1.Start, .int .i64 t1.End] 48, slO k_history_Call 48 v22 [t1, t6, t11], boxO b20 [.int .i64 t11.Proc, .int .u8 t11.Op.Kind, .int .i64 t11.Op.Method, v12, v13, .bool true, .int .i64 t11.Reply.Err, .int .i64 t11.Reply.Out.Trap, .int .u8 t11.Reply.Out.Result.Kind, .int .i64 t11.Reply.Out.Result.A, .int .i64 t11.Reply.Out.Result.B, .int .i64 t11.Start, .int .i64 t11.End] 48, boxO b18 [.int .i64 t6.Proc, .int .u8 t6.Op.Kind, .int .i64 t6.Op.Method, v7, v8, .bool t6.Read, .int .i64 t6.Reply.Err, .int .i64 t6.Reply.Out.Trap, .int .u8 t6.Reply.Out.Result.Kind, .int .i64 t6.Reply.Out.Result.A, .int .i64 t6.Reply.Out.Result.B, .int .i64 t6.Start, .int .i64 t6.End] 48, boxO b16 [.int .i64 t1.Proc, .int .u8 t1.Op.Kind, .int .i64 t1.Op.Method, v2, v3, .bool t1.Read, .int .i64 t1.Reply.Err, .int .i64 t1.Reply.Out.Trap, .int .u8 t1.Reply.Out.Result.Kind, .int .i64 t1.Reply.Out.Result.A, .int .i64 t1.Reply.Out.Result.B, .int .i64 t1.Start, .int .i64 t1.End] 48] w2) ?_ ?_
  · rintro a w2 ⟨ha, hw⟩
    refine SP.app ha hw ?_
    clear ha hw a w2 hg_t30
    refine SP.val (Val.move rfl) rfl rfl rfl ?_
    obtain ⟨t34, hg_t34, ho⟩ := bind_some ho
    refine SP.join 5 (fun a w2 => Env ⟨82, []⟩ [(1, .pointer (some ⟨b16, 0, none⟩)), (2, .pointer (some ⟨b18, 0, none⟩)), (3, .pointer (some ⟨b20, 0, none⟩)), (4, v22), (5, .pointer (some ⟨b24, 0, none⟩)), (31, .bool t34)] a ∧ St w em hV [slP (kInt .u8) v13 t11.Op.Bytes, slP k_api_Value v12 t11.Op.Args, slP (kInt .u8) v8 t6.Op.Bytes, slP k_api_Value v7 t6.Op.Args, slP (kInt .u8) v3 t1.Op.Bytes, slP k_api_Value v2 t1.Op.Args] [boxO b24 [.int .i64 t1.Proc, .int .u8 t1.Op.Kind, .int .i64 t1.Op.Method, v2, v3, .bool t1.Read, .int .i64 4, .int .i64 t1.Reply.Out.Trap, .int .u8 t1.Reply.Out.Result.Kind, .int .i64 t1.Reply.Out.Result.A, .int .i64 t1.Reply.Out.Result.B, .int .i64 t1.Start, .int .i64 t1.End] 48, slO k_history_Call 48 v22 [t1, t6, t11], boxO b20 [.int .i64 t11.Proc, .int .u8 t11.Op.Kind, .int .i64 t11.Op.Method, v12, v13, .bool true, .int .i64 t11.Reply.Err, .int .i64 t11.Reply.Out.Trap, .int .u8 t11.Reply.Out.Result.Kind, .int .i64 t11.Reply.Out.Result.A, .int .i64 t11.Reply.Out.Result.B, .int .i64 t11.Start, .int .i64 t11.End] 48, boxO b18 [.int .i64 t6.Proc, .int .u8 t6.Op.Kind, .int .i64 t6.Op.Method, v7, v8, .bool t6.Read, .int .i64 t6.Reply.Err, .int .i64 t6.Reply.Out.Trap, .int .u8 t6.Reply.Out.Result.Kind, .int .i64 t6.Reply.Out.Result.A, .int .i64 t6.Reply.Out.Result.B, .int .i64 t6.Start, .int .i64 t6.End] 48, boxO b16 [.int .i64 t1.Proc, .int .u8 t1.Op.Kind, .int .i64 t1.Op.Method, v2, v3, .bool t1.Read, .int .i64 t1.Reply.Err, .int .i64 t1.Reply.Out.Trap, .int .u8 t1.Reply.Out.Result.Kind, .int .i64 t1.Reply.Out.Result.A, .int .i64 t1.Reply.Out.Result.B, .int .i64 t1.Start, .int .i64 t1.End] 48] w2) ?_ ?_
    · rintro a w2 ⟨ha, hw⟩
      refine SP.app ha hw ?_
      clear ha hw a w2 hg_t34
      refine SP.val (Val.move rfl) rfl rfl rfl ?_
      obtain ⟨t38, hg_t38, ho⟩ := bind_some ho
      refine SP.join 4 (fun a w2 => Env ⟨82, []⟩ [(1, .pointer (some ⟨b16, 0, none⟩)), (2, .pointer (some ⟨b18, 0, none⟩)), (3, .pointer (some ⟨b20, 0, none⟩)), (4, v22), (5, .pointer (some ⟨b24, 0, none⟩)), (36, .bool t38)] a ∧ St w em hV [slP (kInt .u8) v13 t11.Op.Bytes, slP k_api_Value v12 t11.Op.Args, slP (kInt .u8) v8 t6.Op.Bytes, slP k_api_Value v7 t6.Op.Args, slP (kInt .u8) v3 t1.Op.Bytes, slP k_api_Value v2 t1.Op.Args] [boxO b24 [.int .i64 t1.Proc, .int .u8 t1.Op.Kind, .int .i64 t1.Op.Method, v2, v3, .bool t1.Read, .int .i64 4, .int .i64 t1.Reply.Out.Trap, .int .u8 t1.Reply.Out.Result.Kind, .int .i64 t1.Reply.Out.Result.A, .int .i64 t1.Reply.Out.Result.B, .int .i64 t1.Start, .int .i64 t1.End] 48, slO k_history_Call 48 v22 [t1, t6, t11], boxO b20 [.int .i64 t11.Proc, .int .u8 t11.Op.Kind, .int .i64 t11.Op.Method, v12, v13, .bool true, .int .i64 t11.Reply.Err, .int .i64 t11.Reply.Out.Trap, .int .u8 t11.Reply.Out.Result.Kind, .int .i64 t11.Reply.Out.Result.A, .int .i64 t11.Reply.Out.Result.B, .int .i64 t11.Start, .int .i64 t11.End] 48, boxO b18 [.int .i64 t6.Proc, .int .u8 t6.Op.Kind, .int .i64 t6.Op.Method, v7, v8, .bool t6.Read, .int .i64 t6.Reply.Err, .int .i64 t6.Reply.Out.Trap, .int .u8 t6.Reply.Out.Result.Kind, .int .i64 t6.Reply.Out.Result.A, .int .i64 t6.Reply.Out.Result.B, .int .i64 t6.Start, .int .i64 t6.End] 48, boxO b16 [.int .i64 t1.Proc, .int .u8 t1.Op.Kind, .int .i64 t1.Op.Method, v2, v3, .bool t1.Read, .int .i64 t1.Reply.Err, .int .i64 t1.Reply.Out.Trap, .int .u8 t1.Reply.Out.Result.Kind, .int .i64 t1.Reply.Out.Result.A, .int .i64 t1.Reply.Out.Result.B, .int .i64 t1.Start, .int .i64 t1.End] 48] w2) ?_ ?_
      · rintro a w2 ⟨ha, hw⟩
        refine SP.app ha hw ?_
        clear ha hw a w2 hg_t38
        refine SP.val (Val.move rfl) rfl rfl rfl ?_
        obtain ⟨t42, hg_t42, ho⟩ := bind_some ho
        refine SP.join 4 (fun a w2 => Env ⟨82, []⟩ [(1, .pointer (some ⟨b16, 0, none⟩)), (2, .pointer (some ⟨b18, 0, none⟩)), (3, .pointer (some ⟨b20, 0, none⟩)), (4, v22), (5, .pointer (some ⟨b24, 0, none⟩)), (41, .bool t42)] a ∧ St w em hV [slP (kInt .u8) v13 t11.Op.Bytes, slP k_api_Value v12 t11.Op.Args, slP (kInt .u8) v8 t6.Op.Bytes, slP k_api_Value v7 t6.Op.Args, slP (kInt .u8) v3 t1.Op.Bytes, slP k_api_Value v2 t1.Op.Args] [boxO b24 [.int .i64 t1.Proc, .int .u8 t1.Op.Kind, .int .i64 t1.Op.Method, v2, v3, .bool t1.Read, .int .i64 4, .int .i64 t1.Reply.Out.Trap, .int .u8 t1.Reply.Out.Result.Kind, .int .i64 t1.Reply.Out.Result.A, .int .i64 t1.Reply.Out.Result.B, .int .i64 t1.Start, .int .i64 t1.End] 48, slO k_history_Call 48 v22 [t1, t6, t11], boxO b20 [.int .i64 t11.Proc, .int .u8 t11.Op.Kind, .int .i64 t11.Op.Method, v12, v13, .bool true, .int .i64 t11.Reply.Err, .int .i64 t11.Reply.Out.Trap, .int .u8 t11.Reply.Out.Result.Kind, .int .i64 t11.Reply.Out.Result.A, .int .i64 t11.Reply.Out.Result.B, .int .i64 t11.Start, .int .i64 t11.End] 48, boxO b18 [.int .i64 t6.Proc, .int .u8 t6.Op.Kind, .int .i64 t6.Op.Method, v7, v8, .bool t6.Read, .int .i64 t6.Reply.Err, .int .i64 t6.Reply.Out.Trap, .int .u8 t6.Reply.Out.Result.Kind, .int .i64 t6.Reply.Out.Result.A, .int .i64 t6.Reply.Out.Result.B, .int .i64 t6.Start, .int .i64 t6.End] 48, boxO b16 [.int .i64 t1.Proc, .int .u8 t1.Op.Kind, .int .i64 t1.Op.Method, v2, v3, .bool t1.Read, .int .i64 t1.Reply.Err, .int .i64 t1.Reply.Out.Trap, .int .u8 t1.Reply.Out.Result.Kind, .int .i64 t1.Reply.Out.Result.A, .int .i64 t1.Reply.Out.Result.B, .int .i64 t1.Start, .int .i64 t1.End] 48] w2) ?_ ?_
        · rintro a w2 ⟨ha, hw⟩
          refine SP.app ha hw ?_
          clear ha hw a w2 hg_t42
          refine SP.val (Val.move rfl) rfl rfl rfl ?_
          obtain ⟨t46, hg_t46, ho⟩ := bind_some ho
          refine SP.join 3 (fun a w2 => Env ⟨82, []⟩ [(1, .pointer (some ⟨b16, 0, none⟩)), (2, .pointer (some ⟨b18, 0, none⟩)), (3, .pointer (some ⟨b20, 0, none⟩)), (5, .pointer (some ⟨b24, 0, none⟩)), (45, .bool t46)] a ∧ St w em hV [slP (kInt .u8) v13 t11.Op.Bytes, slP k_api_Value v12 t11.Op.Args, slP (kInt .u8) v8 t6.Op.Bytes, slP k_api_Value v7 t6.Op.Args, slP (kInt .u8) v3 t1.Op.Bytes, slP k_api_Value v2 t1.Op.Args] [boxO b24 [.int .i64 t1.Proc, .int .u8 t1.Op.Kind, .int .i64 t1.Op.Method, v2, v3, .bool t1.Read, .int .i64 4, .int .i64 t1.Reply.Out.Trap, .int .u8 t1.Reply.Out.Result.Kind, .int .i64 t1.Reply.Out.Result.A, .int .i64 t1.Reply.Out.Result.B, .int .i64 t1.Start, .int .i64 t1.End] 48, slO k_history_Call 48 v22 [t1, t6, t11], boxO b20 [.int .i64 t11.Proc, .int .u8 t11.Op.Kind, .int .i64 t11.Op.Method, v12, v13, .bool true, .int .i64 t11.Reply.Err, .int .i64 t11.Reply.Out.Trap, .int .u8 t11.Reply.Out.Result.Kind, .int .i64 t11.Reply.Out.Result.A, .int .i64 t11.Reply.Out.Result.B, .int .i64 t11.Start, .int .i64 t11.End] 48, boxO b18 [.int .i64 t6.Proc, .int .u8 t6.Op.Kind, .int .i64 t6.Op.Method, v7, v8, .bool t6.Read, .int .i64 t6.Reply.Err, .int .i64 t6.Reply.Out.Trap, .int .u8 t6.Reply.Out.Result.Kind, .int .i64 t6.Reply.Out.Result.A, .int .i64 t6.Reply.Out.Result.B, .int .i64 t6.Start, .int .i64 t6.End] 48, boxO b16 [.int .i64 t1.Proc, .int .u8 t1.Op.Kind, .int .i64 t1.Op.Method, v2, v3, .bool t1.Read, .int .i64 t1.Reply.Err, .int .i64 t1.Reply.Out.Trap, .int .u8 t1.Reply.Out.Result.Kind, .int .i64 t1.Reply.Out.Result.A, .int .i64 t1.Reply.Out.Result.B, .int .i64 t1.Start, .int .i64 t1.End] 48] w2) ?_ ?_
          · rintro a w2 ⟨ha, hw⟩
            refine SP.app ha hw ?_
            clear ha hw a w2 hg_t46
            refine SP.val (Val.move rfl) rfl rfl rfl ?_
            obtain ⟨t52, hg_t52, ho⟩ := bind_some ho
            refine SP.join 6 (fun a w2 => Env ⟨82, []⟩ [(1, .pointer (some ⟨b16, 0, none⟩)), (2, .pointer (some ⟨b18, 0, none⟩)), (3, .pointer (some ⟨b20, 0, none⟩)), (5, .pointer (some ⟨b24, 0, none⟩)), (52, .bool t52)] a ∧ St w em hV [slP (kInt .u8) v13 t11.Op.Bytes, slP k_api_Value v12 t11.Op.Args, slP (kInt .u8) v8 t6.Op.Bytes, slP k_api_Value v7 t6.Op.Args, slP (kInt .u8) v3 t1.Op.Bytes, slP k_api_Value v2 t1.Op.Args] [boxO b24 [.int .i64 t1.Proc, .int .u8 t1.Op.Kind, .int .i64 t1.Op.Method, v2, v3, .bool t1.Read, .int .i64 4, .int .i64 t1.Reply.Out.Trap, .int .u8 t1.Reply.Out.Result.Kind, .int .i64 t1.Reply.Out.Result.A, .int .i64 t1.Reply.Out.Result.B, .int .i64 t1.Start, .int .i64 t1.End] 48, slO k_history_Call 48 v22 [t1, t6, t11], boxO b20 [.int .i64 t11.Proc, .int .u8 t11.Op.Kind, .int .i64 t11.Op.Method, v12, v13, .bool true, .int .i64 t11.Reply.Err, .int .i64 t11.Reply.Out.Trap, .int .u8 t11.Reply.Out.Result.Kind, .int .i64 t11.Reply.Out.Result.A, .int .i64 t11.Reply.Out.Result.B, .int .i64 t11.Start, .int .i64 t11.End] 48, boxO b18 [.int .i64 t6.Proc, .int .u8 t6.Op.Kind, .int .i64 t6.Op.Method, v7, v8, .bool t6.Read, .int .i64 t6.Reply.Err, .int .i64 t6.Reply.Out.Trap, .int .u8 t6.Reply.Out.Result.Kind, .int .i64 t6.Reply.Out.Result.A, .int .i64 t6.Reply.Out.Result.B, .int .i64 t6.Start, .int .i64 t6.End] 48, boxO b16 [.int .i64 t1.Proc, .int .u8 t1.Op.Kind, .int .i64 t1.Op.Method, v2, v3, .bool t1.Read, .int .i64 t1.Reply.Err, .int .i64 t1.Reply.Out.Trap, .int .u8 t1.Reply.Out.Result.Kind, .int .i64 t1.Reply.Out.Result.A, .int .i64 t1.Reply.Out.Result.B, .int .i64 t1.Start, .int .i64 t1.End] 48] w2) ?_ ?_
            · rintro a w2 ⟨ha, hw⟩
              refine SP.app ha hw ?_
              clear ha hw a w2 hg_t52
              refine SP.val (Val.move rfl) rfl rfl rfl ?_
              obtain ⟨t58, hg_t58, ho⟩ := bind_some ho
              refine SP.join 6 (fun a w2 => Env ⟨82, []⟩ [(1, .pointer (some ⟨b16, 0, none⟩)), (2, .pointer (some ⟨b18, 0, none⟩)), (3, .pointer (some ⟨b20, 0, none⟩)), (5, .pointer (some ⟨b24, 0, none⟩)), (59, .bool t58)] a ∧ St w em hV [slP (kInt .u8) v13 t11.Op.Bytes, slP k_api_Value v12 t11.Op.Args, slP (kInt .u8) v8 t6.Op.Bytes, slP k_api_Value v7 t6.Op.Args, slP (kInt .u8) v3 t1.Op.Bytes, slP k_api_Value v2 t1.Op.Args] [boxO b24 [.int .i64 t1.Proc, .int .u8 t1.Op.Kind, .int .i64 t1.Op.Method, v2, v3, .bool t1.Read, .int .i64 4, .int .i64 t1.Reply.Out.Trap, .int .u8 t1.Reply.Out.Result.Kind, .int .i64 t1.Reply.Out.Result.A, .int .i64 t1.Reply.Out.Result.B, .int .i64 t1.Start, .int .i64 t1.End] 48, slO k_history_Call 48 v22 [t1, t6, t11], boxO b20 [.int .i64 t11.Proc, .int .u8 t11.Op.Kind, .int .i64 t11.Op.Method, v12, v13, .bool true, .int .i64 t11.Reply.Err, .int .i64 t11.Reply.Out.Trap, .int .u8 t11.Reply.Out.Result.Kind, .int .i64 t11.Reply.Out.Result.A, .int .i64 t11.Reply.Out.Result.B, .int .i64 t11.Start, .int .i64 t11.End] 48, boxO b18 [.int .i64 t6.Proc, .int .u8 t6.Op.Kind, .int .i64 t6.Op.Method, v7, v8, .bool t6.Read, .int .i64 t6.Reply.Err, .int .i64 t6.Reply.Out.Trap, .int .u8 t6.Reply.Out.Result.Kind, .int .i64 t6.Reply.Out.Result.A, .int .i64 t6.Reply.Out.Result.B, .int .i64 t6.Start, .int .i64 t6.End] 48, boxO b16 [.int .i64 t1.Proc, .int .u8 t1.Op.Kind, .int .i64 t1.Op.Method, v2, v3, .bool t1.Read, .int .i64 t1.Reply.Err, .int .i64 t1.Reply.Out.Trap, .int .u8 t1.Reply.Out.Result.Kind, .int .i64 t1.Reply.Out.Result.A, .int .i64 t1.Reply.Out.Result.B, .int .i64 t1.Start, .int .i64 t1.End] 48] w2) ?_ ?_
              · rintro a w2 ⟨ha, hw⟩
                refine SP.app ha hw ?_
                clear ha hw a w2 hg_t58
                refine SP.val (Val.move rfl) rfl rfl rfl ?_
                obtain ⟨t62, hg_t62, ho⟩ := bind_some ho
                refine SP.join 3 (fun a w2 => Env ⟨82, []⟩ [(1, .pointer (some ⟨b16, 0, none⟩)), (2, .pointer (some ⟨b18, 0, none⟩)), (3, .pointer (some ⟨b20, 0, none⟩)), (5, .pointer (some ⟨b24, 0, none⟩)), (63, .bool t62)] a ∧ St w em hV [slP (kInt .u8) v13 t11.Op.Bytes, slP k_api_Value v12 t11.Op.Args, slP (kInt .u8) v8 t6.Op.Bytes, slP k_api_Value v7 t6.Op.Args, slP (kInt .u8) v3 t1.Op.Bytes, slP k_api_Value v2 t1.Op.Args] [boxO b24 [.int .i64 t1.Proc, .int .u8 t1.Op.Kind, .int .i64 t1.Op.Method, v2, v3, .bool t1.Read, .int .i64 4, .int .i64 t1.Reply.Out.Trap, .int .u8 t1.Reply.Out.Result.Kind, .int .i64 t1.Reply.Out.Result.A, .int .i64 t1.Reply.Out.Result.B, .int .i64 t1.Start, .int .i64 t1.End] 48, slO k_history_Call 48 v22 [t1, t6, t11], boxO b20 [.int .i64 t11.Proc, .int .u8 t11.Op.Kind, .int .i64 t11.Op.Method, v12, v13, .bool true, .int .i64 t11.Reply.Err, .int .i64 t11.Reply.Out.Trap, .int .u8 t11.Reply.Out.Result.Kind, .int .i64 t11.Reply.Out.Result.A, .int .i64 t11.Reply.Out.Result.B, .int .i64 t11.Start, .int .i64 t11.End] 48, boxO b18 [.int .i64 t6.Proc, .int .u8 t6.Op.Kind, .int .i64 t6.Op.Method, v7, v8, .bool t6.Read, .int .i64 t6.Reply.Err, .int .i64 t6.Reply.Out.Trap, .int .u8 t6.Reply.Out.Result.Kind, .int .i64 t6.Reply.Out.Result.A, .int .i64 t6.Reply.Out.Result.B, .int .i64 t6.Start, .int .i64 t6.End] 48, boxO b16 [.int .i64 t1.Proc, .int .u8 t1.Op.Kind, .int .i64 t1.Op.Method, v2, v3, .bool t1.Read, .int .i64 t1.Reply.Err, .int .i64 t1.Reply.Out.Trap, .int .u8 t1.Reply.Out.Result.Kind, .int .i64 t1.Reply.Out.Result.A, .int .i64 t1.Reply.Out.Result.B, .int .i64 t1.Start, .int .i64 t1.End] 48] w2) ?_ ?_
                · rintro a w2 ⟨ha, hw⟩
                  refine SP.app ha hw ?_
                  clear ha hw a w2 hg_t62
                  refine SP.val (Val.move rfl) rfl rfl rfl ?_
                  obtain ⟨t66, hg_t66, ho⟩ := bind_some ho
                  refine SP.join 3 (fun a w2 => Env ⟨82, []⟩ [(1, .pointer (some ⟨b16, 0, none⟩)), (2, .pointer (some ⟨b18, 0, none⟩)), (3, .pointer (some ⟨b20, 0, none⟩)), (5, .pointer (some ⟨b24, 0, none⟩)), (67, .bool t66)] a ∧ St w em hV [slP (kInt .u8) v13 t11.Op.Bytes, slP k_api_Value v12 t11.Op.Args, slP (kInt .u8) v8 t6.Op.Bytes, slP k_api_Value v7 t6.Op.Args, slP (kInt .u8) v3 t1.Op.Bytes, slP k_api_Value v2 t1.Op.Args] [boxO b24 [.int .i64 t1.Proc, .int .u8 t1.Op.Kind, .int .i64 t1.Op.Method, v2, v3, .bool t1.Read, .int .i64 4, .int .i64 t1.Reply.Out.Trap, .int .u8 t1.Reply.Out.Result.Kind, .int .i64 t1.Reply.Out.Result.A, .int .i64 t1.Reply.Out.Result.B, .int .i64 t1.Start, .int .i64 t1.End] 48, slO k_history_Call 48 v22 [t1, t6, t11], boxO b20 [.int .i64 t11.Proc, .int .u8 t11.Op.Kind, .int .i64 t11.Op.Method, v12, v13, .bool true, .int .i64 t11.Reply.Err, .int .i64 t11.Reply.Out.Trap, .int .u8 t11.Reply.Out.Result.Kind, .int .i64 t11.Reply.Out.Result.A, .int .i64 t11.Reply.Out.Result.B, .int .i64 t11.Start, .int .i64 t11.End] 48, boxO b18 [.int .i64 t6.Proc, .int .u8 t6.Op.Kind, .int .i64 t6.Op.Method, v7, v8, .bool t6.Read, .int .i64 t6.Reply.Err, .int .i64 t6.Reply.Out.Trap, .int .u8 t6.Reply.Out.Result.Kind, .int .i64 t6.Reply.Out.Result.A, .int .i64 t6.Reply.Out.Result.B, .int .i64 t6.Start, .int .i64 t6.End] 48, boxO b16 [.int .i64 t1.Proc, .int .u8 t1.Op.Kind, .int .i64 t1.Op.Method, v2, v3, .bool t1.Read, .int .i64 t1.Reply.Err, .int .i64 t1.Reply.Out.Trap, .int .u8 t1.Reply.Out.Result.Kind, .int .i64 t1.Reply.Out.Result.A, .int .i64 t1.Reply.Out.Result.B, .int .i64 t1.Start, .int .i64 t1.End] 48] w2) ?_ ?_
                  · rintro a w2 ⟨ha, hw⟩
                    refine SP.app ha hw ?_
                    clear ha hw a w2 hg_t66
                    refine SP.val (Val.move rfl) rfl rfl rfl ?_
                    obtain ⟨t70, hg_t70, ho⟩ := bind_some ho
                    refine SP.join 4 (fun a w2 => Env ⟨82, []⟩ [(2, .pointer (some ⟨b18, 0, none⟩)), (3, .pointer (some ⟨b20, 0, none⟩)), (5, .pointer (some ⟨b24, 0, none⟩)), (72, .bool t70)] a ∧ St w em hV [slP (kInt .u8) v13 t11.Op.Bytes, slP k_api_Value v12 t11.Op.Args, slP (kInt .u8) v8 t6.Op.Bytes, slP k_api_Value v7 t6.Op.Args, slP (kInt .u8) v3 t1.Op.Bytes, slP k_api_Value v2 t1.Op.Args] [boxO b24 [.int .i64 t1.Proc, .int .u8 t1.Op.Kind, .int .i64 t1.Op.Method, v2, v3, .bool t1.Read, .int .i64 4, .int .i64 t1.Reply.Out.Trap, .int .u8 t1.Reply.Out.Result.Kind, .int .i64 t1.Reply.Out.Result.A, .int .i64 t1.Reply.Out.Result.B, .int .i64 t1.Start, .int .i64 t1.End] 48, slO k_history_Call 48 v22 [t1, t6, t11], boxO b20 [.int .i64 t11.Proc, .int .u8 t11.Op.Kind, .int .i64 t11.Op.Method, v12, v13, .bool true, .int .i64 t11.Reply.Err, .int .i64 t11.Reply.Out.Trap, .int .u8 t11.Reply.Out.Result.Kind, .int .i64 t11.Reply.Out.Result.A, .int .i64 t11.Reply.Out.Result.B, .int .i64 t11.Start, .int .i64 t11.End] 48, boxO b18 [.int .i64 t6.Proc, .int .u8 t6.Op.Kind, .int .i64 t6.Op.Method, v7, v8, .bool t6.Read, .int .i64 t6.Reply.Err, .int .i64 t6.Reply.Out.Trap, .int .u8 t6.Reply.Out.Result.Kind, .int .i64 t6.Reply.Out.Result.A, .int .i64 t6.Reply.Out.Result.B, .int .i64 t6.Start, .int .i64 t6.End] 48, boxO b16 [.int .i64 t1.Proc, .int .u8 t1.Op.Kind, .int .i64 t1.Op.Method, v2, v3, .bool t1.Read, .int .i64 t1.Reply.Err, .int .i64 t1.Reply.Out.Trap, .int .u8 t1.Reply.Out.Result.Kind, .int .i64 t1.Reply.Out.Result.A, .int .i64 t1.Reply.Out.Result.B, .int .i64 t1.Start, .int .i64 t1.End] 48] w2) ?_ ?_
                    · rintro a w2 ⟨ha, hw⟩
                      refine SP.app ha hw ?_
                      clear ha hw a w2 hg_t70
                      refine SP.val (Val.move rfl) rfl rfl rfl ?_
                      obtain ⟨t78, hg_t78, ho⟩ := bind_some ho
                      refine SP.join 8 (fun a w2 => Env ⟨82, []⟩ [(81, .bool t78)] a ∧ St w em hV [slP (kInt .u8) v13 t11.Op.Bytes, slP k_api_Value v12 t11.Op.Args, slP (kInt .u8) v8 t6.Op.Bytes, slP k_api_Value v7 t6.Op.Args, slP (kInt .u8) v3 t1.Op.Bytes, slP k_api_Value v2 t1.Op.Args] [boxO b24 [.int .i64 t1.Proc, .int .u8 t1.Op.Kind, .int .i64 t1.Op.Method, v2, v3, .bool t1.Read, .int .i64 4, .int .i64 t1.Reply.Out.Trap, .int .u8 t1.Reply.Out.Result.Kind, .int .i64 t1.Reply.Out.Result.A, .int .i64 t1.Reply.Out.Result.B, .int .i64 t1.Start, .int .i64 t1.End] 48, slO k_history_Call 48 v22 [t1, t6, t11], boxO b20 [.int .i64 t11.Proc, .int .u8 t11.Op.Kind, .int .i64 t11.Op.Method, v12, v13, .bool true, .int .i64 t11.Reply.Err, .int .i64 t11.Reply.Out.Trap, .int .u8 t11.Reply.Out.Result.Kind, .int .i64 t11.Reply.Out.Result.A, .int .i64 t11.Reply.Out.Result.B, .int .i64 t11.Start, .int .i64 t11.End] 48, boxO b18 [.int .i64 t6.Proc, .int .u8 t6.Op.Kind, .int .i64 t6.Op.Method, v7, v8, .bool t6.Read, .int .i64 t6.Reply.Err, .int .i64 t6.Reply.Out.Trap, .int .u8 t6.Reply.Out.Result.Kind, .int .i64 t6.Reply.Out.Result.A, .int .i64 t6.Reply.Out.Result.B, .int .i64 t6.Start, .int .i64 t6.End] 48, boxO b16 [.int .i64 t1.Proc, .int .u8 t1.Op.Kind, .int .i64 t1.Op.Method, v2, v3, .bool t1.Read, .int .i64 t1.Reply.Err, .int .i64 t1.Reply.Out.Trap, .int .u8 t1.Reply.Out.Result.Kind, .int .i64 t1.Reply.Out.Result.A, .int .i64 t1.Reply.Out.Result.B, .int .i64 t1.Start, .int .i64 t1.End] 48] w2) ?_ ?_
                      · rintro a w2 ⟨ha, hw⟩
                        refine SP.app ha hw ?_
                        clear ha hw a w2 hg_t78
                        refine SP.val (Val.assign rfl) rfl rfl rfl ?_
                        refine SP.nil ?_
                        refine QE.then ?_
                        refine CP.ret ?_
                        obtain rfl := Option.some.inj ho
                        exact QE.rets (rs := [.tmp 0]) (vs := [.bool t78]) Try.results37 rfl ⟨RVs.tmp rfl, trivial⟩ (fun w2 h => St.done (fun a b p s => rfl) h)
                      · intro J
                        clear ho
                        have ho := hg_t78
                        clear hg_t78
                        rcases if_some ho with ⟨hc, ho⟩ | ⟨hc, ho⟩
                        · have hq72 := hc
                          refine SP.isT (d := 73) rfl hq72 ?_
                          refine SP.val (Val.loadA 0 rfl Try.underlying48 rfl sz48 rfl rfl rfl) rfl rfl rfl ?_
                          refine SP.val (Val.loadA 3 rfl Try.underlying48 rfl sz48 rfl rfl rfl) rfl rfl rfl ?_
                          refine SP.val (Val.loadA 2 rfl Try.underlying48 rfl sz48 rfl rfl rfl) rfl rfl rfl ?_
                          refine SP.lit (k := k_history_Call) (xs := [(⟨t1.Proc, (⟨t1.Op.Kind, t1.Op.Method, t1.Op.Args, t1.Op.Bytes⟩ : api_Op), t1.Read, (⟨4, (⟨t1.Reply.Out.Trap, (⟨t1.Reply.Out.Result.Kind, t1.Reply.Out.Result.A, t1.Reply.Out.Result.B⟩ : api_Value)⟩ : api_Outcome)⟩ : api_Reply), t1.Start, t1.End⟩ : history_Call), t6, (⟨t11.Proc, (⟨t11.Op.Kind, t11.Op.Method, t11.Op.Args, t11.Op.Bytes⟩ : api_Op), true, (⟨t11.Reply.Err, (⟨t11.Reply.Out.Trap, (⟨t11.Reply.Out.Result.Kind, t11.Reply.Out.Result.A, t11.Reply.Out.Result.B⟩ : api_Value)⟩ : api_Outcome)⟩ : api_Reply), t11.Start, t11.End⟩ : history_Call)]) (vs := [.agg #[.int .i64 t1.Proc, .int .u8 t1.Op.Kind, .int .i64 t1.Op.Method, v2, v3, .bool t1.Read, .int .i64 4, .int .i64 t1.Reply.Out.Trap, .int .u8 t1.Reply.Out.Result.Kind, .int .i64 t1.Reply.Out.Result.A, .int .i64 t1.Reply.Out.Result.B, .int .i64 t1.Start, .int .i64 t1.End], .agg #[.int .i64 t6.Proc, .int .u8 t6.Op.Kind, .int .i64 t6.Op.Method, v7, v8, .bool t6.Read, .int .i64 t6.Reply.Err, .int .i64 t6.Reply.Out.Trap, .int .u8 t6.Reply.Out.Result.Kind, .int .i64 t6.Reply.Out.Result.A, .int .i64 t6.Reply.Out.Result.B, .int .i64 t6.Start, .int .i64 t6.End], .agg #[.int .i64 t11.Proc, .int .u8 t11.Op.Kind, .int .i64 t11.Op.Method, v12, v13, .bool true, .int .i64 t11.Reply.Err, .int .i64 t11.Reply.Out.Trap, .int .u8 t11.Reply.Out.Result.Kind, .int .i64 t11.Reply.Out.Result.A, .int .i64 t11.Reply.Out.Result.B, .int .i64 t11.Start, .int .i64 t11.End]]) (cells := [.int .i64 t1.Proc, .int .u8 t1.Op.Kind, .int .i64 t1.Op.Method, v2, v3, .bool t1.Read, .int .i64 4, .int .i64 t1.Reply.Out.Trap, .int .u8 t1.Reply.Out.Result.Kind, .int .i64 t1.Reply.Out.Result.A, .int .i64 t1.Reply.Out.Result.B, .int .i64 t1.Start, .int .i64 t1.End, .int .i64 t6.Proc, .int .u8 t6.Op.Kind, .int .i64 t6.Op.Method, v7, v8, .bool t6.Read, .int .i64 t6.Reply.Err, .int .i64 t6.Reply.Out.Trap, .int .u8 t6.Reply.Out.Result.Kind, .int .i64 t6.Reply.Out.Result.A, .int .i64 t6.Reply.Out.Result.B, .int .i64 t6.Start, .int .i64 t6.End, .int .i64 t11.Proc, .int .u8 t11.Op.Kind, .int .i64 t11.Op.Method, v12, v13, .bool true, .int .i64 t11.Reply.Err, .int .i64 t11.Reply.Out.Trap, .int .u8 t11.Reply.Out.Result.Kind, .int .i64 t11.Reply.Out.Result.A, .int .i64 t11.Reply.Out.Result.B, .int .i64 t11.Start, .int .i64 t11.End]) Try.underlying44 inf48 rfl rfl rfl rfl rfl rfl rfl rfl (fun _ ap => ⟨[.int .i64 t1.Proc, .int .u8 t1.Op.Kind, .int .i64 t1.Op.Method, v2, v3, .bool t1.Read, .int .i64 4, .int .i64 t1.Reply.Out.Trap, .int .u8 t1.Reply.Out.Result.Kind, .int .i64 t1.Reply.Out.Result.A, .int .i64 t1.Reply.Out.Result.B, .int .i64 t1.Start, .int .i64 t1.End], _, rfl, ⟨_, _, rfl, ap.get 5 rfl, ap.get 4 rfl⟩, ⟨[.int .i64 t6.Proc, .int .u8 t6.Op.Kind, .int .i64 t6.Op.Method, v7, v8, .bool t6.Read, .int .i64 t6.Reply.Err, .int .i64 t6.Reply.Out.Trap, .int .u8 t6.Reply.Out.Result.Kind, .int .i64 t6.Reply.Out.Result.A, .int .i64 t6.Reply.Out.Result.B, .int .i64 t6.Start, .int .i64 t6.End], _, rfl, ⟨_, _, rfl, ap.get 3 rfl, ap.get 2 rfl⟩, ⟨[.int .i64 t11.Proc, .int .u8 t11.Op.Kind, .int .i64 t11.Op.Method, v12, v13, .bool true, .int .i64 t11.Reply.Err, .int .i64 t11.Reply.Out.Trap, .int .u8 t11.Reply.Out.Result.Kind, .int .i64 t11.Reply.Out.Result.A, .int .i64 t11.Reply.Out.Result.B, .int .i64 t11.Start, .int .i64 t11.End], _, rfl, ⟨_, _, rfl, ap.get 1 rfl, ap.get 0 rfl⟩, rfl⟩⟩⟩) rfl rfl rfl (fun v73 => ?_)
                          refine SP.freezeS see 0 rfl ?_
                          obtain ⟨t75, hc, ho⟩ := bind_some ho
                          refine SP.callK see (caps := []) _ fn36 rfl rfl rfl rfl (fun w2 hP hs sub ap => history_Some.ok [(⟨t1.Proc, (⟨t1.Op.Kind, t1.Op.Method, t1.Op.Args, t1.Op.Bytes⟩ : api_Op), t1.Read, (⟨4, (⟨t1.Reply.Out.Trap, (⟨t1.Reply.Out.Result.Kind, t1.Reply.Out.Result.A, t1.Reply.Out.Result.B⟩ : api_Value)⟩ : api_Outcome)⟩ : api_Reply), t1.Start, t1.End⟩ : history_Call), t6, (⟨t11.Proc, (⟨t11.Op.Kind, t11.Op.Method, t11.Op.Args, t11.Op.Bytes⟩ : api_Op), true, (⟨t11.Reply.Err, (⟨t11.Reply.Out.Trap, (⟨t11.Reply.Out.Result.Kind, t11.Reply.Out.Result.A, t11.Reply.Out.Result.B⟩ : api_Value)⟩ : api_Outcome)⟩ : api_Reply), t11.Start, t11.End⟩ : history_Call)] _ _ hc w2 hP sub (ap.get 0 rfl)) (fun vr => ?_)
                          refine SP.ex (fun w2 h => St.open h) (fun v76 => ?_)
                          refine SP.have (fun w2 h => (St.pand h).1.symm) (fun er => ?_)
                          subst er
                          refine SP.imp (fun w2 h => St.seps (St.pand h).2) ?_
                          clear hc
                          refine SP.val (Val.lenW (fun w2 hw => slD.flat (St.own 0 rfl see.sub see.dj hw) (Sub.refl _) (Sub.refl _)) Try.underlying44 rfl) rfl rfl rfl ?_
                          refine SP.val (Val.eql rfl rfl) rfl rfl rfl ?_
                          refine SP.val (Val.pickT rfl rfl) rfl rfl rfl ?_
                          obtain rfl := Option.some.inj ho
                          exact J fun a w2 ha hw => ⟨ha.sub ⟨rfl, trivial⟩, (St.selP [1, 2, 3, 4, 5, 6] rfl (St.selO [1, 2, 3, 4, 5] rfl rfl hw))⟩
                        · have hq72 := (bf hc)
                          refine SP.isF (d := 73) rfl hq72 ?_
                          refine SP.not rfl rfl rfl ?_
                          refine SP.not rfl rfl rfl ?_
                          refine SP.not rfl rfl rfl ?_
                          refine SP.not rfl rfl rfl ?_
                          refine SP.not rfl rfl rfl ?_
                          refine SP.not rfl rfl rfl ?_
                          refine SP.not rfl rfl rfl ?_
                          refine SP.val (Val.pickF rfl rfl) rfl rfl rfl ?_
                          obtain rfl := Option.some.inj ho
                          exact J fun a w2 ha hw => ⟨ha.sub ⟨rfl, trivial⟩, hw⟩
                    · intro J
                      clear ho
                      have ho := hg_t70
                      clear hg_t70
                      rcases if_some ho with ⟨hc, ho⟩ | ⟨hc, ho⟩
                      · have hq68 := hc
                        refine SP.isT (d := 68) rfl hq68 ?_
                        refine SP.val (Val.loadA 4 rfl Try.underlying48 rfl sz48 rfl rfl rfl) rfl rfl rfl ?_
                        obtain ⟨t69, hc, ho⟩ := bind_some ho
                        refine SP.callV see (caps := []) (.bool t69) fn31 rfl rfl rfl rfl (fun w2 hP hs sub ap => history_Nothing.ok t1 _ _ _ hc w2 hP sub (ap.get 5 rfl) (ap.get 4 rfl)) ?_
                        clear hc
                        refine SP.val (Val.notB rfl) rfl rfl rfl ?_
                        refine SP.val (Val.pickT rfl rfl) rfl rfl rfl ?_
                        obtain rfl := Option.some.inj ho
                        exact J fun a w2 ha hw => ⟨ha.sub ⟨rfl, rfl, rfl, rfl, trivial⟩, hw⟩
                      · have hq68 := (bf hc)
                        refine SP.isF (d := 68) rfl hq68 ?_
                        refine SP.not rfl rfl rfl ?_
                        refine SP.not rfl rfl rfl ?_
                        refine SP.not rfl rfl rfl ?_
                        refine SP.val (Val.pickF rfl rfl) rfl rfl rfl ?_
                        obtain rfl := Option.some.inj ho
                        exact J fun a w2 ha hw => ⟨ha.sub ⟨rfl, rfl, rfl, rfl, trivial⟩, hw⟩
                  · intro J
                    clear ho
                    have ho := hg_t66
                    clear hg_t66
                    rcases if_some ho with ⟨hc, ho⟩ | ⟨hc, ho⟩
                    · have hq64 := hc
                      refine SP.isT (d := 64) rfl hq64 ?_
                      refine SP.val (Val.loadA 2 rfl Try.underlying48 rfl sz48 rfl rfl rfl) rfl rfl rfl ?_
                      obtain ⟨t65, hc, ho⟩ := bind_some ho
                      refine SP.callV see (caps := []) (.bool t65) fn31 rfl rfl rfl rfl (fun w2 hP hs sub ap => history_Nothing.ok (⟨t11.Proc, (⟨t11.Op.Kind, t11.Op.Method, t11.Op.Args, t11.Op.Bytes⟩ : api_Op), true, (⟨t11.Reply.Err, (⟨t11.Reply.Out.Trap, (⟨t11.Reply.Out.Result.Kind, t11.Reply.Out.Result.A, t11.Reply.Out.Result.B⟩ : api_Value)⟩ : api_Outcome)⟩ : api_Reply), t11.Start, t11.End⟩ : history_Call) _ _ _ hc w2 hP sub (ap.get 1 rfl) (ap.get 0 rfl)) ?_
                      clear hc
                      refine SP.val (Val.pickT rfl rfl) rfl rfl rfl ?_
                      obtain rfl := Option.some.inj ho
                      exact J fun a w2 ha hw => ⟨ha.sub ⟨rfl, rfl, rfl, rfl, rfl, trivial⟩, hw⟩
                    · have hq64 := (bf hc)
                      refine SP.isF (d := 64) rfl hq64 ?_
                      refine SP.not rfl rfl rfl ?_
                      refine SP.not rfl rfl rfl ?_
                      refine SP.val (Val.pickF rfl rfl) rfl rfl rfl ?_
                      obtain rfl := Option.some.inj ho
                      exact J fun a w2 ha hw => ⟨ha.sub ⟨rfl, rfl, rfl, rfl, rfl, trivial⟩, hw⟩
                · intro J
                  clear ho
                  have ho := hg_t62
                  clear hg_t62
                  rcases if_some ho with ⟨hc, ho⟩ | ⟨hc, ho⟩
                  · have hq60 := hc
                    refine SP.isT (d := 60) rfl hq60 ?_
                    refine SP.val (Val.loadA 0 rfl Try.underlying48 rfl sz48 rfl rfl rfl) rfl rfl rfl ?_
                    obtain ⟨t61, hc, ho⟩ := bind_some ho
                    refine SP.callV see (caps := []) (.bool t61) fn31 rfl rfl rfl rfl (fun w2 hP hs sub ap => history_Nothing.ok (⟨t1.Proc, (⟨t1.Op.Kind, t1.Op.Method, t1.Op.Args, t1.Op.Bytes⟩ : api_Op), t1.Read, (⟨4, (⟨t1.Reply.Out.Trap, (⟨t1.Reply.Out.Result.Kind, t1.Reply.Out.Result.A, t1.Reply.Out.Result.B⟩ : api_Value)⟩ : api_Outcome)⟩ : api_Reply), t1.Start, t1.End⟩ : history_Call) _ _ _ hc w2 hP sub (ap.get 5 rfl) (ap.get 4 rfl)) ?_
                    clear hc
                    refine SP.val (Val.pickT rfl rfl) rfl rfl rfl ?_
                    obtain rfl := Option.some.inj ho
                    exact J fun a w2 ha hw => ⟨ha.sub ⟨rfl, rfl, rfl, rfl, rfl, trivial⟩, hw⟩
                  · have hq60 := (bf hc)
                    refine SP.isF (d := 60) rfl hq60 ?_
                    refine SP.not rfl rfl rfl ?_
                    refine SP.not rfl rfl rfl ?_
                    refine SP.val (Val.pickF rfl rfl) rfl rfl rfl ?_
                    obtain rfl := Option.some.inj ho
                    exact J fun a w2 ha hw => ⟨ha.sub ⟨rfl, rfl, rfl, rfl, rfl, trivial⟩, hw⟩
              · intro J
                clear ho
                have ho := hg_t58
                clear hg_t58
                rcases if_some ho with ⟨hc, ho⟩ | ⟨hc, ho⟩
                · have hq54 := hc
                  refine SP.isT (d := 53) rfl hq54 ?_
                  refine SP.val (Val.loadA 4 rfl Try.underlying48 rfl sz48 rfl rfl rfl) rfl rfl rfl ?_
                  refine SP.val (Val.loadA 4 rfl Try.underlying48 rfl sz48 rfl rfl rfl) rfl rfl rfl ?_
                  refine SP.lit (k := k_history_Call) (xs := [t1, t1]) (vs := [.agg #[.int .i64 t1.Proc, .int .u8 t1.Op.Kind, .int .i64 t1.Op.Method, v2, v3, .bool t1.Read, .int .i64 t1.Reply.Err, .int .i64 t1.Reply.Out.Trap, .int .u8 t1.Reply.Out.Result.Kind, .int .i64 t1.Reply.Out.Result.A, .int .i64 t1.Reply.Out.Result.B, .int .i64 t1.Start, .int .i64 t1.End], .agg #[.int .i64 t1.Proc, .int .u8 t1.Op.Kind, .int .i64 t1.Op.Method, v2, v3, .bool t1.Read, .int .i64 t1.Reply.Err, .int .i64 t1.Reply.Out.Trap, .int .u8 t1.Reply.Out.Result.Kind, .int .i64 t1.Reply.Out.Result.A, .int .i64 t1.Reply.Out.Result.B, .int .i64 t1.Start, .int .i64 t1.End]]) (cells := [.int .i64 t1.Proc, .int .u8 t1.Op.Kind, .int .i64 t1.Op.Method, v2, v3, .bool t1.Read, .int .i64 t1.Reply.Err, .int .i64 t1.Reply.Out.Trap, .int .u8 t1.Reply.Out.Result.Kind, .int .i64 t1.Reply.Out.Result.A, .int .i64 t1.Reply.Out.Result.B, .int .i64 t1.Start, .int .i64 t1.End, .int .i64 t1.Proc, .int .u8 t1.Op.Kind, .int .i64 t1.Op.Method, v2, v3, .bool t1.Read, .int .i64 t1.Reply.Err, .int .i64 t1.Reply.Out.Trap, .int .u8 t1.Reply.Out.Result.Kind, .int .i64 t1.Reply.Out.Result.A, .int .i64 t1.Reply.Out.Result.B, .int .i64 t1.Start, .int .i64 t1.End]) Try.underlying44 inf48 rfl rfl rfl rfl rfl rfl rfl rfl (fun _ ap => ⟨[.int .i64 t1.Proc, .int .u8 t1.Op.Kind, .int .i64 t1.Op.Method, v2, v3, .bool t1.Read, .int .i64 t1.Reply.Err, .int .i64 t1.Reply.Out.Trap, .int .u8 t1.Reply.Out.Result.Kind, .int .i64 t1.Reply.Out.Result.A, .int .i64 t1.Reply.Out.Result.B, .int .i64 t1.Start, .int .i64 t1.End], _, rfl, ⟨_, _, rfl, ap.get 5 rfl, ap.get 4 rfl⟩, ⟨[.int .i64 t1.Proc, .int .u8 t1.Op.Kind, .int .i64 t1.Op.Method, v2, v3, .bool t1.Read, .int .i64 t1.Reply.Err, .int .i64 t1.Reply.Out.Trap, .int .u8 t1.Reply.Out.Result.Kind, .int .i64 t1.Reply.Out.Result.A, .int .i64 t1.Reply.Out.Result.B, .int .i64 t1.Start, .int .i64 t1.End], _, rfl, ⟨_, _, rfl, ap.get 5 rfl, ap.get 4 rfl⟩, rfl⟩⟩) rfl rfl rfl (fun v55 => ?_)
                  obtain ⟨t57, hc, ho⟩ := bind_some ho
                  refine SP.callVO see (caps := []) (.bool t57) fn25 rfl rfl rfl rfl (fun w2 hs => history_May.ok [t1, t1] _ _ hc w2 (hp w2) (Sub.refl _) (slO.read (St.own 0 rfl see.sub see.dj hs) (Sub.refl _) (Sub.refl _))) ?_
                  clear hc
                  refine SP.val (Val.notB rfl) rfl rfl rfl ?_
                  refine SP.val (Val.pickT rfl rfl) rfl rfl rfl ?_
                  obtain rfl := Option.some.inj ho
                  exact J fun a w2 ha hw => ⟨ha.sub ⟨rfl, rfl, rfl, rfl, rfl, trivial⟩, (St.selO [1, 2, 3, 4, 5] rfl rfl hw)⟩
                · have hq54 := (bf hc)
                  refine SP.isF (d := 53) rfl hq54 ?_
                  refine SP.not rfl rfl rfl ?_
                  refine SP.not rfl rfl rfl ?_
                  refine SP.not rfl rfl rfl ?_
                  refine SP.not rfl rfl rfl ?_
                  refine SP.not rfl rfl rfl ?_
                  refine SP.val (Val.pickF rfl rfl) rfl rfl rfl ?_
                  obtain rfl := Option.some.inj ho
                  exact J fun a w2 ha hw => ⟨ha.sub ⟨rfl, rfl, rfl, rfl, rfl, trivial⟩, hw⟩
            · intro J
              clear ho
              have ho := hg_t52
              clear hg_t52
              rcases if_some ho with ⟨hc, ho⟩ | ⟨hc, ho⟩
              · have hq48 := hc
                refine SP.isT (d := 46) rfl hq48 ?_
                refine SP.val (Val.loadA 3 rfl Try.underlying48 rfl sz48 rfl rfl rfl) rfl rfl rfl ?_
                refine SP.val (Val.loadA 4 rfl Try.underlying48 rfl sz48 rfl rfl rfl) rfl rfl rfl ?_
                refine SP.lit (k := k_history_Call) (xs := [t6, t1]) (vs := [.agg #[.int .i64 t6.Proc, .int .u8 t6.Op.Kind, .int .i64 t6.Op.Method, v7, v8, .bool t6.Read, .int .i64 t6.Reply.Err, .int .i64 t6.Reply.Out.Trap, .int .u8 t6.Reply.Out.Result.Kind, .int .i64 t6.Reply.Out.Result.A, .int .i64 t6.Reply.Out.Result.B, .int .i64 t6.Start, .int .i64 t6.End], .agg #[.int .i64 t1.Proc, .int .u8 t1.Op.Kind, .int .i64 t1.Op.Method, v2, v3, .bool t1.Read, .int .i64 t1.Reply.Err, .int .i64 t1.Reply.Out.Trap, .int .u8 t1.Reply.Out.Result.Kind, .int .i64 t1.Reply.Out.Result.A, .int .i64 t1.Reply.Out.Result.B, .int .i64 t1.Start, .int .i64 t1.End]]) (cells := [.int .i64 t6.Proc, .int .u8 t6.Op.Kind, .int .i64 t6.Op.Method, v7, v8, .bool t6.Read, .int .i64 t6.Reply.Err, .int .i64 t6.Reply.Out.Trap, .int .u8 t6.Reply.Out.Result.Kind, .int .i64 t6.Reply.Out.Result.A, .int .i64 t6.Reply.Out.Result.B, .int .i64 t6.Start, .int .i64 t6.End, .int .i64 t1.Proc, .int .u8 t1.Op.Kind, .int .i64 t1.Op.Method, v2, v3, .bool t1.Read, .int .i64 t1.Reply.Err, .int .i64 t1.Reply.Out.Trap, .int .u8 t1.Reply.Out.Result.Kind, .int .i64 t1.Reply.Out.Result.A, .int .i64 t1.Reply.Out.Result.B, .int .i64 t1.Start, .int .i64 t1.End]) Try.underlying44 inf48 rfl rfl rfl rfl rfl rfl rfl rfl (fun _ ap => ⟨[.int .i64 t6.Proc, .int .u8 t6.Op.Kind, .int .i64 t6.Op.Method, v7, v8, .bool t6.Read, .int .i64 t6.Reply.Err, .int .i64 t6.Reply.Out.Trap, .int .u8 t6.Reply.Out.Result.Kind, .int .i64 t6.Reply.Out.Result.A, .int .i64 t6.Reply.Out.Result.B, .int .i64 t6.Start, .int .i64 t6.End], _, rfl, ⟨_, _, rfl, ap.get 3 rfl, ap.get 2 rfl⟩, ⟨[.int .i64 t1.Proc, .int .u8 t1.Op.Kind, .int .i64 t1.Op.Method, v2, v3, .bool t1.Read, .int .i64 t1.Reply.Err, .int .i64 t1.Reply.Out.Trap, .int .u8 t1.Reply.Out.Result.Kind, .int .i64 t1.Reply.Out.Result.A, .int .i64 t1.Reply.Out.Result.B, .int .i64 t1.Start, .int .i64 t1.End], _, rfl, ⟨_, _, rfl, ap.get 5 rfl, ap.get 4 rfl⟩, rfl⟩⟩) rfl rfl rfl (fun v49 => ?_)
                obtain ⟨t51, hc, ho⟩ := bind_some ho
                refine SP.callVO see (caps := []) (.bool t51) fn25 rfl rfl rfl rfl (fun w2 hs => history_May.ok [t6, t1] _ _ hc w2 (hp w2) (Sub.refl _) (slO.read (St.own 0 rfl see.sub see.dj hs) (Sub.refl _) (Sub.refl _))) ?_
                clear hc
                refine SP.val (Val.notB rfl) rfl rfl rfl ?_
                refine SP.val (Val.pickT rfl rfl) rfl rfl rfl ?_
                obtain rfl := Option.some.inj ho
                exact J fun a w2 ha hw => ⟨ha.sub ⟨rfl, rfl, rfl, rfl, rfl, trivial⟩, (St.selO [1, 2, 3, 4, 5] rfl rfl hw)⟩
              · have hq48 := (bf hc)
                refine SP.isF (d := 46) rfl hq48 ?_
                refine SP.not rfl rfl rfl ?_
                refine SP.not rfl rfl rfl ?_
                refine SP.not rfl rfl rfl ?_
                refine SP.not rfl rfl rfl ?_
                refine SP.not rfl rfl rfl ?_
                refine SP.val (Val.pickF rfl rfl) rfl rfl rfl ?_
                obtain rfl := Option.some.inj ho
                exact J fun a w2 ha hw => ⟨ha.sub ⟨rfl, rfl, rfl, rfl, rfl, trivial⟩, hw⟩
          · intro J
            clear ho
            have ho := hg_t46
            clear hg_t46
            rcases if_some ho with ⟨hc, ho⟩ | ⟨hc, ho⟩
            · have hq44 := hc
              refine SP.isT (d := 42) rfl hq44 ?_
              refine SP.val (Val.move rfl) rfl rfl rfl ?_
              obtain ⟨t45, hc, ho⟩ := bind_some ho
              refine SP.callVO see (caps := []) (.bool t45) fn25 rfl rfl rfl rfl (fun w2 hs => history_May.ok [t1, t6, t11] _ _ hc w2 (hp w2) (Sub.refl _) (slO.read (St.own 1 rfl see.sub see.dj hs) (Sub.refl _) (Sub.refl _))) ?_
              clear hc
              refine SP.val (Val.pickT rfl rfl) rfl rfl rfl ?_
              obtain rfl := Option.some.inj ho
              exact J fun a w2 ha hw => ⟨ha.sub ⟨rfl, rfl, rfl, rfl, rfl, trivial⟩, hw⟩
            · have hq44 := (bf hc)
              refine SP.isF (d := 42) rfl hq44 ?_
              refine SP.not rfl rfl rfl ?_
              refine SP.not rfl rfl rfl ?_
              refine SP.val (Val.pickF rfl rfl) rfl rfl rfl ?_
              obtain rfl := Option.some.inj ho
              exact J fun a w2 ha hw => ⟨ha.sub ⟨rfl, rfl, rfl, rfl, rfl, trivial⟩, hw⟩
        · intro J
          clear ho
          have ho := hg_t42
          clear hg_t42
          rcases if_some ho with ⟨hc, ho⟩ | ⟨hc, ho⟩
          · have hq40 := hc
            refine SP.isT (d := 37) rfl hq40 ?_
            refine SP.val (Val.move rfl) rfl rfl rfl ?_
            obtain ⟨t41, hc, ho⟩ := bind_some ho
            refine SP.callVO see (caps := []) (.int .i64 t41) fn27 rfl rfl rfl rfl (fun w2 hs => history_Pending.ok [t1, t6, t11] _ _ hc w2 (hp w2) (Sub.refl _) (slO.read (St.own 1 rfl see.sub see.dj hs) (Sub.refl _) (Sub.refl _))) ?_
            clear hc
            refine SP.val (Val.eql rfl rfl) rfl rfl rfl ?_
            refine SP.val (Val.pickT rfl rfl) rfl rfl rfl ?_
            obtain rfl := Option.some.inj ho
            exact J fun a w2 ha hw => ⟨ha.sub ⟨rfl, rfl, rfl, rfl, rfl, rfl, trivial⟩, hw⟩
          · have hq40 := (bf hc)
            refine SP.isF (d := 37) rfl hq40 ?_
            refine SP.not rfl rfl rfl ?_
            refine SP.not rfl rfl rfl ?_
            refine SP.not rfl rfl rfl ?_
            refine SP.val (Val.pickF rfl rfl) rfl rfl rfl ?_
            obtain rfl := Option.some.inj ho
            exact J fun a w2 ha hw => ⟨ha.sub ⟨rfl, rfl, rfl, rfl, rfl, rfl, trivial⟩, hw⟩
      · intro J
        clear ho
        have ho := hg_t38
        clear hg_t38
        rcases if_some ho with ⟨hc, ho⟩ | ⟨hc, ho⟩
        · have hq36 := hc
          refine SP.isT (d := 32) rfl hq36 ?_
          refine SP.val (Val.move rfl) rfl rfl rfl ?_
          obtain ⟨t37, hc, ho⟩ := bind_some ho
          refine SP.callVO see (caps := []) (.int .i64 t37) fn29 rfl rfl rfl rfl (fun w2 hs => history_Width.ok [t1, t6, t11] _ _ hc w2 (hp w2) (Sub.refl _) (slO.read (St.own 1 rfl see.sub see.dj hs) (Sub.refl _) (Sub.refl _))) ?_
          clear hc
          refine SP.val (Val.eql rfl rfl) rfl rfl rfl ?_
          refine SP.val (Val.pickT rfl rfl) rfl rfl rfl ?_
          obtain rfl := Option.some.inj ho
          exact J fun a w2 ha hw => ⟨ha.sub ⟨rfl, rfl, rfl, rfl, rfl, rfl, trivial⟩, hw⟩
        · have hq36 := (bf hc)
          refine SP.isF (d := 32) rfl hq36 ?_
          refine SP.not rfl rfl rfl ?_
          refine SP.not rfl rfl rfl ?_
          refine SP.not rfl rfl rfl ?_
          refine SP.val (Val.pickF rfl rfl) rfl rfl rfl ?_
          obtain rfl := Option.some.inj ho
          exact J fun a w2 ha hw => ⟨ha.sub ⟨rfl, rfl, rfl, rfl, rfl, rfl, trivial⟩, hw⟩
    · intro J
      clear ho
      have ho := hg_t34
      clear hg_t34
      rcases if_some ho with ⟨hc, ho⟩ | ⟨hc, ho⟩
      · have hq32 := hc
        refine SP.isT (d := 26) rfl hq32 ?_
        refine SP.val (Val.loadA 2 rfl Try.underlying48 rfl sz48 rfl rfl rfl) rfl rfl rfl ?_
        refine SP.val (Val.loadA 4 rfl Try.underlying48 rfl sz48 rfl rfl rfl) rfl rfl rfl ?_
        obtain ⟨t33, hc, ho⟩ := bind_some ho
        refine SP.callV see (caps := []) (.bool t33) fn33 rfl rfl rfl rfl (fun w2 hP hs sub ap => history_Ahead.ok (⟨t11.Proc, (⟨t11.Op.Kind, t11.Op.Method, t11.Op.Args, t11.Op.Bytes⟩ : api_Op), true, (⟨t11.Reply.Err, (⟨t11.Reply.Out.Trap, (⟨t11.Reply.Out.Result.Kind, t11.Reply.Out.Result.A, t11.Reply.Out.Result.B⟩ : api_Value)⟩ : api_Outcome)⟩ : api_Reply), t11.Start, t11.End⟩ : history_Call) t1 _ _ _ _ _ hc w2 hP sub (ap.get 1 rfl) (ap.get 0 rfl) (ap.get 5 rfl) (ap.get 4 rfl)) ?_
        clear hc
        refine SP.val (Val.notB rfl) rfl rfl rfl ?_
        refine SP.val (Val.pickT rfl rfl) rfl rfl rfl ?_
        obtain rfl := Option.some.inj ho
        exact J fun a w2 ha hw => ⟨ha.sub ⟨rfl, rfl, rfl, rfl, rfl, rfl, trivial⟩, hw⟩
      · have hq32 := (bf hc)
        refine SP.isF (d := 26) rfl hq32 ?_
        refine SP.not rfl rfl rfl ?_
        refine SP.not rfl rfl rfl ?_
        refine SP.not rfl rfl rfl ?_
        refine SP.not rfl rfl rfl ?_
        refine SP.val (Val.pickF rfl rfl) rfl rfl rfl ?_
        obtain rfl := Option.some.inj ho
        exact J fun a w2 ha hw => ⟨ha.sub ⟨rfl, rfl, rfl, rfl, rfl, rfl, trivial⟩, hw⟩
  · intro J
    clear ho
    have ho := hg_t30
    clear hg_t30
    rcases if_some ho with ⟨hc, ho⟩ | ⟨hc, ho⟩
    · have hq28 := hc
      refine SP.isT (d := 20) rfl hq28 ?_
      refine SP.val (Val.loadA 4 rfl Try.underlying48 rfl sz48 rfl rfl rfl) rfl rfl rfl ?_
      refine SP.val (Val.loadA 3 rfl Try.underlying48 rfl sz48 rfl rfl rfl) rfl rfl rfl ?_
      obtain ⟨t29, hc, ho⟩ := bind_some ho
      refine SP.callV see (caps := []) (.bool t29) fn33 rfl rfl rfl rfl (fun w2 hP hs sub ap => history_Ahead.ok t1 t6 _ _ _ _ _ hc w2 hP sub (ap.get 5 rfl) (ap.get 4 rfl) (ap.get 3 rfl) (ap.get 2 rfl)) ?_
      clear hc
      refine SP.val (Val.notB rfl) rfl rfl rfl ?_
      refine SP.val (Val.pickT rfl rfl) rfl rfl rfl ?_
      obtain rfl := Option.some.inj ho
      exact J fun a w2 ha hw => ⟨ha.sub ⟨rfl, rfl, rfl, rfl, rfl, rfl, trivial⟩, hw⟩
    · have hq28 := (bf hc)
      refine SP.isF (d := 20) rfl hq28 ?_
      refine SP.not rfl rfl rfl ?_
      refine SP.not rfl rfl rfl ?_
      refine SP.not rfl rfl rfl ?_
      refine SP.not rfl rfl rfl ?_
      refine SP.val (Val.pickF rfl rfl) rfl rfl rfl ?_
      obtain rfl := Option.some.inj ho
      exact J fun a w2 ha hw => ⟨ha.sub ⟨rfl, rfl, rfl, rfl, rfl, rfl, trivial⟩, hw⟩
/-! ### capstan/capstanlaw20.Great: function 11 -/
def capstanlaw20_Great.f (op_0 : api_Op) : Option Bool :=
  some ((decide ((op_0.Args.length : Int) > 20)) || (decide ((op_0.Bytes.length : Int) > 3000)))
theorem capstanlaw20_Great.ok (op_0 : api_Op) (v_op_0_Args : Value) (v_op_0_Bytes : Value) (r : Bool) (H : capstanlaw20_Great.f op_0 = some r) (w : World) (hV : Hp) (sV : Sub hV (hp w)) (h0 : slR k_api_Value hV v_op_0_Args op_0.Args) (h1 : slR (kInt .u8) hV v_op_0_Bytes op_0.Bytes) :
    Trip Try.prog 11 [.agg #[.int .u8 op_0.Kind, .int .i64 op_0.Method, v_op_0_Args, v_op_0_Bytes]].toArray em hV w (fun v => HO.pure (v = .bool r)) := by
  have see : Sees w em hV := ⟨sV, Dj.em_right _⟩
  refine Trip.of (P := Try.prog) (n := ⟨13, []⟩) Try.func11 rfl ⟨rfl, rfl⟩ rfl (St.begin (All.cons (x := slP k_api_Value v_op_0_Args op_0.Args) h0 (All.cons (x := slP (kInt .u8) v_op_0_Bytes op_0.Bytes) h1 (All.nil _)))) ?_
  have ho := H
  refine CP.seq ?_
  refine CP.region ?_
  refine SP.box (cs := [.int .u8 op_0.Kind, .int .i64 op_0.Method, v_op_0_Args, v_op_0_Bytes]) rfl rfl rfl rfl (fun b3 => ?_)
  refine SP.val (Val.assign rfl) rfl rfl rfl ?_
  refine SP.nil ?_
  refine QE.then ?_
  refine CP.seq ?_
  refine CP.region ?_
  refine SP.val (Val.fieldAddr Try.underlying34 rfl sz32 rfl) rfl rfl rfl ?_
  refine SP.val (Val.load1 0 rfl Try.underlying32 rfl rfl rfl) rfl rfl rfl ?_
  refine SP.val (Val.lenP see 0 rfl Try.underlying32 rfl) rfl rfl rfl ?_
  refine SP.val (Val.gtr rfl rfl) rfl rfl rfl ?_
  refine SP.val (Val.move rfl) rfl rfl rfl ?_
  refine SP.join 5 (fun a w2 => Env ⟨13, []⟩ [(12, .bool ((decide ((op_0.Args.length : Int) > 20)) || (decide ((op_0.Bytes.length : Int) > 3000))))] a ∧ St w em hV [slP k_api_Value v_op_0_Args op_0.Args, slP (kInt .u8) v_op_0_Bytes op_0.Bytes] [boxO b3 [.int .u8 op_0.Kind, .int .i64 op_0.Method, v_op_0_Args, v_op_0_Bytes] 34] w2) ?_ ?_
  · rintro a w2 ⟨ha, hw⟩
    refine SP.app ha hw ?_
    clear ha hw a w2
    refine SP.val (Val.assign rfl) rfl rfl rfl ?_
    refine SP.nil ?_
    refine QE.then ?_
    refine CP.ret ?_
    obtain rfl := Option.some.inj ho
    exact QE.rets (rs := [.tmp 2]) (vs := [.bool ((decide ((op_0.Args.length : Int) > 20)) || (decide ((op_0.Bytes.length : Int) > 3000)))]) Try.results11 rfl ⟨RVs.tmp rfl, trivial⟩ (fun w2 h => St.done (fun a b p s => rfl) h)
  · intro J
    by_cases hc : (op_0.Args.length : Int) > 20
    · have hq6 := (decide_eq_true hc)
      refine SP.isT (d := 7) rfl hq6 ?_
      refine SP.not rfl rfl rfl ?_
      refine SP.not rfl rfl rfl ?_
      refine SP.not rfl rfl rfl ?_
      refine SP.not rfl rfl rfl ?_
      refine SP.val (Val.pickT rfl rfl) rfl rfl rfl ?_
      exact J fun a w2 ha hw => ⟨ha.sub ⟨congrArg (fun z => some (Value.bool z)) (or_t hq6), trivial⟩, hw⟩
    · have hq6 := (decide_eq_false hc)
      refine SP.isF (d := 7) rfl hq6 ?_
      refine SP.val (Val.fieldAddr Try.underlying34 rfl sz24 rfl) rfl rfl rfl ?_
      refine SP.val (Val.load1 0 rfl Try.underlying24 rfl rfl rfl) rfl rfl rfl ?_
      refine SP.val (Val.lenP see 1 rfl Try.underlying24 rfl) rfl rfl rfl ?_
      refine SP.val (Val.gtr rfl rfl) rfl rfl rfl ?_
      refine SP.val (Val.pickF rfl rfl) rfl rfl rfl ?_
      exact J fun a w2 ha hw => ⟨ha.sub ⟨congrArg (fun z => some (Value.bool z)) (or_f hq6 rfl), trivial⟩, hw⟩
/-! ### capstan/capstanlaw30.Great: function 24 -/
inductive capstanlaw30_Great.S where
  | start
  | l1 (x13 : Int)

def capstanlaw30_Great.F (l_0 : (List history_Call)) : capstanlaw30_Great.S → Option (capstanlaw30_Great.S ⊕ Bool)
  | .start => if (l_0.length : Int) > 200 then (some (.inr true)) else (some (.inl (.l1 0)))
  | .l1 x13 => if x13 < (l_0.length : Int) then ((elt l_0 x13).bind fun x17 => (capstanlaw20_Great.f x17.Op).bind fun t24 => if t24 = true then (some (.inr true)) else (some (.inl (.l1 (IntKind.i64.wrap (x13 + 1)))))) else (some (.inr false))

def capstanlaw30_Great.f (l_0 : (List history_Call)) : Option Bool := runF (capstanlaw30_Great.F l_0) .start
theorem capstanlaw30_Great.ok (l_0 : (List history_Call)) (v_l_0 : Value) (r : Bool) (H : capstanlaw30_Great.f l_0 = some r) (w : World) (hV : Hp) (sV : Sub hV (hp w)) (h0 : slR k_history_Call hV v_l_0 l_0) :
    Trip Try.prog 24 [v_l_0].toArray em hV w (fun v => HO.pure (v = .bool r)) := by
  have see : Sees w em hV := ⟨sV, Dj.em_right _⟩
  refine Trip.of (P := Try.prog) (n := ⟨19, []⟩) Try.func24 rfl ⟨rfl, rfl⟩ rfl (St.begin (All.cons (x := slP k_history_Call v_l_0 l_0) h0 (All.nil _))) ?_
  obtain ⟨n0, hi⟩ := runF_iff.1 H
  obtain ⟨m0, o, hm0, ho, hr⟩ := iter_some hi
  clear hi
  refine CP.seq ?_
  refine CP.region ?_
  refine SP.val (Val.assign rfl) rfl rfl rfl ?_
  refine SP.nil ?_
  refine QE.then ?_
  refine CP.seq ?_
  refine CP.seq ?_
  refine CP.region ?_
  refine SP.val (Val.move rfl) rfl rfl rfl ?_
  refine SP.val (Val.lenP see 0 rfl Try.underlying44 rfl) rfl rfl rfl ?_
  refine SP.val (Val.gtr rfl rfl) rfl rfl rfl ?_
  refine SP.nil ?_
  refine QE.then ?_
  rcases if_some ho with ⟨hc, ho⟩ | ⟨hc, ho⟩
  · refine CP.condT rfl (decide_eq_true hc) ?_
    refine CP.seq ?_
    refine CP.region ?_
    refine SP.val (Val.assign rfl) rfl rfl rfl ?_
    refine SP.nil ?_
    refine QE.then ?_
    refine CP.ret ?_
    refine QE.thru (by intro e; cases e) ?_
    obtain rfl := Option.some.inj ho
    obtain rfl := Option.some.inj hr
    exact QE.rets (rs := [.tmp 2]) (vs := [.bool true]) Try.results24 rfl ⟨RVs.tmp rfl, trivial⟩ (fun w2 h => St.done (fun a b p s => rfl) h)
  · refine CP.condF rfl (decide_eq_false hc) ?_
    refine CP.skip ?_
    refine QE.then ?_
    refine CP.seq ?_
    refine CP.seq ?_
    refine CP.region ?_
    refine SP.val (Val.assign rfl) rfl rfl rfl ?_
    refine SP.nil ?_
    refine QE.then ?_
    refine CP.block ?_
    obtain rfl := Option.some.inj ho
    refine CP.loop (fun cl1 a w2 => ∃ x13 : Int, cl1 ≤ m0 ∧ iter (capstanlaw30_Great.F l_0) cl1 (.l1 x13) = some r ∧ Env ⟨19, []⟩ [(0, v_l_0), (3, .int .i64 x13)] a ∧ St w em hV [slP k_history_Call v_l_0 l_0] [] w2) m0 (fun a w2 ha hw => ⟨0, Nat.le_refl _, hr, ha.sub ⟨rfl, rfl, trivial⟩, hw⟩) ?_
    clear hr
    rintro cl1 a w2 ⟨x13, hc_l1, hi, ha, hw⟩
    obtain ⟨m14, o, hm_m14, ho, hr⟩ := iter_some hi
    refine CP.app ha hw ?_
    clear ha hw a w2 hi
    refine CP.seq ?_
    refine CP.seq ?_
    refine CP.region ?_
    refine SP.val (Val.move rfl) rfl rfl rfl ?_
    refine SP.val (Val.move rfl) rfl rfl rfl ?_
    refine SP.val (Val.lenP see 0 rfl Try.underlying44 rfl) rfl rfl rfl ?_
    refine SP.val (Val.lss rfl rfl) rfl rfl rfl ?_
    refine SP.nil ?_
    refine QE.then ?_
    rcases if_some ho with ⟨hc, ho⟩ | ⟨hc, ho⟩
    · refine CP.condT rfl (decide_eq_true hc) ?_
      refine CP.skip ?_
      refine QE.then ?_
      refine CP.seq ?_
      refine CP.block ?_
      refine CP.seq ?_
      refine CP.region ?_
      refine SP.val (Val.move rfl) rfl rfl rfl ?_
      refine SP.val (Val.move rfl) rfl rfl rfl ?_
      obtain ⟨x17, hx, ho⟩ := bind_some ho
      have hx := elt_some hx
      refine SP.indexP see 0 rfl Try.underlying44 sz48 hx.1 hx.2 rfl rfl rfl rfl (fun p15 => ?_)
      clear hx
      refine SP.fieldP see 0 rfl Try.underlying48 rfl sz34 k_history_Call.part_Op rfl rfl rfl (fun p18 => ?_)
      refine k_api_Op.load see 0 rfl Try.underlying34 rfl sz34 rfl rfl rfl (fun v20 v22 => ?_)
      obtain ⟨t24, hc, ho⟩ := bind_some ho
      refine SP.callV see (caps := []) (.bool t24) fn11 rfl rfl rfl rfl (fun w2 hP hs sub ap => capstanlaw20_Great.ok x17.Op _ _ _ hc w2 hP sub (ap.get 0 rfl) (ap.get 1 rfl)) ?_
      clear hc
      refine SP.nil ?_
      refine QE.then ?_
      rcases if_some ho with ⟨hc, ho⟩ | ⟨hc, ho⟩
      · refine CP.condT rfl hc ?_
        refine CP.seq ?_
        refine CP.region ?_
        refine SP.val (Val.assign rfl) rfl rfl rfl ?_
        refine SP.nil ?_
        refine QE.then ?_
        refine CP.ret ?_
        refine QE.blockR ?_
        refine QE.thru (by intro e; cases e) ?_
        refine QE.thru (by intro e; cases e) ?_
        refine QE.blockR ?_
        refine QE.thru (by intro e; cases e) ?_
        obtain rfl := Option.some.inj ho
        obtain rfl := Option.some.inj hr
        exact QE.rets (rs := [.tmp 2]) (vs := [.bool true]) Try.results24 rfl ⟨RVs.tmp rfl, trivial⟩ (fun w2 h => St.done (fun a b p s => rfl) h)
      · refine CP.condF rfl (bf hc) ?_
        refine CP.skip ?_
        refine QE.blockN ?_
        refine QE.then ?_
        refine CP.region ?_
        refine SP.val (Val.move rfl) rfl rfl rfl ?_
        refine SP.val (Val.add rfl rfl) rfl rfl rfl ?_
        refine SP.val (Val.assign rfl) rfl rfl rfl ?_
        refine SP.nil ?_
        obtain rfl := Option.some.inj ho
        exact QE.lower m14 (by omega) fun a w2 ha hw => ⟨(IntKind.i64.wrap (x13 + 1)), (by omega), hr, ha.sub ⟨rfl, rfl, trivial⟩, (St.selP [4] rfl hw)⟩
    · refine CP.condF rfl (decide_eq_false hc) ?_
      refine CP.exit ?_
      refine QE.thru (by intro e; cases e) ?_
      refine QE.thru (by intro e; cases e) ?_
      refine QE.blockE ?_
      refine QE.then ?_
      refine CP.seq ?_
      refine CP.region ?_
      refine SP.val (Val.assign rfl) rfl rfl rfl ?_
      refine SP.nil ?_
      refine QE.then ?_
      refine CP.ret ?_
      obtain rfl := Option.some.inj ho
      obtain rfl := Option.some.inj hr
      exact QE.rets (rs := [.tmp 2]) (vs := [.bool false]) Try.results24 rfl ⟨RVs.tmp rfl, trivial⟩ (fun w2 h => St.done (fun a b p s => rfl) h)
/-! ### capstan/capstanlaw30.HistoryAhead: function 7 -/
def capstanlaw30_HistoryAhead.f (l_0 : (List history_Call)) (a_1 : Int) (b_2 : Int) (c_3 : Int) (d_4 : Int) : Option Bool :=
  (capstanlaw30_awake.f ).bind fun t2 => if (!t2) = true then (some false) else ((capstanlaw30_Great.f l_0).bind fun t3 => (if (t3 || (decide ((l_0.length : Int) = 0))) = true then (some true) else ((history_May.f l_0).bind fun t8 => some (!t8))).bind fun t9 => if t9 = true then (some true) else (if (IntKind.u64.wrap (l_0.length : Int)) ≠ 0 then ((elt l_0 (Int.tmod (IntKind.u64.wrap a_1) (IntKind.u64.wrap (l_0.length : Int)))).bind fun x13 => if (IntKind.u64.wrap (l_0.length : Int)) ≠ 0 then ((elt l_0 (Int.tmod (IntKind.u64.wrap b_2) (IntKind.u64.wrap (l_0.length : Int)))).bind fun x22 => if (IntKind.u64.wrap (l_0.length : Int)) ≠ 0 then ((elt l_0 (Int.tmod (IntKind.u64.wrap c_3) (IntKind.u64.wrap (l_0.length : Int)))).bind fun x31 => if (IntKind.u64.wrap (l_0.length : Int)) ≠ 0 then ((elt l_0 (Int.tmod (IntKind.u64.wrap d_4) (IntKind.u64.wrap (l_0.length : Int)))).bind fun x40 => (history_Ahead.f x13 x13).bind fun t71 => (if t71 = true then (some true) else ((history_Ahead.f x13 x22).bind fun t74 => (if t74 = true then ((history_Ahead.f x22 x13).bind fun t77 => some t77) else (some false)).bind fun t78 => some t78)).bind fun t79 => if t79 = true then (some false) else ((history_Ahead.f x13 x22).bind fun t80 => (if t80 = true then ((history_Ahead.f x22 x31).bind fun t83 => some t83) else (some false)).bind fun t84 => (if t84 = true then ((history_Ahead.f x13 x31).bind fun t87 => some (!t87)) else (some false)).bind fun t88 => if t88 = true then (some false) else ((history_Ahead.f x13 x22).bind fun t89 => (if (!t89) = true then (some true) else ((history_Ahead.f x31 x40).bind fun t92 => some (!t92))).bind fun t93 => (if t93 = true then (some true) else ((history_Ahead.f x13 x40).bind fun t96 => some t96)).bind fun t97 => (if t97 = true then (some true) else ((history_Ahead.f x31 x22).bind fun t100 => some t100)).bind fun t101 => some t101))) else none) else none) else none) else none))
theorem capstanlaw30_HistoryAhead.ok (l_0 : (List history_Call)) (a_1 : Int) (b_2 : Int) (c_3 : Int) (d_4 : Int) (v_l_0 : Value) (r : Bool) (H : capstanlaw30_HistoryAhead.f l_0 a_1 b_2 c_3 d_4 = some r) (w : World) (hV : Hp) (sV : Sub hV (hp w)) (h0 : slR k_history_Call hV v_l_0 l_0) :
    Trip Try.prog 7 [v_l_0, .int .i64 a_1, .int .i64 b_2, .int .i64 c_3, .int .i64 d_4].toArray em hV w (fun v => HO.pure (v = .bool r)) := by
  have see : Sees w em hV := ⟨sV, Dj.em_right _⟩
  refine Trip.of (P := Try.prog) (n := ⟨108, []⟩) Try.func7 rfl ⟨rfl, rfl⟩ rfl (St.begin (All.cons (x := slP k_history_Call v_l_0 l_0) h0 (All.nil _))) ?_
  have ho := H
  refine CP.seq ?_
  refine CP.region ?_
  refine SP.val (Val.assign rfl) rfl rfl rfl ?_
  refine SP.nil ?_
  refine QE.then ?_
  refine CP.seq ?_
  refine CP.seq ?_
  refine CP.region ?_
  obtain ⟨t2, hc, ho⟩ := bind_some ho
  refine SP.callV see (caps := []) (.bool t2) fn37 rfl rfl rfl rfl (fun w2 hP hs sub ap => capstanlaw30_awake.ok   _ hc w2 hP sub ) ?_
  clear hc
  refine SP.val (Val.notB rfl) rfl rfl rfl ?_
  refine SP.nil ?_
  refine QE.then ?_
  rcases if_some ho with ⟨hc, ho⟩ | ⟨hc, ho⟩
  · refine CP.condT rfl hc ?_
    refine CP.seq ?_
    refine CP.region ?_
    refine SP.val (Val.assign rfl) rfl rfl rfl ?_
    refine SP.nil ?_
    refine QE.then ?_
    refine CP.ret ?_
    refine QE.thru (by intro e; cases e) ?_
    obtain rfl := Option.some.inj ho
    exact QE.rets (rs := [.tmp 10]) (vs := [.bool false]) Try.results7 rfl ⟨RVs.tmp rfl, trivial⟩ (fun w2 h => St.done (fun a b p s => rfl) h)
  · refine CP.condF rfl (bf hc) ?_
    refine CP.skip ?_
    refine QE.then ?_
    refine CP.seq ?_
    refine CP.seq ?_
    refine CP.region ?_
    refine SP.val (Val.move rfl) rfl rfl rfl ?_
    obtain ⟨t3, hc, ho⟩ := bind_some ho
    refine SP.callV see (caps := []) (.bool t3) fn24 rfl rfl rfl rfl (fun w2 hP hs sub ap => capstanlaw30_Great.ok l_0 _ _ hc w2 hP sub (ap.get 0 rfl)) ?_
    clear hc
    refine SP.val (Val.move rfl) rfl rfl rfl ?_
    refine SP.join 4 (fun a w2 => Env ⟨108, []⟩ [(0, v_l_0), (1, .int .i64 a_1), (2, .int .i64 b_2), (3, .int .i64 c_3), (4, .int .i64 d_4), (24, .bool (t3 || (decide ((l_0.length : Int) = 0))))] a ∧ St w em hV [slP k_history_Call v_l_0 l_0] [] w2) ?_ ?_
    · rintro a w2 ⟨ha, hw⟩
      refine SP.app ha hw ?_
      clear ha hw a w2
      refine SP.val (Val.move rfl) rfl rfl rfl ?_
      obtain ⟨t9, hg_t9, ho⟩ := bind_some ho
      refine SP.join 4 (fun a w2 => Env ⟨108, []⟩ [(0, v_l_0), (1, .int .i64 a_1), (2, .int .i64 b_2), (3, .int .i64 c_3), (4, .int .i64 d_4), (29, .bool t9)] a ∧ St w em hV [slP k_history_Call v_l_0 l_0] [] w2) ?_ ?_
      · rintro a w2 ⟨ha, hw⟩
        refine SP.app ha hw ?_
        clear ha hw a w2 hg_t9
        refine SP.nil ?_
        refine QE.then ?_
        rcases if_some ho with ⟨hc, ho⟩ | ⟨hc, ho⟩
        · refine CP.condT rfl hc ?_
          refine CP.seq ?_
          refine CP.region ?_
          refine SP.val (Val.assign rfl) rfl rfl rfl ?_
          refine SP.nil ?_
          refine QE.then ?_
          refine CP.ret ?_
          refine QE.thru (by intro e; cases e) ?_
          obtain rfl := Option.some.inj ho
          exact QE.rets (rs := [.tmp 10]) (vs := [.bool true]) Try.results7 rfl ⟨RVs.tmp rfl, trivial⟩ (fun w2 h => St.done (fun a b p s => rfl) h)
        · refine CP.condF rfl (bf hc) ?_
          refine CP.skip ?_
          refine QE.then ?_
          refine CP.seq ?_
          refine CP.region ?_
          refine SP.val (Val.move rfl) rfl rfl rfl ?_
          refine SP.val (Val.lenP see 0 rfl Try.underlying44 rfl) rfl rfl rfl ?_
          refine SP.val (Val.conv (by rw [Try.underlying3]; rfl) Try.underlying79 rfl) rfl rfl rfl ?_
          refine SP.val (Val.assign rfl) rfl rfl rfl ?_
          refine SP.nil ?_
          refine QE.then ?_
          refine CP.seq ?_
          refine CP.drawA (by kernel_rfl) (fun w2 k h => h.drawn k) ?_
          obtain ⟨hz10, ho⟩ := must_some ho
          obtain ⟨x13, hx, ho⟩ := bind_some ho
          have hx := elt_some hx
          refine DA.ghost (fun w2 h => h.elem see 0 rfl hx.1 hx.2) (fun p11 h_p11 => ?_)
          clear hx
          refine DA.ghost (fun w2 h => h.openE see 0 rfl (fun ((v14, v16) : Value × Value) => [.int .i64 x13.Proc, .int .u8 x13.Op.Kind, .int .i64 x13.Op.Method, v14, v16, .bool x13.Read, .int .i64 x13.Reply.Err, .int .i64 x13.Reply.Out.Trap, .int .u8 x13.Reply.Out.Result.Kind, .int .i64 x13.Reply.Out.Result.A, .int .i64 x13.Reply.Out.Result.B, .int .i64 x13.Start, .int .i64 x13.End]) (fun ((v14, v16) : Value × Value) => [slP k_api_Value v14 x13.Op.Args, slP (kInt .u8) v16 x13.Op.Bytes]) (fun h cs ⟨v14, v16, e, p0, p1⟩ => ⟨(v14, v16), e, All.cons p0 (All.cons p1 (All.nil _))⟩)) (fun z_ _ => ?_)
          obtain ⟨v14, v16⟩ := z_
          obtain ⟨hz19, ho⟩ := must_some ho
          obtain ⟨x22, hx, ho⟩ := bind_some ho
          have hx := elt_some hx
          refine DA.ghost (fun w2 h => h.elem see 4 rfl hx.1 hx.2) (fun p20 h_p20 => ?_)
          clear hx
          refine DA.ghost (fun w2 h => h.openE see 0 rfl (fun ((v23, v25) : Value × Value) => [.int .i64 x22.Proc, .int .u8 x22.Op.Kind, .int .i64 x22.Op.Method, v23, v25, .bool x22.Read, .int .i64 x22.Reply.Err, .int .i64 x22.Reply.Out.Trap, .int .u8 x22.Reply.Out.Result.Kind, .int .i64 x22.Reply.Out.Result.A, .int .i64 x22.Reply.Out.Result.B, .int .i64 x22.Start, .int .i64 x22.End]) (fun ((v23, v25) : Value × Value) => [slP k_api_Value v23 x22.Op.Args, slP (kInt .u8) v25 x22.Op.Bytes]) (fun h cs ⟨v23, v25, e, p0, p1⟩ => ⟨(v23, v25), e, All.cons p0 (All.cons p1 (All.nil _))⟩)) (fun z_ _ => ?_)
          obtain ⟨v23, v25⟩ := z_
          obtain ⟨hz28, ho⟩ := must_some ho
          obtain ⟨x31, hx, ho⟩ := bind_some ho
          have hx := elt_some hx
          refine DA.ghost (fun w2 h => h.elem see 8 rfl hx.1 hx.2) (fun p29 h_p29 => ?_)
          clear hx
          refine DA.ghost (fun w2 h => h.openE see 0 rfl (fun ((v32, v34) : Value × Value) => [.int .i64 x31.Proc, .int .u8 x31.Op.Kind, .int .i64 x31.Op.Method, v32, v34, .bool x31.Read, .int .i64 x31.Reply.Err, .int .i64 x31.Reply.Out.Trap, .int .u8 x31.Reply.Out.Result.Kind, .int .i64 x31.Reply.Out.Result.A, .int .i64 x31.Reply.Out.Result.B, .int .i64 x31.Start, .int .i64 x31.End]) (fun ((v32, v34) : Value × Value) => [slP k_api_Value v32 x31.Op.Args, slP (kInt .u8) v34 x31.Op.Bytes]) (fun h cs ⟨v32, v34, e, p0, p1⟩ => ⟨(v32, v34), e, All.cons p0 (All.cons p1 (All.nil _))⟩)) (fun z_ _ => ?_)
          obtain ⟨v32, v34⟩ := z_
          obtain ⟨hz37, ho⟩ := must_some ho
          obtain ⟨x40, hx, ho⟩ := bind_some ho
          have hx := elt_some hx
          refine DA.ghost (fun w2 h => h.elem see 12 rfl hx.1 hx.2) (fun p38 h_p38 => ?_)
          clear hx
          refine DA.ghost (fun w2 h => h.openE see 0 rfl (fun ((v41, v43) : Value × Value) => [.int .i64 x40.Proc, .int .u8 x40.Op.Kind, .int .i64 x40.Op.Method, v41, v43, .bool x40.Read, .int .i64 x40.Reply.Err, .int .i64 x40.Reply.Out.Trap, .int .u8 x40.Reply.Out.Result.Kind, .int .i64 x40.Reply.Out.Result.A, .int .i64 x40.Reply.Out.Result.B, .int .i64 x40.Start, .int .i64 x40.End]) (fun ((v41, v43) : Value × Value) => [slP k_api_Value v41 x40.Op.Args, slP (kInt .u8) v43 x40.Op.Bytes]) (fun h cs ⟨v41, v43, e, p0, p1⟩ => ⟨(v41, v43), e, All.cons p0 (All.cons p1 (All.nil _))⟩)) (fun z_ _ => ?_)
          obtain ⟨v41, v43⟩ := z_
          refine DA.phase (fun i => Nat.ble 0 i && Nat.blt i 35) (fun w2 => St w em hV [atP p38 [.int .i64 x40.Proc, .int .u8 x40.Op.Kind, .int .i64 x40.Op.Method, v41, v43, .bool x40.Read, .int .i64 x40.Reply.Err, .int .i64 x40.Reply.Out.Trap, .int .u8 x40.Reply.Out.Result.Kind, .int .i64 x40.Reply.Out.Result.A, .int .i64 x40.Reply.Out.Result.B, .int .i64 x40.Start, .int .i64 x40.End], slP k_api_Value v41 x40.Op.Args, slP (kInt .u8) v43 x40.Op.Bytes, elP k_history_Call p38 x40, atP p29 [.int .i64 x31.Proc, .int .u8 x31.Op.Kind, .int .i64 x31.Op.Method, v32, v34, .bool x31.Read, .int .i64 x31.Reply.Err, .int .i64 x31.Reply.Out.Trap, .int .u8 x31.Reply.Out.Result.Kind, .int .i64 x31.Reply.Out.Result.A, .int .i64 x31.Reply.Out.Result.B, .int .i64 x31.Start, .int .i64 x31.End], slP k_api_Value v32 x31.Op.Args, slP (kInt .u8) v34 x31.Op.Bytes, elP k_history_Call p29 x31, atP p20 [.int .i64 x22.Proc, .int .u8 x22.Op.Kind, .int .i64 x22.Op.Method, v23, v25, .bool x22.Read, .int .i64 x22.Reply.Err, .int .i64 x22.Reply.Out.Trap, .int .u8 x22.Reply.Out.Result.Kind, .int .i64 x22.Reply.Out.Result.A, .int .i64 x22.Reply.Out.Result.B, .int .i64 x22.Start, .int .i64 x22.End], slP k_api_Value v23 x22.Op.Args, slP (kInt .u8) v25 x22.Op.Bytes, elP k_history_Call p20 x22, atP p11 [.int .i64 x13.Proc, .int .u8 x13.Op.Kind, .int .i64 x13.Op.Method, v14, v16, .bool x13.Read, .int .i64 x13.Reply.Err, .int .i64 x13.Reply.Out.Trap, .int .u8 x13.Reply.Out.Result.Kind, .int .i64 x13.Reply.Out.Result.A, .int .i64 x13.Reply.Out.Result.B, .int .i64 x13.Start, .int .i64 x13.End], slP k_api_Value v14 x13.Op.Args, slP (kInt .u8) v16 x13.Op.Bytes, elP k_history_Call p11 x13, slP k_history_Call v_l_0 l_0] [] w2) ?_
          refine DT.take 0 rfl rfl rfl rfl (by kernel_rfl) (fun _ _ _ h => h) (Val.move rfl) (fun w2 hw => hw) ?_
          refine DT.take 1 rfl rfl rfl rfl (by kernel_rfl) (fun _ _ _ h => h) (Val.move rfl) (fun w2 hw => hw) ?_
          refine DT.take 2 rfl rfl rfl rfl (by kernel_rfl) (fun _ _ _ h => h) (Val.conv (by rw [Try.underlying3]; rfl) Try.underlying79 rfl) (fun w2 hw => hw) ?_
          refine DT.take 3 rfl rfl rfl rfl (by kernel_rfl) (fun _ _ _ h => h) (Val.move rfl) (fun w2 hw => hw) ?_
          refine DT.take 4 rfl rfl rfl rfl (by kernel_rfl) (fun _ _ _ h => h) (Val.rem rfl rfl hz10) (fun w2 hw => hw) ?_
          refine DT.take 5 rfl rfl rfl rfl (by kernel_rfl) (fun _ _ _ h => h) (Val.indexE h_p11 Try.underlying44 sz48 rfl rfl) (fun w2 hw => hw) ?_
          refine DT.take 6 rfl rfl rfl rfl (by kernel_rfl) (fun _ _ _ h => h) (Val.loadAtA see 12 rfl Try.underlying48 rfl sz48 rfl) (fun w2 hw => hw) ?_
          refine DT.take 7 rfl rfl rfl rfl (by kernel_rfl) (fun _ _ _ h => h) (Val.move rfl) (fun w2 hw => hw) ?_
          refine DT.take 8 rfl rfl rfl rfl (by kernel_rfl) (fun _ _ _ h => h) (Val.move rfl) (fun w2 hw => hw) ?_
          refine DT.take 9 rfl rfl rfl rfl (by kernel_rfl) (fun _ _ _ h => h) (Val.conv (by rw [Try.underlying3]; rfl) Try.underlying79 rfl) (fun w2 hw => hw) ?_
          refine DT.take 10 rfl rfl rfl rfl (by kernel_rfl) (fun _ _ _ h => h) (Val.move rfl) (fun w2 hw => hw) ?_
          refine DT.take 11 rfl rfl rfl rfl (by kernel_rfl) (fun _ _ _ h => h) (Val.rem rfl rfl hz19) (fun w2 hw => hw) ?_
          refine DT.take 12 rfl rfl rfl rfl (by kernel_rfl) (fun _ _ _ h => h) (Val.indexE h_p20 Try.underlying44 sz48 rfl rfl) (fun w2 hw => hw) ?_
          refine DT.take 13 rfl rfl rfl rfl (by kernel_rfl) (fun _ _ _ h => h) (Val.loadAtA see 8 rfl Try.underlying48 rfl sz48 rfl) (fun w2 hw => hw) ?_
          refine DT.take 14 rfl rfl rfl rfl (by kernel_rfl) (fun _ _ _ h => h) (Val.move rfl) (fun w2 hw => hw) ?_
          refine DT.take 15 rfl rfl rfl rfl (by kernel_rfl) (fun _ _ _ h => h) (Val.move rfl) (fun w2 hw => hw) ?_
          refine DT.take 16 rfl rfl rfl rfl (by kernel_rfl) (fun _ _ _ h => h) (Val.conv (by rw [Try.underlying3]; rfl) Try.underlying79 rfl) (fun w2 hw => hw) ?_
          refine DT.take 17 rfl rfl rfl rfl (by kernel_rfl) (fun _ _ _ h => h) (Val.move rfl) (fun w2 hw => hw) ?_
          refine DT.take 18 rfl rfl rfl rfl (by kernel_rfl) (fun _ _ _ h => h) (Val.rem rfl rfl hz28) (fun w2 hw => hw) ?_
          refine DT.take 19 rfl rfl rfl rfl (by kernel_rfl) (fun _ _ _ h => h) (Val.indexE h_p29 Try.underlying44 sz48 rfl rfl) (fun w2 hw => hw) ?_
          refine DT.take 20 rfl rfl rfl rfl (by kernel_rfl) (fun _ _ _ h => h) (Val.loadAtA see 4 rfl Try.underlying48 rfl sz48 rfl) (fun w2 hw => hw) ?_
          refine DT.take 21 rfl rfl rfl rfl (by kernel_rfl) (fun _ _ _ h => h) (Val.move rfl) (fun w2 hw => hw) ?_
          refine DT.take 22 rfl rfl rfl rfl (by kernel_rfl) (fun _ _ _ h => h) (Val.move rfl) (fun w2 hw => hw) ?_
          refine DT.take 23 rfl rfl rfl rfl (by kernel_rfl) (fun _ _ _ h => h) (Val.conv (by rw [Try.underlying3]; rfl) Try.underlying79 rfl) (fun w2 hw => hw) ?_
          refine DT.take 24 rfl rfl rfl rfl (by kernel_rfl) (fun _ _ _ h => h) (Val.move rfl) (fun w2 hw => hw) ?_
          refine DT.take 25 rfl rfl rfl rfl (by kernel_rfl) (fun _ _ _ h => h) (Val.rem rfl rfl hz37) (fun w2 hw => hw) ?_
          refine DT.take 26 rfl rfl rfl rfl (by kernel_rfl) (fun _ _ _ h => h) (Val.indexE h_p38 Try.underlying44 sz48 rfl rfl) (fun w2 hw => hw) ?_
          refine DT.take 27 rfl rfl rfl rfl (by kernel_rfl) (fun _ _ _ h => h) (Val.loadAtA see 0 rfl Try.underlying48 rfl sz48 rfl) (fun w2 hw => hw) ?_
          refine DT.list (l2 := #[true, true, true, true, true, true, true, true, true, true, true, true, true, true, true, true, true, true, true, true, true, true, true, true, true, true, true, true, false, false, false, false, false, false, false, false]) (by kernel_rfl) ?_
          refine DT.cut (ι := Nat × Nat × Nat × Nat) (fun z => [(12, .pointer (some ⟨z.1, 0, none⟩)), (13, .pointer (some ⟨z.2.1, 0, none⟩)), (14, .pointer (some ⟨z.2.2.1, 0, none⟩)), (15, .pointer (some ⟨z.2.2.2, 0, none⟩)), (39, .agg #[.int .i64 x13.Proc, .int .u8 x13.Op.Kind, .int .i64 x13.Op.Method, v14, v16, .bool x13.Read, .int .i64 x13.Reply.Err, .int .i64 x13.Reply.Out.Trap, .int .u8 x13.Reply.Out.Result.Kind, .int .i64 x13.Reply.Out.Result.A, .int .i64 x13.Reply.Out.Result.B, .int .i64 x13.Start, .int .i64 x13.End]), (46, .agg #[.int .i64 x22.Proc, .int .u8 x22.Op.Kind, .int .i64 x22.Op.Method, v23, v25, .bool x22.Read, .int .i64 x22.Reply.Err, .int .i64 x22.Reply.Out.Trap, .int .u8 x22.Reply.Out.Result.Kind, .int .i64 x22.Reply.Out.Result.A, .int .i64 x22.Reply.Out.Result.B, .int .i64 x22.Start, .int .i64 x22.End]), (53, .agg #[.int .i64 x31.Proc, .int .u8 x31.Op.Kind, .int .i64 x31.Op.Method, v32, v34, .bool x31.Read, .int .i64 x31.Reply.Err, .int .i64 x31.Reply.Out.Trap, .int .u8 x31.Reply.Out.Result.Kind, .int .i64 x31.Reply.Out.Result.A, .int .i64 x31.Reply.Out.Result.B, .int .i64 x31.Start, .int .i64 x31.End]), (60, .agg #[.int .i64 x40.Proc, .int .u8 x40.Op.Kind, .int .i64 x40.Op.Method, v41, v43, .bool x40.Read, .int .i64 x40.Reply.Err, .int .i64 x40.Reply.Out.Trap, .int .u8 x40.Reply.Out.Result.Kind, .int .i64 x40.Reply.Out.Result.A, .int .i64 x40.Reply.Out.Result.B, .int .i64 x40.Start, .int .i64 x40.End])]) (fun z w2 => St w em hV [atP p38 [.int .i64 x40.Proc, .int .u8 x40.Op.Kind, .int .i64 x40.Op.Method, v41, v43, .bool x40.Read, .int .i64 x40.Reply.Err, .int .i64 x40.Reply.Out.Trap, .int .u8 x40.Reply.Out.Result.Kind, .int .i64 x40.Reply.Out.Result.A, .int .i64 x40.Reply.Out.Result.B, .int .i64 x40.Start, .int .i64 x40.End], slP k_api_Value v41 x40.Op.Args, slP (kInt .u8) v43 x40.Op.Bytes, elP k_history_Call p38 x40, atP p29 [.int .i64 x31.Proc, .int .u8 x31.Op.Kind, .int .i64 x31.Op.Method, v32, v34, .bool x31.Read, .int .i64 x31.Reply.Err, .int .i64 x31.Reply.Out.Trap, .int .u8 x31.Reply.Out.Result.Kind, .int .i64 x31.Reply.Out.Result.A, .int .i64 x31.Reply.Out.Result.B, .int .i64 x31.Start, .int .i64 x31.End], slP k_api_Value v32 x31.Op.Args, slP (kInt .u8) v34 x31.Op.Bytes, elP k_history_Call p29 x31, atP p20 [.int .i64 x22.Proc, .int .u8 x22.Op.Kind, .int .i64 x22.Op.Method, v23, v25, .bool x22.Read, .int .i64 x22.Reply.Err, .int .i64 x22.Reply.Out.Trap, .int .u8 x22.Reply.Out.Result.Kind, .int .i64 x22.Reply.Out.Result.A, .int .i64 x22.Reply.Out.Result.B, .int .i64 x22.Start, .int .i64 x22.End], slP k_api_Value v23 x22.Op.Args, slP (kInt .u8) v25 x22.Op.Bytes, elP k_history_Call p20 x22, atP p11 [.int .i64 x13.Proc, .int .u8 x13.Op.Kind, .int .i64 x13.Op.Method, v14, v16, .bool x13.Read, .int .i64 x13.Reply.Err, .int .i64 x13.Reply.Out.Trap, .int .u8 x13.Reply.Out.Result.Kind, .int .i64 x13.Reply.Out.Result.A, .int .i64 x13.Reply.Out.Result.B, .int .i64 x13.Start, .int .i64 x13.End], slP k_api_Value v14 x13.Op.Args, slP (kInt .u8) v16 x13.Op.Bytes, elP k_history_Call p11 x13, slP k_history_Call v_l_0 l_0] [boxO z.2.2.2 [.int .i64 0, .int .u8 0, .int .i64 0, (.slice none 0 0), (.slice none 0 0), .bool false, .int .i64 0, .int .i64 0, .int .u8 0, .int .i64 0, .int .i64 0, .int .i64 0, .int .i64 0] 48, boxO z.2.2.1 [.int .i64 0, .int .u8 0, .int .i64 0, (.slice none 0 0), (.slice none 0 0), .bool false, .int .i64 0, .int .i64 0, .int .u8 0, .int .i64 0, .int .i64 0, .int .i64 0, .int .i64 0] 48, boxO z.2.1 [.int .i64 0, .int .u8 0, .int .i64 0, (.slice none 0 0), (.slice none 0 0), .bool false, .int .i64 0, .int .i64 0, .int .u8 0, .int .i64 0, .int .i64 0, .int .i64 0, .int .i64 0] 48, boxO z.1 [.int .i64 0, .int .u8 0, .int .i64 0, (.slice none 0 0), (.slice none 0 0), .bool false, .int .i64 0, .int .i64 0, .int .u8 0, .int .i64 0, .int .i64 0, .int .i64 0, .int .i64 0] 48] w2) 4 #[true, true, true, true, true, true, true, true, true, true, true, true, true, true, true, true, true, true, true, true, true, true, true, true, true, true, true, true, true, true, true, true, false, false, false, false] (fun z => ?_) (fun J70 => ?_)
          · obtain ⟨b62, b64, b66, b68⟩ := z
            refine DT.one 32 rfl (by kernel_rfl) rfl ?_
            refine SP.have (fun w2 hw => slR.shape (St.pers 13 rfl see.sub see.dj hw)) (fun hs_v14 => ?_)
            refine SP.have (fun w2 hw => slR.shape (St.pers 14 rfl see.sub see.dj hw)) (fun hs_v16 => ?_)
            refine SP.store (v := .agg #[.int .i64 x13.Proc, .int .u8 x13.Op.Kind, .int .i64 x13.Op.Method, v14, v16, .bool x13.Read, .int .i64 x13.Reply.Err, .int .i64 x13.Reply.Out.Trap, .int .u8 x13.Reply.Out.Result.Kind, .int .i64 x13.Reply.Out.Result.A, .int .i64 x13.Reply.Out.Result.B, .int .i64 x13.Start, .int .i64 x13.End]) (vs := [.int .i64 x13.Proc, .int .u8 x13.Op.Kind, .int .i64 x13.Op.Method, v14, v16, .bool x13.Read, .int .i64 x13.Reply.Err, .int .i64 x13.Reply.Out.Trap, .int .u8 x13.Reply.Out.Result.Kind, .int .i64 x13.Reply.Out.Result.A, .int .i64 x13.Reply.Out.Result.B, .int .i64 x13.Start, .int .i64 x13.End]) 3 (by rfl) sz48 (by rfl) (by rfl) (by rfl) (by rfl) (one_cons rfl (one_cons rfl (one_cons rfl (one_cons hs_v14 (one_cons hs_v16 (one_cons rfl (one_cons rfl (one_cons rfl (one_cons rfl (one_cons rfl (one_cons rfl (one_cons rfl (one_cons rfl (rfl)))))))))))))) (by rfl) ?_
            refine SP.nil ?_
            refine QE.atT (fun w2 hw => (St.selO [] rfl rfl hw)) ?_
            refine DT.one 33 rfl (by kernel_rfl) rfl ?_
            refine SP.have (fun w2 hw => slR.shape (St.pers 9 rfl see.sub see.dj hw)) (fun hs_v23 => ?_)
            refine SP.have (fun w2 hw => slR.shape (St.pers 10 rfl see.sub see.dj hw)) (fun hs_v25 => ?_)
            refine SP.store (v := .agg #[.int .i64 x22.Proc, .int .u8 x22.Op.Kind, .int .i64 x22.Op.Method, v23, v25, .bool x22.Read, .int .i64 x22.Reply.Err, .int .i64 x22.Reply.Out.Trap, .int .u8 x22.Reply.Out.Result.Kind, .int .i64 x22.Reply.Out.Result.A, .int .i64 x22.Reply.Out.Result.B, .int .i64 x22.Start, .int .i64 x22.End]) (vs := [.int .i64 x22.Proc, .int .u8 x22.Op.Kind, .int .i64 x22.Op.Method, v23, v25, .bool x22.Read, .int .i64 x22.Reply.Err, .int .i64 x22.Reply.Out.Trap, .int .u8 x22.Reply.Out.Result.Kind, .int .i64 x22.Reply.Out.Result.A, .int .i64 x22.Reply.Out.Result.B, .int .i64 x22.Start, .int .i64 x22.End]) 2 (by rfl) sz48 (by rfl) (by rfl) (by rfl) (by rfl) (one_cons rfl (one_cons rfl (one_cons rfl (one_cons hs_v23 (one_cons hs_v25 (one_cons rfl (one_cons rfl (one_cons rfl (one_cons rfl (one_cons rfl (one_cons rfl (one_cons rfl (one_cons rfl (rfl)))))))))))))) (by rfl) ?_
            refine SP.nil ?_
            refine QE.atT (fun w2 hw => (St.selO [] rfl rfl hw)) ?_
            refine DT.one 34 rfl (by kernel_rfl) rfl ?_
            refine SP.have (fun w2 hw => slR.shape (St.pers 5 rfl see.sub see.dj hw)) (fun hs_v32 => ?_)
            refine SP.have (fun w2 hw => slR.shape (St.pers 6 rfl see.sub see.dj hw)) (fun hs_v34 => ?_)
            refine SP.store (v := .agg #[.int .i64 x31.Proc, .int .u8 x31.Op.Kind, .int .i64 x31.Op.Method, v32, v34, .bool x31.Read, .int .i64 x31.Reply.Err, .int .i64 x31.Reply.Out.Trap, .int .u8 x31.Reply.Out.Result.Kind, .int .i64 x31.Reply.Out.Result.A, .int .i64 x31.Reply.Out.Result.B, .int .i64 x31.Start, .int .i64 x31.End]) (vs := [.int .i64 x31.Proc, .int .u8 x31.Op.Kind, .int .i64 x31.Op.Method, v32, v34, .bool x31.Read, .int .i64 x31.Reply.Err, .int .i64 x31.Reply.Out.Trap, .int .u8 x31.Reply.Out.Result.Kind, .int .i64 x31.Reply.Out.Result.A, .int .i64 x31.Reply.Out.Result.B, .int .i64 x31.Start, .int .i64 x31.End]) 1 (by rfl) sz48 (by rfl) (by rfl) (by rfl) (by rfl) (one_cons rfl (one_cons rfl (one_cons rfl (one_cons hs_v32 (one_cons hs_v34 (one_cons rfl (one_cons rfl (one_cons rfl (one_cons rfl (one_cons rfl (one_cons rfl (one_cons rfl (one_cons rfl (rfl)))))))))))))) (by rfl) ?_
            refine SP.nil ?_
            refine QE.atT (fun w2 hw => (St.selO [] rfl rfl hw)) ?_
            refine DT.next (by kernel_rfl) ?_
            refine DA.one 35 rfl (by kernel_rfl) ?_
            refine SP.have (fun w2 hw => slR.shape (St.pers 1 rfl see.sub see.dj hw)) (fun hs_v41 => ?_)
            refine SP.have (fun w2 hw => slR.shape (St.pers 2 rfl see.sub see.dj hw)) (fun hs_v43 => ?_)
            refine SP.store (v := .agg #[.int .i64 x40.Proc, .int .u8 x40.Op.Kind, .int .i64 x40.Op.Method, v41, v43, .bool x40.Read, .int .i64 x40.Reply.Err, .int .i64 x40.Reply.Out.Trap, .int .u8 x40.Reply.Out.Result.Kind, .int .i64 x40.Reply.Out.Result.A, .int .i64 x40.Reply.Out.Result.B, .int .i64 x40.Start, .int .i64 x40.End]) (vs := [.int .i64 x40.Proc, .int .u8 x40.Op.Kind, .int .i64 x40.Op.Method, v41, v43, .bool x40.Read, .int .i64 x40.Reply.Err, .int .i64 x40.Reply.Out.Trap, .int .u8 x40.Reply.Out.Result.Kind, .int .i64 x40.Reply.Out.Result.A, .int .i64 x40.Reply.Out.Result.B, .int .i64 x40.Start, .int .i64 x40.End]) 0 (by rfl) sz48 (by rfl) (by rfl) (by rfl) (by rfl) (one_cons rfl (one_cons rfl (one_cons rfl (one_cons hs_v41 (one_cons hs_v43 (one_cons rfl (one_cons rfl (one_cons rfl (one_cons rfl (one_cons rfl (one_cons rfl (one_cons rfl (one_cons rfl (rfl)))))))))))))) (by rfl) ?_
            refine SP.nil ?_
            refine QE.atA ?_
            refine DA.done (by kernel_rfl) ?_
            refine QE.then ?_
            refine CP.seq ?_
            refine CP.seq ?_
            refine CP.region ?_
            refine SP.val (Val.loadA 3 rfl Try.underlying48 rfl sz48 rfl rfl rfl) rfl rfl rfl ?_
            refine SP.val (Val.loadA 3 rfl Try.underlying48 rfl sz48 rfl rfl rfl) rfl rfl rfl ?_
            obtain ⟨t71, hc, ho⟩ := bind_some ho
            refine SP.callV see (caps := []) (.bool t71) fn33 rfl rfl rfl rfl (fun w2 hP hs sub ap => history_Ahead.ok x13 x13 _ _ _ _ _ hc w2 hP sub (ap.get 13 rfl) (ap.get 14 rfl) (ap.get 13 rfl) (ap.get 14 rfl)) ?_
            clear hc
            refine SP.val (Val.move rfl) rfl rfl rfl ?_
            obtain ⟨t79, hg_t79, ho⟩ := bind_some ho
            refine SP.join 9 (fun a w2 => Env ⟨108, []⟩ [(12, .pointer (some ⟨b62, 0, none⟩)), (13, .pointer (some ⟨b64, 0, none⟩)), (14, .pointer (some ⟨b66, 0, none⟩)), (15, .pointer (some ⟨b68, 0, none⟩)), (73, .bool t79)] a ∧ St w em hV [atP p38 [.int .i64 x40.Proc, .int .u8 x40.Op.Kind, .int .i64 x40.Op.Method, v41, v43, .bool x40.Read, .int .i64 x40.Reply.Err, .int .i64 x40.Reply.Out.Trap, .int .u8 x40.Reply.Out.Result.Kind, .int .i64 x40.Reply.Out.Result.A, .int .i64 x40.Reply.Out.Result.B, .int .i64 x40.Start, .int .i64 x40.End], slP k_api_Value v41 x40.Op.Args, slP (kInt .u8) v43 x40.Op.Bytes, elP k_history_Call p38 x40, atP p29 [.int .i64 x31.Proc, .int .u8 x31.Op.Kind, .int .i64 x31.Op.Method, v32, v34, .bool x31.Read, .int .i64 x31.Reply.Err, .int .i64 x31.Reply.Out.Trap, .int .u8 x31.Reply.Out.Result.Kind, .int .i64 x31.Reply.Out.Result.A, .int .i64 x31.Reply.Out.Result.B, .int .i64 x31.Start, .int .i64 x31.End], slP k_api_Value v32 x31.Op.Args, slP (kInt .u8) v34 x31.Op.Bytes, elP k_history_Call p29 x31, atP p20 [.int .i64 x22.Proc, .int .u8 x22.Op.Kind, .int .i64 x22.Op.Method, v23, v25, .bool x22.Read, .int .i64 x22.Reply.Err, .int .i64 x22.Reply.Out.Trap, .int .u8 x22.Reply.Out.Result.Kind, .int .i64 x22.Reply.Out.Result.A, .int .i64 x22.Reply.Out.Result.B, .int .i64 x22.Start, .int .i64 x22.End], slP k_api_Value v23 x22.Op.Args, slP (kInt .u8) v25 x22.Op.Bytes, elP k_history_Call p20 x22, atP p11 [.int .i64 x13.Proc, .int .u8 x13.Op.Kind, .int .i64 x13.Op.Method, v14, v16, .bool x13.Read, .int .i64 x13.Reply.Err, .int .i64 x13.Reply.Out.Trap, .int .u8 x13.Reply.Out.Result.Kind, .int .i64 x13.Reply.Out.Result.A, .int .i64 x13.Reply.Out.Result.B, .int .i64 x13.Start, .int .i64 x13.End], slP k_api_Value v14 x13.Op.Args, slP (kInt .u8) v16 x13.Op.Bytes, elP k_history_Call p11 x13, slP k_history_Call v_l_0 l_0] [boxO b68 [.int .i64 x40.Proc, .int .u8 x40.Op.Kind, .int .i64 x40.Op.Method, v41, v43, .bool x40.Read, .int .i64 x40.Reply.Err, .int .i64 x40.Reply.Out.Trap, .int .u8 x40.Reply.Out.Result.Kind, .int .i64 x40.Reply.Out.Result.A, .int .i64 x40.Reply.Out.Result.B, .int .i64 x40.Start, .int .i64 x40.End] 48, boxO b66 [.int .i64 x31.Proc, .int .u8 x31.Op.Kind, .int .i64 x31.Op.Method, v32, v34, .bool x31.Read, .int .i64 x31.Reply.Err, .int .i64 x31.Reply.Out.Trap, .int .u8 x31.Reply.Out.Result.Kind, .int .i64 x31.Reply.Out.Result.A, .int .i64 x31.Reply.Out.Result.B, .int .i64 x31.Start, .int .i64 x31.End] 48, boxO b64 [.int .i64 x22.Proc, .int .u8 x22.Op.Kind, .int .i64 x22.Op.Method, v23, v25, .bool x22.Read, .int .i64 x22.Reply.Err, .int .i64 x22.Reply.Out.Trap, .int .u8 x22.Reply.Out.Result.Kind, .int .i64 x22.Reply.Out.Result.A, .int .i64 x22.Reply.Out.Result.B, .int .i64 x22.Start, .int .i64 x22.End] 48, boxO b62 [.int .i64 x13.Proc, .int .u8 x13.Op.Kind, .int .i64 x13.Op.Method, v14, v16, .bool x13.Read, .int .i64 x13.Reply.Err, .int .i64 x13.Reply.Out.Trap, .int .u8 x13.Reply.Out.Result.Kind, .int .i64 x13.Reply.Out.Result.A, .int .i64 x13.Reply.Out.Result.B, .int .i64 x13.Start, .int .i64 x13.End] 48] w2) ?_ ?_
            · rintro a w2 ⟨ha, hw⟩
              refine SP.app ha hw ?_
              clear ha hw a w2 hg_t79
              refine SP.nil ?_
              refine QE.then ?_
              rcases if_some ho with ⟨hc, ho⟩ | ⟨hc, ho⟩
              · refine CP.condT rfl hc ?_
                refine CP.seq ?_
                refine CP.region ?_
                refine SP.val (Val.assign rfl) rfl rfl rfl ?_
                refine SP.nil ?_
                refine QE.then ?_
                refine CP.ret ?_
                refine QE.thru (by intro e; cases e) ?_
                obtain rfl := Option.some.inj ho
                exact QE.rets (rs := [.tmp 10]) (vs := [.bool false]) Try.results7 rfl ⟨RVs.tmp rfl, trivial⟩ (fun w2 h => St.done (fun a b p s => rfl) h)
              · refine CP.condF rfl (bf hc) ?_
                refine CP.skip ?_
                refine QE.then ?_
                refine CP.seq ?_
                refine CP.seq ?_
                refine CP.region ?_
                refine SP.val (Val.loadA 3 rfl Try.underlying48 rfl sz48 rfl rfl rfl) rfl rfl rfl ?_
                refine SP.val (Val.loadA 2 rfl Try.underlying48 rfl sz48 rfl rfl rfl) rfl rfl rfl ?_
                obtain ⟨t80, hc, ho⟩ := bind_some ho
                refine SP.callV see (caps := []) (.bool t80) fn33 rfl rfl rfl rfl (fun w2 hP hs sub ap => history_Ahead.ok x13 x22 _ _ _ _ _ hc w2 hP sub (ap.get 13 rfl) (ap.get 14 rfl) (ap.get 9 rfl) (ap.get 10 rfl)) ?_
                clear hc
                refine SP.val (Val.move rfl) rfl rfl rfl ?_
                obtain ⟨t84, hg_t84, ho⟩ := bind_some ho
                refine SP.join 4 (fun a w2 => Env ⟨108, []⟩ [(12, .pointer (some ⟨b62, 0, none⟩)), (13, .pointer (some ⟨b64, 0, none⟩)), (14, .pointer (some ⟨b66, 0, none⟩)), (15, .pointer (some ⟨b68, 0, none⟩)), (81, .bool t84)] a ∧ St w em hV [atP p38 [.int .i64 x40.Proc, .int .u8 x40.Op.Kind, .int .i64 x40.Op.Method, v41, v43, .bool x40.Read, .int .i64 x40.Reply.Err, .int .i64 x40.Reply.Out.Trap, .int .u8 x40.Reply.Out.Result.Kind, .int .i64 x40.Reply.Out.Result.A, .int .i64 x40.Reply.Out.Result.B, .int .i64 x40.Start, .int .i64 x40.End], slP k_api_Value v41 x40.Op.Args, slP (kInt .u8) v43 x40.Op.Bytes, elP k_history_Call p38 x40, atP p29 [.int .i64 x31.Proc, .int .u8 x31.Op.Kind, .int .i64 x31.Op.Method, v32, v34, .bool x31.Read, .int .i64 x31.Reply.Err, .int .i64 x31.Reply.Out.Trap, .int .u8 x31.Reply.Out.Result.Kind, .int .i64 x31.Reply.Out.Result.A, .int .i64 x31.Reply.Out.Result.B, .int .i64 x31.Start, .int .i64 x31.End], slP k_api_Value v32 x31.Op.Args, slP (kInt .u8) v34 x31.Op.Bytes, elP k_history_Call p29 x31, atP p20 [.int .i64 x22.Proc, .int .u8 x22.Op.Kind, .int .i64 x22.Op.Method, v23, v25, .bool x22.Read, .int .i64 x22.Reply.Err, .int .i64 x22.Reply.Out.Trap, .int .u8 x22.Reply.Out.Result.Kind, .int .i64 x22.Reply.Out.Result.A, .int .i64 x22.Reply.Out.Result.B, .int .i64 x22.Start, .int .i64 x22.End], slP k_api_Value v23 x22.Op.Args, slP (kInt .u8) v25 x22.Op.Bytes, elP k_history_Call p20 x22, atP p11 [.int .i64 x13.Proc, .int .u8 x13.Op.Kind, .int .i64 x13.Op.Method, v14, v16, .bool x13.Read, .int .i64 x13.Reply.Err, .int .i64 x13.Reply.Out.Trap, .int .u8 x13.Reply.Out.Result.Kind, .int .i64 x13.Reply.Out.Result.A, .int .i64 x13.Reply.Out.Result.B, .int .i64 x13.Start, .int .i64 x13.End], slP k_api_Value v14 x13.Op.Args, slP (kInt .u8) v16 x13.Op.Bytes, elP k_history_Call p11 x13, slP k_history_Call v_l_0 l_0] [boxO b68 [.int .i64 x40.Proc, .int .u8 x40.Op.Kind, .int .i64 x40.Op.Method, v41, v43, .bool x40.Read, .int .i64 x40.Reply.Err, .int .i64 x40.Reply.Out.Trap, .int .u8 x40.Reply.Out.Result.Kind, .int .i64 x40.Reply.Out.Result.A, .int .i64 x40.Reply.Out.Result.B, .int .i64 x40.Start, .int .i64 x40.End] 48, boxO b66 [.int .i64 x31.Proc, .int .u8 x31.Op.Kind, .int .i64 x31.Op.Method, v32, v34, .bool x31.Read, .int .i64 x31.Reply.Err, .int .i64 x31.Reply.Out.Trap, .int .u8 x31.Reply.Out.Result.Kind, .int .i64 x31.Reply.Out.Result.A, .int .i64 x31.Reply.Out.Result.B, .int .i64 x31.Start, .int .i64 x31.End] 48, boxO b64 [.int .i64 x22.Proc, .int .u8 x22.Op.Kind, .int .i64 x22.Op.Method, v23, v25, .bool x22.Read, .int .i64 x22.Reply.Err, .int .i64 x22.Reply.Out.Trap, .int .u8 x22.Reply.Out.Result.Kind, .int .i64 x22.Reply.Out.Result.A, .int .i64 x22.Reply.Out.Result.B, .int .i64 x22.Start, .int .i64 x22.End] 48, boxO b62 [.int .i64 x13.Proc, .int .u8 x13.Op.Kind, .int .i64 x13.Op.Method, v14, v16, .bool x13.Read, .int .i64 x13.Reply.Err, .int .i64 x13.Reply.Out.Trap, .int .u8 x13.Reply.Out.Result.Kind, .int .i64 x13.Reply.Out.Result.A, .int .i64 x13.Reply.Out.Result.B, .int .i64 x13.Start, .int .i64 x13.End] 48] w2) ?_ ?_
                · rintro a w2 ⟨ha, hw⟩
                  refine SP.app ha hw ?_
                  clear ha hw a w2 hg_t84
                  refine SP.val (Val.move rfl) rfl rfl rfl ?_
                  obtain ⟨t88, hg_t88, ho⟩ := bind_some ho
                  refine SP.join 5 (fun a w2 => Env ⟨108, []⟩ [(12, .pointer (some ⟨b62, 0, none⟩)), (13, .pointer (some ⟨b64, 0, none⟩)), (14, .pointer (some ⟨b66, 0, none⟩)), (15, .pointer (some ⟨b68, 0, none⟩)), (87, .bool t88)] a ∧ St w em hV [atP p38 [.int .i64 x40.Proc, .int .u8 x40.Op.Kind, .int .i64 x40.Op.Method, v41, v43, .bool x40.Read, .int .i64 x40.Reply.Err, .int .i64 x40.Reply.Out.Trap, .int .u8 x40.Reply.Out.Result.Kind, .int .i64 x40.Reply.Out.Result.A, .int .i64 x40.Reply.Out.Result.B, .int .i64 x40.Start, .int .i64 x40.End], slP k_api_Value v41 x40.Op.Args, slP (kInt .u8) v43 x40.Op.Bytes, elP k_history_Call p38 x40, atP p29 [.int .i64 x31.Proc, .int .u8 x31.Op.Kind, .int .i64 x31.Op.Method, v32, v34, .bool x31.Read, .int .i64 x31.Reply.Err, .int .i64 x31.Reply.Out.Trap, .int .u8 x31.Reply.Out.Result.Kind, .int .i64 x31.Reply.Out.Result.A, .int .i64 x31.Reply.Out.Result.B, .int .i64 x31.Start, .int .i64 x31.End], slP k_api_Value v32 x31.Op.Args, slP (kInt .u8) v34 x31.Op.Bytes, elP k_history_Call p29 x31, atP p20 [.int .i64 x22.Proc, .int .u8 x22.Op.Kind, .int .i64 x22.Op.Method, v23, v25, .bool x22.Read, .int .i64 x22.Reply.Err, .int .i64 x22.Reply.Out.Trap, .int .u8 x22.Reply.Out.Result.Kind, .int .i64 x22.Reply.Out.Result.A, .int .i64 x22.Reply.Out.Result.B, .int .i64 x22.Start, .int .i64 x22.End], slP k_api_Value v23 x22.Op.Args, slP (kInt .u8) v25 x22.Op.Bytes, elP k_history_Call p20 x22, atP p11 [.int .i64 x13.Proc, .int .u8 x13.Op.Kind, .int .i64 x13.Op.Method, v14, v16, .bool x13.Read, .int .i64 x13.Reply.Err, .int .i64 x13.Reply.Out.Trap, .int .u8 x13.Reply.Out.Result.Kind, .int .i64 x13.Reply.Out.Result.A, .int .i64 x13.Reply.Out.Result.B, .int .i64 x13.Start, .int .i64 x13.End], slP k_api_Value v14 x13.Op.Args, slP (kInt .u8) v16 x13.Op.Bytes, elP k_history_Call p11 x13, slP k_history_Call v_l_0 l_0] [boxO b68 [.int .i64 x40.Proc, .int .u8 x40.Op.Kind, .int .i64 x40.Op.Method, v41, v43, .bool x40.Read, .int .i64 x40.Reply.Err, .int .i64 x40.Reply.Out.Trap, .int .u8 x40.Reply.Out.Result.Kind, .int .i64 x40.Reply.Out.Result.A, .int .i64 x40.Reply.Out.Result.B, .int .i64 x40.Start, .int .i64 x40.End] 48, boxO b66 [.int .i64 x31.Proc, .int .u8 x31.Op.Kind, .int .i64 x31.Op.Method, v32, v34, .bool x31.Read, .int .i64 x31.Reply.Err, .int .i64 x31.Reply.Out.Trap, .int .u8 x31.Reply.Out.Result.Kind, .int .i64 x31.Reply.Out.Result.A, .int .i64 x31.Reply.Out.Result.B, .int .i64 x31.Start, .int .i64 x31.End] 48, boxO b64 [.int .i64 x22.Proc, .int .u8 x22.Op.Kind, .int .i64 x22.Op.Method, v23, v25, .bool x22.Read, .int .i64 x22.Reply.Err, .int .i64 x22.Reply.Out.Trap, .int .u8 x22.Reply.Out.Result.Kind, .int .i64 x22.Reply.Out.Result.A, .int .i64 x22.Reply.Out.Result.B, .int .i64 x22.Start, .int .i64 x22.End] 48, boxO b62 [.int .i64 x13.Proc, .int .u8 x13.Op.Kind, .int .i64 x13.Op.Method, v14, v16, .bool x13.Read, .int .i64 x13.Reply.Err, .int .i64 x13.Reply.Out.Trap, .int .u8 x13.Reply.Out.Result.Kind, .int .i64 x13.Reply.Out.Result.A, .int .i64 x13.Reply.Out.Result.B, .int .i64 x13.Start, .int .i64 x13.End] 48] w2) ?_ ?_
                  · rintro a w2 ⟨ha, hw⟩
                    refine SP.app ha hw ?_
                    clear ha hw a w2 hg_t88
                    refine SP.nil ?_
                    refine QE.then ?_
                    rcases if_some ho with ⟨hc, ho⟩ | ⟨hc, ho⟩
                    · refine CP.condT rfl hc ?_
                      refine CP.seq ?_
                      refine CP.region ?_
                      refine SP.val (Val.assign rfl) rfl rfl rfl ?_
                      refine SP.nil ?_
                      refine QE.then ?_
                      refine CP.ret ?_
                      refine QE.thru (by intro e; cases e) ?_
                      obtain rfl := Option.some.inj ho
                      exact QE.rets (rs := [.tmp 10]) (vs := [.bool false]) Try.results7 rfl ⟨RVs.tmp rfl, trivial⟩ (fun w2 h => St.done (fun a b p s => rfl) h)
                    · refine CP.condF rfl (bf hc) ?_
                      refine CP.skip ?_
                      refine QE.then ?_
                      refine CP.seq ?_
                      refine CP.region ?_
                      refine SP.val (Val.loadA 3 rfl Try.underlying48 rfl sz48 rfl rfl rfl) rfl rfl rfl ?_
                      refine SP.val (Val.loadA 2 rfl Try.underlying48 rfl sz48 rfl rfl rfl) rfl rfl rfl ?_
                      obtain ⟨t89, hc, ho⟩ := bind_some ho
                      refine SP.callV see (caps := []) (.bool t89) fn33 rfl rfl rfl rfl (fun w2 hP hs sub ap => history_Ahead.ok x13 x22 _ _ _ _ _ hc w2 hP sub (ap.get 13 rfl) (ap.get 14 rfl) (ap.get 9 rfl) (ap.get 10 rfl)) ?_
                      clear hc
                      refine SP.val (Val.notB rfl) rfl rfl rfl ?_
                      refine SP.val (Val.move rfl) rfl rfl rfl ?_
                      obtain ⟨t93, hg_t93, ho⟩ := bind_some ho
                      refine SP.join 5 (fun a w2 => Env ⟨108, []⟩ [(12, .pointer (some ⟨b62, 0, none⟩)), (13, .pointer (some ⟨b64, 0, none⟩)), (14, .pointer (some ⟨b66, 0, none⟩)), (15, .pointer (some ⟨b68, 0, none⟩)), (97, .bool t93)] a ∧ St w em hV [atP p38 [.int .i64 x40.Proc, .int .u8 x40.Op.Kind, .int .i64 x40.Op.Method, v41, v43, .bool x40.Read, .int .i64 x40.Reply.Err, .int .i64 x40.Reply.Out.Trap, .int .u8 x40.Reply.Out.Result.Kind, .int .i64 x40.Reply.Out.Result.A, .int .i64 x40.Reply.Out.Result.B, .int .i64 x40.Start, .int .i64 x40.End], slP k_api_Value v41 x40.Op.Args, slP (kInt .u8) v43 x40.Op.Bytes, elP k_history_Call p38 x40, atP p29 [.int .i64 x31.Proc, .int .u8 x31.Op.Kind, .int .i64 x31.Op.Method, v32, v34, .bool x31.Read, .int .i64 x31.Reply.Err, .int .i64 x31.Reply.Out.Trap, .int .u8 x31.Reply.Out.Result.Kind, .int .i64 x31.Reply.Out.Result.A, .int .i64 x31.Reply.Out.Result.B, .int .i64 x31.Start, .int .i64 x31.End], slP k_api_Value v32 x31.Op.Args, slP (kInt .u8) v34 x31.Op.Bytes, elP k_history_Call p29 x31, atP p20 [.int .i64 x22.Proc, .int .u8 x22.Op.Kind, .int .i64 x22.Op.Method, v23, v25, .bool x22.Read, .int .i64 x22.Reply.Err, .int .i64 x22.Reply.Out.Trap, .int .u8 x22.Reply.Out.Result.Kind, .int .i64 x22.Reply.Out.Result.A, .int .i64 x22.Reply.Out.Result.B, .int .i64 x22.Start, .int .i64 x22.End], slP k_api_Value v23 x22.Op.Args, slP (kInt .u8) v25 x22.Op.Bytes, elP k_history_Call p20 x22, atP p11 [.int .i64 x13.Proc, .int .u8 x13.Op.Kind, .int .i64 x13.Op.Method, v14, v16, .bool x13.Read, .int .i64 x13.Reply.Err, .int .i64 x13.Reply.Out.Trap, .int .u8 x13.Reply.Out.Result.Kind, .int .i64 x13.Reply.Out.Result.A, .int .i64 x13.Reply.Out.Result.B, .int .i64 x13.Start, .int .i64 x13.End], slP k_api_Value v14 x13.Op.Args, slP (kInt .u8) v16 x13.Op.Bytes, elP k_history_Call p11 x13, slP k_history_Call v_l_0 l_0] [boxO b68 [.int .i64 x40.Proc, .int .u8 x40.Op.Kind, .int .i64 x40.Op.Method, v41, v43, .bool x40.Read, .int .i64 x40.Reply.Err, .int .i64 x40.Reply.Out.Trap, .int .u8 x40.Reply.Out.Result.Kind, .int .i64 x40.Reply.Out.Result.A, .int .i64 x40.Reply.Out.Result.B, .int .i64 x40.Start, .int .i64 x40.End] 48, boxO b66 [.int .i64 x31.Proc, .int .u8 x31.Op.Kind, .int .i64 x31.Op.Method, v32, v34, .bool x31.Read, .int .i64 x31.Reply.Err, .int .i64 x31.Reply.Out.Trap, .int .u8 x31.Reply.Out.Result.Kind, .int .i64 x31.Reply.Out.Result.A, .int .i64 x31.Reply.Out.Result.B, .int .i64 x31.Start, .int .i64 x31.End] 48, boxO b64 [.int .i64 x22.Proc, .int .u8 x22.Op.Kind, .int .i64 x22.Op.Method, v23, v25, .bool x22.Read, .int .i64 x22.Reply.Err, .int .i64 x22.Reply.Out.Trap, .int .u8 x22.Reply.Out.Result.Kind, .int .i64 x22.Reply.Out.Result.A, .int .i64 x22.Reply.Out.Result.B, .int .i64 x22.Start, .int .i64 x22.End] 48, boxO b62 [.int .i64 x13.Proc, .int .u8 x13.Op.Kind, .int .i64 x13.Op.Method, v14, v16, .bool x13.Read, .int .i64 x13.Reply.Err, .int .i64 x13.Reply.Out.Trap, .int .u8 x13.Reply.Out.Result.Kind, .int .i64 x13.Reply.Out.Result.A, .int .i64 x13.Reply.Out.Result.B, .int .i64 x13.Start, .int .i64 x13.End] 48] w2) ?_ ?_
                      · rintro a w2 ⟨ha, hw⟩
                        refine SP.app ha hw ?_
                        clear ha hw a w2 hg_t93
                        refine SP.val (Val.move rfl) rfl rfl rfl ?_
                        obtain ⟨t97, hg_t97, ho⟩ := bind_some ho
                        refine SP.join 4 (fun a w2 => Env ⟨108, []⟩ [(13, .pointer (some ⟨b64, 0, none⟩)), (14, .pointer (some ⟨b66, 0, none⟩)), (102, .bool t97)] a ∧ St w em hV [atP p38 [.int .i64 x40.Proc, .int .u8 x40.Op.Kind, .int .i64 x40.Op.Method, v41, v43, .bool x40.Read, .int .i64 x40.Reply.Err, .int .i64 x40.Reply.Out.Trap, .int .u8 x40.Reply.Out.Result.Kind, .int .i64 x40.Reply.Out.Result.A, .int .i64 x40.Reply.Out.Result.B, .int .i64 x40.Start, .int .i64 x40.End], slP k_api_Value v41 x40.Op.Args, slP (kInt .u8) v43 x40.Op.Bytes, elP k_history_Call p38 x40, atP p29 [.int .i64 x31.Proc, .int .u8 x31.Op.Kind, .int .i64 x31.Op.Method, v32, v34, .bool x31.Read, .int .i64 x31.Reply.Err, .int .i64 x31.Reply.Out.Trap, .int .u8 x31.Reply.Out.Result.Kind, .int .i64 x31.Reply.Out.Result.A, .int .i64 x31.Reply.Out.Result.B, .int .i64 x31.Start, .int .i64 x31.End], slP k_api_Value v32 x31.Op.Args, slP (kInt .u8) v34 x31.Op.Bytes, elP k_history_Call p29 x31, atP p20 [.int .i64 x22.Proc, .int .u8 x22.Op.Kind, .int .i64 x22.Op.Method, v23, v25, .bool x22.Read, .int .i64 x22.Reply.Err, .int .i64 x22.Reply.Out.Trap, .int .u8 x22.Reply.Out.Result.Kind, .int .i64 x22.Reply.Out.Result.A, .int .i64 x22.Reply.Out.Result.B, .int .i64 x22.Start, .int .i64 x22.End], slP k_api_Value v23 x22.Op.Args, slP (kInt .u8) v25 x22.Op.Bytes, elP k_history_Call p20 x22, atP p11 [.int .i64 x13.Proc, .int .u8 x13.Op.Kind, .int .i64 x13.Op.Method, v14, v16, .bool x13.Read, .int .i64 x13.Reply.Err, .int .i64 x13.Reply.Out.Trap, .int .u8 x13.Reply.Out.Result.Kind, .int .i64 x13.Reply.Out.Result.A, .int .i64 x13.Reply.Out.Result.B, .int .i64 x13.Start, .int .i64 x13.End], slP k_api_Value v14 x13.Op.Args, slP (kInt .u8) v16 x13.Op.Bytes, elP k_history_Call p11 x13, slP k_history_Call v_l_0 l_0] [boxO b68 [.int .i64 x40.Proc, .int .u8 x40.Op.Kind, .int .i64 x40.Op.Method, v41, v43, .bool x40.Read, .int .i64 x40.Reply.Err, .int .i64 x40.Reply.Out.Trap, .int .u8 x40.Reply.Out.Result.Kind, .int .i64 x40.Reply.Out.Result.A, .int .i64 x40.Reply.Out.Result.B, .int .i64 x40.Start, .int .i64 x40.End] 48, boxO b66 [.int .i64 x31.Proc, .int .u8 x31.Op.Kind, .int .i64 x31.Op.Method, v32, v34, .bool x31.Read, .int .i64 x31.Reply.Err, .int .i64 x31.Reply.Out.Trap, .int .u8 x31.Reply.Out.Result.Kind, .int .i64 x31.Reply.Out.Result.A, .int .i64 x31.Reply.Out.Result.B, .int .i64 x31.Start, .int .i64 x31.End] 48, boxO b64 [.int .i64 x22.Proc, .int .u8 x22.Op.Kind, .int .i64 x22.Op.Method, v23, v25, .bool x22.Read, .int .i64 x22.Reply.Err, .int .i64 x22.Reply.Out.Trap, .int .u8 x22.Reply.Out.Result.Kind, .int .i64 x22.Reply.Out.Result.A, .int .i64 x22.Reply.Out.Result.B, .int .i64 x22.Start, .int .i64 x22.End] 48, boxO b62 [.int .i64 x13.Proc, .int .u8 x13.Op.Kind, .int .i64 x13.Op.Method, v14, v16, .bool x13.Read, .int .i64 x13.Reply.Err, .int .i64 x13.Reply.Out.Trap, .int .u8 x13.Reply.Out.Result.Kind, .int .i64 x13.Reply.Out.Result.A, .int .i64 x13.Reply.Out.Result.B, .int .i64 x13.Start, .int .i64 x13.End] 48] w2) ?_ ?_
                        · rintro a w2 ⟨ha, hw⟩
                          refine SP.app ha hw ?_
                          clear ha hw a w2 hg_t97
                          refine SP.val (Val.move rfl) rfl rfl rfl ?_
                          obtain ⟨t101, hg_t101, ho⟩ := bind_some ho
                          refine SP.join 4 (fun a w2 => Env ⟨108, []⟩ [(107, .bool t101)] a ∧ St w em hV [atP p38 [.int .i64 x40.Proc, .int .u8 x40.Op.Kind, .int .i64 x40.Op.Method, v41, v43, .bool x40.Read, .int .i64 x40.Reply.Err, .int .i64 x40.Reply.Out.Trap, .int .u8 x40.Reply.Out.Result.Kind, .int .i64 x40.Reply.Out.Result.A, .int .i64 x40.Reply.Out.Result.B, .int .i64 x40.Start, .int .i64 x40.End], slP k_api_Value v41 x40.Op.Args, slP (kInt .u8) v43 x40.Op.Bytes, elP k_history_Call p38 x40, atP p29 [.int .i64 x31.Proc, .int .u8 x31.Op.Kind, .int .i64 x31.Op.Method, v32, v34, .bool x31.Read, .int .i64 x31.Reply.Err, .int .i64 x31.Reply.Out.Trap, .int .u8 x31.Reply.Out.Result.Kind, .int .i64 x31.Reply.Out.Result.A, .int .i64 x31.Reply.Out.Result.B, .int .i64 x31.Start, .int .i64 x31.End], slP k_api_Value v32 x31.Op.Args, slP (kInt .u8) v34 x31.Op.Bytes, elP k_history_Call p29 x31, atP p20 [.int .i64 x22.Proc, .int .u8 x22.Op.Kind, .int .i64 x22.Op.Method, v23, v25, .bool x22.Read, .int .i64 x22.Reply.Err, .int .i64 x22.Reply.Out.Trap, .int .u8 x22.Reply.Out.Result.Kind, .int .i64 x22.Reply.Out.Result.A, .int .i64 x22.Reply.Out.Result.B, .int .i64 x22.Start, .int .i64 x22.End], slP k_api_Value v23 x22.Op.Args, slP (kInt .u8) v25 x22.Op.Bytes, elP k_history_Call p20 x22, atP p11 [.int .i64 x13.Proc, .int .u8 x13.Op.Kind, .int .i64 x13.Op.Method, v14, v16, .bool x13.Read, .int .i64 x13.Reply.Err, .int .i64 x13.Reply.Out.Trap, .int .u8 x13.Reply.Out.Result.Kind, .int .i64 x13.Reply.Out.Result.A, .int .i64 x13.Reply.Out.Result.B, .int .i64 x13.Start, .int .i64 x13.End], slP k_api_Value v14 x13.Op.Args, slP (kInt .u8) v16 x13.Op.Bytes, elP k_history_Call p11 x13, slP k_history_Call v_l_0 l_0] [boxO b68 [.int .i64 x40.Proc, .int .u8 x40.Op.Kind, .int .i64 x40.Op.Method, v41, v43, .bool x40.Read, .int .i64 x40.Reply.Err, .int .i64 x40.Reply.Out.Trap, .int .u8 x40.Reply.Out.Result.Kind, .int .i64 x40.Reply.Out.Result.A, .int .i64 x40.Reply.Out.Result.B, .int .i64 x40.Start, .int .i64 x40.End] 48, boxO b66 [.int .i64 x31.Proc, .int .u8 x31.Op.Kind, .int .i64 x31.Op.Method, v32, v34, .bool x31.Read, .int .i64 x31.Reply.Err, .int .i64 x31.Reply.Out.Trap, .int .u8 x31.Reply.Out.Result.Kind, .int .i64 x31.Reply.Out.Result.A, .int .i64 x31.Reply.Out.Result.B, .int .i64 x31.Start, .int .i64 x31.End] 48, boxO b64 [.int .i64 x22.Proc, .int .u8 x22.Op.Kind, .int .i64 x22.Op.Method, v23, v25, .bool x22.Read, .int .i64 x22.Reply.Err, .int .i64 x22.Reply.Out.Trap, .int .u8 x22.Reply.Out.Result.Kind, .int .i64 x22.Reply.Out.Result.A, .int .i64 x22.Reply.Out.Result.B, .int .i64 x22.Start, .int .i64 x22.End] 48, boxO b62 [.int .i64 x13.Proc, .int .u8 x13.Op.Kind, .int .i64 x13.Op.Method, v14, v16, .bool x13.Read, .int .i64 x13.Reply.Err, .int .i64 x13.Reply.Out.Trap, .int .u8 x13.Reply.Out.Result.Kind, .int .i64 x13.Reply.Out.Result.A, .int .i64 x13.Reply.Out.Result.B, .int .i64 x13.Start, .int .i64 x13.End] 48] w2) ?_ ?_
                          · rintro a w2 ⟨ha, hw⟩
                            refine SP.app ha hw ?_
                            clear ha hw a w2 hg_t101
                            refine SP.val (Val.assign rfl) rfl rfl rfl ?_
                            refine SP.nil ?_
                            refine QE.then ?_
                            refine CP.ret ?_
                            obtain rfl := Option.some.inj ho
                            exact QE.rets (rs := [.tmp 10]) (vs := [.bool t101]) Try.results7 rfl ⟨RVs.tmp rfl, trivial⟩ (fun w2 h => St.done (fun a b p s => rfl) h)
                          · intro J
                            clear ho
                            have ho := hg_t101
                            clear hg_t101
                            rcases if_some ho with ⟨hc, ho⟩ | ⟨hc, ho⟩
                            · have hq99 := hc
                              refine SP.isT (d := 103) rfl hq99 ?_
                              refine SP.not rfl rfl rfl ?_
                              refine SP.not rfl rfl rfl ?_
                              refine SP.not rfl rfl rfl ?_
                              refine SP.val (Val.pickT rfl rfl) rfl rfl rfl ?_
                              obtain rfl := Option.some.inj ho
                              exact J fun a w2 ha hw => ⟨ha.sub ⟨rfl, trivial⟩, hw⟩
                            · have hq99 := (bf hc)
                              refine SP.isF (d := 103) rfl hq99 ?_
                              refine SP.val (Val.loadA 1 rfl Try.underlying48 rfl sz48 rfl rfl rfl) rfl rfl rfl ?_
                              refine SP.val (Val.loadA 2 rfl Try.underlying48 rfl sz48 rfl rfl rfl) rfl rfl rfl ?_
                              obtain ⟨t100, hc, ho⟩ := bind_some ho
                              refine SP.callV see (caps := []) (.bool t100) fn33 rfl rfl rfl rfl (fun w2 hP hs sub ap => history_Ahead.ok x31 x22 _ _ _ _ _ hc w2 hP sub (ap.get 5 rfl) (ap.get 6 rfl) (ap.get 9 rfl) (ap.get 10 rfl)) ?_
                              clear hc
                              refine SP.val (Val.pickF rfl rfl) rfl rfl rfl ?_
                              obtain rfl := Option.some.inj ho
                              exact J fun a w2 ha hw => ⟨ha.sub ⟨rfl, trivial⟩, hw⟩
                        · intro J
                          clear ho
                          have ho := hg_t97
                          clear hg_t97
                          rcases if_some ho with ⟨hc, ho⟩ | ⟨hc, ho⟩
                          · have hq95 := hc
                            refine SP.isT (d := 98) rfl hq95 ?_
                            refine SP.not rfl rfl rfl ?_
                            refine SP.not rfl rfl rfl ?_
                            refine SP.not rfl rfl rfl ?_
                            refine SP.val (Val.pickT rfl rfl) rfl rfl rfl ?_
                            obtain rfl := Option.some.inj ho
                            exact J fun a w2 ha hw => ⟨ha.sub ⟨rfl, rfl, rfl, trivial⟩, hw⟩
                          · have hq95 := (bf hc)
                            refine SP.isF (d := 98) rfl hq95 ?_
                            refine SP.val (Val.loadA 3 rfl Try.underlying48 rfl sz48 rfl rfl rfl) rfl rfl rfl ?_
                            refine SP.val (Val.loadA 0 rfl Try.underlying48 rfl sz48 rfl rfl rfl) rfl rfl rfl ?_
                            obtain ⟨t96, hc, ho⟩ := bind_some ho
                            refine SP.callV see (caps := []) (.bool t96) fn33 rfl rfl rfl rfl (fun w2 hP hs sub ap => history_Ahead.ok x13 x40 _ _ _ _ _ hc w2 hP sub (ap.get 13 rfl) (ap.get 14 rfl) (ap.get 1 rfl) (ap.get 2 rfl)) ?_
                            clear hc
                            refine SP.val (Val.pickF rfl rfl) rfl rfl rfl ?_
                            obtain rfl := Option.some.inj ho
                            exact J fun a w2 ha hw => ⟨ha.sub ⟨rfl, rfl, rfl, trivial⟩, hw⟩
                      · intro J
                        clear ho
                        have ho := hg_t93
                        clear hg_t93
                        rcases if_some ho with ⟨hc, ho⟩ | ⟨hc, ho⟩
                        · have hq91 := hc
                          refine SP.isT (d := 92) rfl hq91 ?_
                          refine SP.not rfl rfl rfl ?_
                          refine SP.not rfl rfl rfl ?_
                          refine SP.not rfl rfl rfl ?_
                          refine SP.not rfl rfl rfl ?_
                          refine SP.val (Val.pickT rfl rfl) rfl rfl rfl ?_
                          obtain rfl := Option.some.inj ho
                          exact J fun a w2 ha hw => ⟨ha.sub ⟨rfl, rfl, rfl, rfl, rfl, trivial⟩, hw⟩
                        · have hq91 := (bf hc)
                          refine SP.isF (d := 92) rfl hq91 ?_
                          refine SP.val (Val.loadA 1 rfl Try.underlying48 rfl sz48 rfl rfl rfl) rfl rfl rfl ?_
                          refine SP.val (Val.loadA 0 rfl Try.underlying48 rfl sz48 rfl rfl rfl) rfl rfl rfl ?_
                          obtain ⟨t92, hc, ho⟩ := bind_some ho
                          refine SP.callV see (caps := []) (.bool t92) fn33 rfl rfl rfl rfl (fun w2 hP hs sub ap => history_Ahead.ok x31 x40 _ _ _ _ _ hc w2 hP sub (ap.get 5 rfl) (ap.get 6 rfl) (ap.get 1 rfl) (ap.get 2 rfl)) ?_
                          clear hc
                          refine SP.val (Val.notB rfl) rfl rfl rfl ?_
                          refine SP.val (Val.pickF rfl rfl) rfl rfl rfl ?_
                          obtain rfl := Option.some.inj ho
                          exact J fun a w2 ha hw => ⟨ha.sub ⟨rfl, rfl, rfl, rfl, rfl, trivial⟩, hw⟩
                  · intro J
                    clear ho
                    have ho := hg_t88
                    clear hg_t88
                    rcases if_some ho with ⟨hc, ho⟩ | ⟨hc, ho⟩
                    · have hq86 := hc
                      refine SP.isT (d := 82) rfl hq86 ?_
                      refine SP.val (Val.loadA 3 rfl Try.underlying48 rfl sz48 rfl rfl rfl) rfl rfl rfl ?_
                      refine SP.val (Val.loadA 1 rfl Try.underlying48 rfl sz48 rfl rfl rfl) rfl rfl rfl ?_
                      obtain ⟨t87, hc, ho⟩ := bind_some ho
                      refine SP.callV see (caps := []) (.bool t87) fn33 rfl rfl rfl rfl (fun w2 hP hs sub ap => history_Ahead.ok x13 x31 _ _ _ _ _ hc w2 hP sub (ap.get 13 rfl) (ap.get 14 rfl) (ap.get 5 rfl) (ap.get 6 rfl)) ?_
                      clear hc
                      refine SP.val (Val.notB rfl) rfl rfl rfl ?_
                      refine SP.val (Val.pickT rfl rfl) rfl rfl rfl ?_
                      obtain rfl := Option.some.inj ho
                      exact J fun a w2 ha hw => ⟨ha.sub ⟨rfl, rfl, rfl, rfl, rfl, trivial⟩, hw⟩
                    · have hq86 := (bf hc)
                      refine SP.isF (d := 82) rfl hq86 ?_
                      refine SP.not rfl rfl rfl ?_
                      refine SP.not rfl rfl rfl ?_
                      refine SP.not rfl rfl rfl ?_
                      refine SP.not rfl rfl rfl ?_
                      refine SP.val (Val.pickF rfl rfl) rfl rfl rfl ?_
                      obtain rfl := Option.some.inj ho
                      exact J fun a w2 ha hw => ⟨ha.sub ⟨rfl, rfl, rfl, rfl, rfl, trivial⟩, hw⟩
                · intro J
                  clear ho
                  have ho := hg_t84
                  clear hg_t84
                  rcases if_some ho with ⟨hc, ho⟩ | ⟨hc, ho⟩
                  · have hq82 := hc
                    refine SP.isT (d := 77) rfl hq82 ?_
                    refine SP.val (Val.loadA 2 rfl Try.underlying48 rfl sz48 rfl rfl rfl) rfl rfl rfl ?_
                    refine SP.val (Val.loadA 1 rfl Try.underlying48 rfl sz48 rfl rfl rfl) rfl rfl rfl ?_
                    obtain ⟨t83, hc, ho⟩ := bind_some ho
                    refine SP.callV see (caps := []) (.bool t83) fn33 rfl rfl rfl rfl (fun w2 hP hs sub ap => history_Ahead.ok x22 x31 _ _ _ _ _ hc w2 hP sub (ap.get 9 rfl) (ap.get 10 rfl) (ap.get 5 rfl) (ap.get 6 rfl)) ?_
                    clear hc
                    refine SP.val (Val.pickT rfl rfl) rfl rfl rfl ?_
                    obtain rfl := Option.some.inj ho
                    exact J fun a w2 ha hw => ⟨ha.sub ⟨rfl, rfl, rfl, rfl, rfl, trivial⟩, hw⟩
                  · have hq82 := (bf hc)
                    refine SP.isF (d := 77) rfl hq82 ?_
                    refine SP.not rfl rfl rfl ?_
                    refine SP.not rfl rfl rfl ?_
                    refine SP.not rfl rfl rfl ?_
                    refine SP.val (Val.pickF rfl rfl) rfl rfl rfl ?_
                    obtain rfl := Option.some.inj ho
                    exact J fun a w2 ha hw => ⟨ha.sub ⟨rfl, rfl, rfl, rfl, rfl, trivial⟩, hw⟩
            · intro J
              clear ho
              have ho := hg_t79
              clear hg_t79
              rcases if_some ho with ⟨hc, ho⟩ | ⟨hc, ho⟩
              · have hq73 := hc
                refine SP.isT (d := 64) rfl hq73 ?_
                refine SP.not rfl rfl rfl ?_
                refine SP.not rfl rfl rfl ?_
                refine SP.not rfl rfl rfl ?_
                refine SP.not rfl rfl rfl ?_
                refine SP.not rfl rfl rfl ?_
                refine SP.not rfl rfl rfl ?_
                refine SP.not rfl rfl rfl ?_
                refine SP.not rfl rfl rfl ?_
                refine SP.val (Val.pickT rfl rfl) rfl rfl rfl ?_
                obtain rfl := Option.some.inj ho
                exact J fun a w2 ha hw => ⟨ha.sub ⟨rfl, rfl, rfl, rfl, rfl, trivial⟩, hw⟩
              · have hq73 := (bf hc)
                refine SP.isF (d := 64) rfl hq73 ?_
                refine SP.val (Val.loadA 3 rfl Try.underlying48 rfl sz48 rfl rfl rfl) rfl rfl rfl ?_
                refine SP.val (Val.loadA 2 rfl Try.underlying48 rfl sz48 rfl rfl rfl) rfl rfl rfl ?_
                obtain ⟨t74, hc, ho⟩ := bind_some ho
                refine SP.callV see (caps := []) (.bool t74) fn33 rfl rfl rfl rfl (fun w2 hP hs sub ap => history_Ahead.ok x13 x22 _ _ _ _ _ hc w2 hP sub (ap.get 13 rfl) (ap.get 14 rfl) (ap.get 9 rfl) (ap.get 10 rfl)) ?_
                clear hc
                refine SP.val (Val.move rfl) rfl rfl rfl ?_
                obtain ⟨t78, hg_t78, ho⟩ := bind_some ho
                refine SP.join 4 (fun a w2 => Env ⟨108, []⟩ [(12, .pointer (some ⟨b62, 0, none⟩)), (13, .pointer (some ⟨b64, 0, none⟩)), (14, .pointer (some ⟨b66, 0, none⟩)), (15, .pointer (some ⟨b68, 0, none⟩)), (64, .bool false), (72, .bool t78)] a ∧ St w em hV [atP p38 [.int .i64 x40.Proc, .int .u8 x40.Op.Kind, .int .i64 x40.Op.Method, v41, v43, .bool x40.Read, .int .i64 x40.Reply.Err, .int .i64 x40.Reply.Out.Trap, .int .u8 x40.Reply.Out.Result.Kind, .int .i64 x40.Reply.Out.Result.A, .int .i64 x40.Reply.Out.Result.B, .int .i64 x40.Start, .int .i64 x40.End], slP k_api_Value v41 x40.Op.Args, slP (kInt .u8) v43 x40.Op.Bytes, elP k_history_Call p38 x40, atP p29 [.int .i64 x31.Proc, .int .u8 x31.Op.Kind, .int .i64 x31.Op.Method, v32, v34, .bool x31.Read, .int .i64 x31.Reply.Err, .int .i64 x31.Reply.Out.Trap, .int .u8 x31.Reply.Out.Result.Kind, .int .i64 x31.Reply.Out.Result.A, .int .i64 x31.Reply.Out.Result.B, .int .i64 x31.Start, .int .i64 x31.End], slP k_api_Value v32 x31.Op.Args, slP (kInt .u8) v34 x31.Op.Bytes, elP k_history_Call p29 x31, atP p20 [.int .i64 x22.Proc, .int .u8 x22.Op.Kind, .int .i64 x22.Op.Method, v23, v25, .bool x22.Read, .int .i64 x22.Reply.Err, .int .i64 x22.Reply.Out.Trap, .int .u8 x22.Reply.Out.Result.Kind, .int .i64 x22.Reply.Out.Result.A, .int .i64 x22.Reply.Out.Result.B, .int .i64 x22.Start, .int .i64 x22.End], slP k_api_Value v23 x22.Op.Args, slP (kInt .u8) v25 x22.Op.Bytes, elP k_history_Call p20 x22, atP p11 [.int .i64 x13.Proc, .int .u8 x13.Op.Kind, .int .i64 x13.Op.Method, v14, v16, .bool x13.Read, .int .i64 x13.Reply.Err, .int .i64 x13.Reply.Out.Trap, .int .u8 x13.Reply.Out.Result.Kind, .int .i64 x13.Reply.Out.Result.A, .int .i64 x13.Reply.Out.Result.B, .int .i64 x13.Start, .int .i64 x13.End], slP k_api_Value v14 x13.Op.Args, slP (kInt .u8) v16 x13.Op.Bytes, elP k_history_Call p11 x13, slP k_history_Call v_l_0 l_0] [boxO b68 [.int .i64 x40.Proc, .int .u8 x40.Op.Kind, .int .i64 x40.Op.Method, v41, v43, .bool x40.Read, .int .i64 x40.Reply.Err, .int .i64 x40.Reply.Out.Trap, .int .u8 x40.Reply.Out.Result.Kind, .int .i64 x40.Reply.Out.Result.A, .int .i64 x40.Reply.Out.Result.B, .int .i64 x40.Start, .int .i64 x40.End] 48, boxO b66 [.int .i64 x31.Proc, .int .u8 x31.Op.Kind, .int .i64 x31.Op.Method, v32, v34, .bool x31.Read, .int .i64 x31.Reply.Err, .int .i64 x31.Reply.Out.Trap, .int .u8 x31.Reply.Out.Result.Kind, .int .i64 x31.Reply.Out.Result.A, .int .i64 x31.Reply.Out.Result.B, .int .i64 x31.Start, .int .i64 x31.End] 48, boxO b64 [.int .i64 x22.Proc, .int .u8 x22.Op.Kind, .int .i64 x22.Op.Method, v23, v25, .bool x22.Read, .int .i64 x22.Reply.Err, .int .i64 x22.Reply.Out.Trap, .int .u8 x22.Reply.Out.Result.Kind, .int .i64 x22.Reply.Out.Result.A, .int .i64 x22.Reply.Out.Result.B, .int .i64 x22.Start, .int .i64 x22.End] 48, boxO b62 [.int .i64 x13.Proc, .int .u8 x13.Op.Kind, .int .i64 x13.Op.Method, v14, v16, .bool x13.Read, .int .i64 x13.Reply.Err, .int .i64 x13.Reply.Out.Trap, .int .u8 x13.Reply.Out.Result.Kind, .int .i64 x13.Reply.Out.Result.A, .int .i64 x13.Reply.Out.Result.B, .int .i64 x13.Start, .int .i64 x13.End] 48] w2) ?_ ?_
                · rintro a w2 ⟨ha, hw⟩
                  refine SP.app ha hw ?_
                  clear ha hw a w2 hg_t78
                  refine SP.val (Val.pickF rfl rfl) rfl rfl rfl ?_
                  obtain rfl := Option.some.inj ho
                  exact J fun a w2 ha hw => ⟨ha.sub ⟨rfl, rfl, rfl, rfl, rfl, trivial⟩, hw⟩
                · intro J
                  clear ho
                  have ho := hg_t78
                  clear hg_t78
                  rcases if_some ho with ⟨hc, ho⟩ | ⟨hc, ho⟩
                  · have hq76 := hc
                    refine SP.isT (d := 68) rfl hq76 ?_
                    refine SP.val (Val.loadA 2 rfl Try.underlying48 rfl sz48 rfl rfl rfl) rfl rfl rfl ?_
                    refine SP.val (Val.loadA 3 rfl Try.underlying48 rfl sz48 rfl rfl rfl) rfl rfl rfl ?_
                    obtain ⟨t77, hc, ho⟩ := bind_some ho
                    refine SP.callV see (caps := []) (.bool t77) fn33 rfl rfl rfl rfl (fun w2 hP hs sub ap => history_Ahead.ok x22 x13 _ _ _ _ _ hc w2 hP sub (ap.get 9 rfl) (ap.get 10 rfl) (ap.get 13 rfl) (ap.get 14 rfl)) ?_
                    clear hc
                    refine SP.val (Val.pickT rfl rfl) rfl rfl rfl ?_
                    obtain rfl := Option.some.inj ho
                    exact J fun a w2 ha hw => ⟨ha.sub ⟨rfl, rfl, rfl, rfl, rfl, rfl, trivial⟩, hw⟩
                  · have hq76 := (bf hc)
                    refine SP.isF (d := 68) rfl hq76 ?_
                    refine SP.not rfl rfl rfl ?_
                    refine SP.not rfl rfl rfl ?_
                    refine SP.not rfl rfl rfl ?_
                    refine SP.val (Val.pickF rfl rfl) rfl rfl rfl ?_
                    obtain rfl := Option.some.inj ho
                    exact J fun a w2 ha hw => ⟨ha.sub ⟨rfl, rfl, rfl, rfl, rfl, rfl, trivial⟩, hw⟩
          refine DT.cut (ι := Nat × Nat × Nat) (fun z => [(12, .pointer (some ⟨z.1, 0, none⟩)), (13, .pointer (some ⟨z.2.1, 0, none⟩)), (14, .pointer (some ⟨z.2.2, 0, none⟩)), (39, .agg #[.int .i64 x13.Proc, .int .u8 x13.Op.Kind, .int .i64 x13.Op.Method, v14, v16, .bool x13.Read, .int .i64 x13.Reply.Err, .int .i64 x13.Reply.Out.Trap, .int .u8 x13.Reply.Out.Result.Kind, .int .i64 x13.Reply.Out.Result.A, .int .i64 x13.Reply.Out.Result.B, .int .i64 x13.Start, .int .i64 x13.End]), (46, .agg #[.int .i64 x22.Proc, .int .u8 x22.Op.Kind, .int .i64 x22.Op.Method, v23, v25, .bool x22.Read, .int .i64 x22.Reply.Err, .int .i64 x22.Reply.Out.Trap, .int .u8 x22.Reply.Out.Result.Kind, .int .i64 x22.Reply.Out.Result.A, .int .i64 x22.Reply.Out.Result.B, .int .i64 x22.Start, .int .i64 x22.End]), (53, .agg #[.int .i64 x31.Proc, .int .u8 x31.Op.Kind, .int .i64 x31.Op.Method, v32, v34, .bool x31.Read, .int .i64 x31.Reply.Err, .int .i64 x31.Reply.Out.Trap, .int .u8 x31.Reply.Out.Result.Kind, .int .i64 x31.Reply.Out.Result.A, .int .i64 x31.Reply.Out.Result.B, .int .i64 x31.Start, .int .i64 x31.End]), (60, .agg #[.int .i64 x40.Proc, .int .u8 x40.Op.Kind, .int .i64 x40.Op.Method, v41, v43, .bool x40.Read, .int .i64 x40.Reply.Err, .int .i64 x40.Reply.Out.Trap, .int .u8 x40.Reply.Out.Result.Kind, .int .i64 x40.Reply.Out.Result.A, .int .i64 x40.Reply.Out.Result.B, .int .i64 x40.Start, .int .i64 x40.End])]) (fun z w2 => St w em hV [atP p38 [.int .i64 x40.Proc, .int .u8 x40.Op.Kind, .int .i64 x40.Op.Method, v41, v43, .bool x40.Read, .int .i64 x40.Reply.Err, .int .i64 x40.Reply.Out.Trap, .int .u8 x40.Reply.Out.Result.Kind, .int .i64 x40.Reply.Out.Result.A, .int .i64 x40.Reply.Out.Result.B, .int .i64 x40.Start, .int .i64 x40.End], slP k_api_Value v41 x40.Op.Args, slP (kInt .u8) v43 x40.Op.Bytes, elP k_history_Call p38 x40, atP p29 [.int .i64 x31.Proc, .int .u8 x31.Op.Kind, .int .i64 x31.Op.Method, v32, v34, .bool x31.Read, .int .i64 x31.Reply.Err, .int .i64 x31.Reply.Out.Trap, .int .u8 x31.Reply.Out.Result.Kind, .int .i64 x31.Reply.Out.Result.A, .int .i64 x31.Reply.Out.Result.B, .int .i64 x31.Start, .int .i64 x31.End], slP k_api_Value v32 x31.Op.Args, slP (kInt .u8) v34 x31.Op.Bytes, elP k_history_Call p29 x31, atP p20 [.int .i64 x22.Proc, .int .u8 x22.Op.Kind, .int .i64 x22.Op.Method, v23, v25, .bool x22.Read, .int .i64 x22.Reply.Err, .int .i64 x22.Reply.Out.Trap, .int .u8 x22.Reply.Out.Result.Kind, .int .i64 x22.Reply.Out.Result.A, .int .i64 x22.Reply.Out.Result.B, .int .i64 x22.Start, .int .i64 x22.End], slP k_api_Value v23 x22.Op.Args, slP (kInt .u8) v25 x22.Op.Bytes, elP k_history_Call p20 x22, atP p11 [.int .i64 x13.Proc, .int .u8 x13.Op.Kind, .int .i64 x13.Op.Method, v14, v16, .bool x13.Read, .int .i64 x13.Reply.Err, .int .i64 x13.Reply.Out.Trap, .int .u8 x13.Reply.Out.Result.Kind, .int .i64 x13.Reply.Out.Result.A, .int .i64 x13.Reply.Out.Result.B, .int .i64 x13.Start, .int .i64 x13.End], slP k_api_Value v14 x13.Op.Args, slP (kInt .u8) v16 x13.Op.Bytes, elP k_history_Call p11 x13, slP k_history_Call v_l_0 l_0] [boxO z.2.2 [.int .i64 0, .int .u8 0, .int .i64 0, (.slice none 0 0), (.slice none 0 0), .bool false, .int .i64 0, .int .i64 0, .int .u8 0, .int .i64 0, .int .i64 0, .int .i64 0, .int .i64 0] 48, boxO z.2.1 [.int .i64 0, .int .u8 0, .int .i64 0, (.slice none 0 0), (.slice none 0 0), .bool false, .int .i64 0, .int .i64 0, .int .u8 0, .int .i64 0, .int .i64 0, .int .i64 0, .int .i64 0] 48, boxO z.1 [.int .i64 0, .int .u8 0, .int .i64 0, (.slice none 0 0), (.slice none 0 0), .bool false, .int .i64 0, .int .i64 0, .int .u8 0, .int .i64 0, .int .i64 0, .int .i64 0, .int .i64 0] 48] w2) 5 #[true, true, true, true, true, true, true, true, true, true, true, true, true, true, true, true, true, true, true, true, true, true, true, true, true, true, true, true, true, true, true, false, false, false, false, false] (fun z => ?_) (fun J108 => ?_)
          · obtain ⟨b102, b104, b106⟩ := z
            refine DT.any 31 [] (by kernel_rfl) ⟨⟨_, rfl, rfl, ?_⟩, trivial⟩
            · refine SP.alloc (cs := [.int .i64 0, .int .u8 0, .int .i64 0, (.slice none 0 0), (.slice none 0 0), .bool false, .int .i64 0, .int .i64 0, .int .u8 0, .int .i64 0, .int .i64 0, .int .i64 0, .int .i64 0]) inf48 rfl rfl (fun b109 => ?_)
              refine SP.nil ?_
              refine QE.atT (fun w2 hw => (St.selO [] rfl rfl hw)) ?_
              refine DT.list (l2 := #[true, true, true, true, true, true, true, true, true, true, true, true, true, true, true, true, true, true, true, true, true, true, true, true, true, true, true, true, true, true, true, true, false, false, false, false]) (by kernel_rfl) ?_
              exact DT.weak (by exact ⟨rfl, rfl, rfl, rfl, rfl, rfl, rfl, rfl, trivial⟩) (by exact fun w2 hw => hw) (J70 (b102, b104, b106, b109))
          refine DT.cut (ι := Nat × Nat × Nat) (fun z => [(12, .pointer (some ⟨z.1, 0, none⟩)), (13, .pointer (some ⟨z.2.1, 0, none⟩)), (15, .pointer (some ⟨z.2.2, 0, none⟩)), (39, .agg #[.int .i64 x13.Proc, .int .u8 x13.Op.Kind, .int .i64 x13.Op.Method, v14, v16, .bool x13.Read, .int .i64 x13.Reply.Err, .int .i64 x13.Reply.Out.Trap, .int .u8 x13.Reply.Out.Result.Kind, .int .i64 x13.Reply.Out.Result.A, .int .i64 x13.Reply.Out.Result.B, .int .i64 x13.Start, .int .i64 x13.End]), (46, .agg #[.int .i64 x22.Proc, .int .u8 x22.Op.Kind, .int .i64 x22.Op.Method, v23, v25, .bool x22.Read, .int .i64 x22.Reply.Err, .int .i64 x22.Reply.Out.Trap, .int .u8 x22.Reply.Out.Result.Kind, .int .i64 x22.Reply.Out.Result.A, .int .i64 x22.Reply.Out.Result.B, .int .i64 x22.Start, .int .i64 x22.End]), (53, .agg #[.int .i64 x31.Proc, .int .u8 x31.Op.Kind, .int .i64 x31.Op.Method, v32, v34, .bool x31.Read, .int .i64 x31.Reply.Err, .int .i64 x31.Reply.Out.Trap, .int .u8 x31.Reply.Out.Result.Kind, .int .i64 x31.Reply.Out.Result.A, .int .i64 x31.Reply.Out.Result.B, .int .i64 x31.Start, .int .i64 x31.End]), (60, .agg #[.int .i64 x40.Proc, .int .u8 x40.Op.Kind, .int .i64 x40.Op.Method, v41, v43, .bool x40.Read, .int .i64 x40.Reply.Err, .int .i64 x40.Reply.Out.Trap, .int .u8 x40.Reply.Out.Result.Kind, .int .i64 x40.Reply.Out.Result.A, .int .i64 x40.Reply.Out.Result.B, .int .i64 x40.Start, .int .i64 x40.End])]) (fun z w2 => St w em hV [atP p38 [.int .i64 x40.Proc, .int .u8 x40.Op.Kind, .int .i64 x40.Op.Method, v41, v43, .bool x40.Read, .int .i64 x40.Reply.Err, .int .i64 x40.Reply.Out.Trap, .int .u8 x40.Reply.Out.Result.Kind, .int .i64 x40.Reply.Out.Result.A, .int .i64 x40.Reply.Out.Result.B, .int .i64 x40.Start, .int .i64 x40.End], slP k_api_Value v41 x40.Op.Args, slP (kInt .u8) v43 x40.Op.Bytes, elP k_history_Call p38 x40, atP p29 [.int .i64 x31.Proc, .int .u8 x31.Op.Kind, .int .i64 x31.Op.Method, v32, v34, .bool x31.Read, .int .i64 x31.Reply.Err, .int .i64 x31.Reply.Out.Trap, .int .u8 x31.Reply.Out.Result.Kind, .int .i64 x31.Reply.Out.Result.A, .int .i64 x31.Reply.Out.Result.B, .int .i64 x31.Start, .int .i64 x31.End], slP k_api_Value v32 x31.Op.Args, slP (kInt .u8) v34 x31.Op.Bytes, elP k_history_Call p29 x31, atP p20 [.int .i64 x22.Proc, .int .u8 x22.Op.Kind, .int .i64 x22.Op.Method, v23, v25, .bool x22.Read, .int .i64 x22.Reply.Err, .int .i64 x22.Reply.Out.Trap, .int .u8 x22.Reply.Out.Result.Kind, .int .i64 x22.Reply.Out.Result.A, .int .i64 x22.Reply.Out.Result.B, .int .i64 x22.Start, .int .i64 x22.End], slP k_api_Value v23 x22.Op.Args, slP (kInt .u8) v25 x22.Op.Bytes, elP k_history_Call p20 x22, atP p11 [.int .i64 x13.Proc, .int .u8 x13.Op.Kind, .int .i64 x13.Op.Method, v14, v16, .bool x13.Read, .int .i64 x13.Reply.Err, .int .i64 x13.Reply.Out.Trap, .int .u8 x13.Reply.Out.Result.Kind, .int .i64 x13.Reply.Out.Result.A, .int .i64 x13.Reply.Out.Result.B, .int .i64 x13.Start, .int .i64 x13.End], slP k_api_Value v14 x13.Op.Args, slP (kInt .u8) v16 x13.Op.Bytes, elP k_history_Call p11 x13, slP k_history_Call v_l_0 l_0] [boxO z.2.2 [.int .i64 0, .int .u8 0, .int .i64 0, (.slice none 0 0), (.slice none 0 0), .bool false, .int .i64 0, .int .i64 0, .int .u8 0, .int .i64 0, .int .i64 0, .int .i64 0, .int .i64 0] 48, boxO z.2.1 [.int .i64 0, .int .u8 0, .int .i64 0, (.slice none 0 0), (.slice none 0 0), .bool false, .int .i64 0, .int .i64 0, .int .u8 0, .int .i64 0, .int .i64 0, .int .i64 0, .int .i64 0] 48, boxO z.1 [.int .i64 0, .int .u8 0, .int .i64 0, (.slice none 0 0), (.slice none 0 0), .bool false, .int .i64 0, .int .i64 0, .int .u8 0, .int .i64 0, .int .i64 0, .int .i64 0, .int .i64 0] 48] w2) 5 #[true, true, true, true, true, true, true, true, true, true, true, true, true, true, true, true, true, true, true, true, true, true, true, true, true, true, true, true, true, true, false, true, false, false, false, false] (fun z => ?_) (fun J117 => ?_)
          · obtain ⟨b111, b113, b115⟩ := z
            refine DT.any 30 [] (by kernel_rfl) ⟨⟨_, rfl, rfl, ?_⟩, trivial⟩
            · refine SP.alloc (cs := [.int .i64 0, .int .u8 0, .int .i64 0, (.slice none 0 0), (.slice none 0 0), .bool false, .int .i64 0, .int .i64 0, .int .u8 0, .int .i64 0, .int .i64 0, .int .i64 0, .int .i64 0]) inf48 rfl rfl (fun b118 => ?_)
              refine SP.nil ?_
              refine QE.atT (fun w2 hw => (St.selO [] rfl rfl hw)) ?_
              refine DT.list (l2 := #[true, true, true, true, true, true, true, true, true, true, true, true, true, true, true, true, true, true, true, true, true, true, true, true, true, true, true, true, true, true, true, true, false, false, false, false]) (by kernel_rfl) ?_
              exact DT.weak (by exact ⟨rfl, rfl, rfl, rfl, rfl, rfl, rfl, rfl, trivial⟩) (by exact fun w2 hw => (St.selO [1, 0, 2, 3] rfl rfl hw)) (J70 (b111, b113, b118, b115))
          refine DT.cut (ι := Nat × Nat × Nat) (fun z => [(12, .pointer (some ⟨z.1, 0, none⟩)), (14, .pointer (some ⟨z.2.1, 0, none⟩)), (15, .pointer (some ⟨z.2.2, 0, none⟩)), (39, .agg #[.int .i64 x13.Proc, .int .u8 x13.Op.Kind, .int .i64 x13.Op.Method, v14, v16, .bool x13.Read, .int .i64 x13.Reply.Err, .int .i64 x13.Reply.Out.Trap, .int .u8 x13.Reply.Out.Result.Kind, .int .i64 x13.Reply.Out.Result.A, .int .i64 x13.Reply.Out.Result.B, .int .i64 x13.Start, .int .i64 x13.End]), (46, .agg #[.int .i64 x22.Proc, .int .u8 x22.Op.Kind, .int .i64 x22.Op.Method, v23, v25, .bool x22.Read, .int .i64 x22.Reply.Err, .int .i64 x22.Reply.Out.Trap, .int .u8 x22.Reply.Out.Result.Kind, .int .i64 x22.Reply.Out.Result.A, .int .i64 x22.Reply.Out.Result.B, .int .i64 x22.Start, .int .i64 x22.End]), (53, .agg #[.int .i64 x31.Proc, .int .u8 x31.Op.Kind, .int .i64 x31.Op.Method, v32, v34, .bool x31.Read, .int .i64 x31.Reply.Err, .int .i64 x31.Reply.Out.Trap, .int .u8 x31.Reply.Out.Result.Kind, .int .i64 x31.Reply.Out.Result.A, .int .i64 x31.Reply.Out.Result.B, .int .i64 x31.Start, .int .i64 x31.End]), (60, .agg #[.int .i64 x40.Proc, .int .u8 x40.Op.Kind, .int .i64 x40.Op.Method, v41, v43, .bool x40.Read, .int .i64 x40.Reply.Err, .int .i64 x40.Reply.Out.Trap, .int .u8 x40.Reply.Out.Result.Kind, .int .i64 x40.Reply.Out.Result.A, .int .i64 x40.Reply.Out.Result.B, .int .i64 x40.Start, .int .i64 x40.End])]) (fun z w2 => St w em hV [atP p38 [.int .i64 x40.Proc, .int .u8 x40.Op.Kind, .int .i64 x40.Op.Method, v41, v43, .bool x40.Read, .int .i64 x40.Reply.Err, .int .i64 x40.Reply.Out.Trap, .int .u8 x40.Reply.Out.Result.Kind, .int .i64 x40.Reply.Out.Result.A, .int .i64 x40.Reply.Out.Result.B, .int .i64 x40.Start, .int .i64 x40.End], slP k_api_Value v41 x40.Op.Args, slP (kInt .u8) v43 x40.Op.Bytes, elP k_history_Call p38 x40, atP p29 [.int .i64 x31.Proc, .int .u8 x31.Op.Kind, .int .i64 x31.Op.Method, v32, v34, .bool x31.Read, .int .i64 x31.Reply.Err, .int .i64 x31.Reply.Out.Trap, .int .u8 x31.Reply.Out.Result.Kind, .int .i64 x31.Reply.Out.Result.A, .int .i64 x31.Reply.Out.Result.B, .int .i64 x31.Start, .int .i64 x31.End], slP k_api_Value v32 x31.Op.Args, slP (kInt .u8) v34 x31.Op.Bytes, elP k_history_Call p29 x31, atP p20 [.int .i64 x22.Proc, .int .u8 x22.Op.Kind, .int .i64 x22.Op.Method, v23, v25, .bool x22.Read, .int .i64 x22.Reply.Err, .int .i64 x22.Reply.Out.Trap, .int .u8 x22.Reply.Out.Result.Kind, .int .i64 x22.Reply.Out.Result.A, .int .i64 x22.Reply.Out.Result.B, .int .i64 x22.Start, .int .i64 x22.End], slP k_api_Value v23 x22.Op.Args, slP (kInt .u8) v25 x22.Op.Bytes, elP k_history_Call p20 x22, atP p11 [.int .i64 x13.Proc, .int .u8 x13.Op.Kind, .int .i64 x13.Op.Method, v14, v16, .bool x13.Read, .int .i64 x13.Reply.Err, .int .i64 x13.Reply.Out.Trap, .int .u8 x13.Reply.Out.Result.Kind, .int .i64 x13.Reply.Out.Result.A, .int .i64 x13.Reply.Out.Result.B, .int .i64 x13.Start, .int .i64 x13.End], slP k_api_Value v14 x13.Op.Args, slP (kInt .u8) v16 x13.Op.Bytes, elP k_history_Call p11 x13, slP k_history_Call v_l_0 l_0] [boxO z.2.2 [.int .i64 0, .int .u8 0, .int .i64 0, (.slice none 0 0), (.slice none 0 0), .bool false, .int .i64 0, .int .i64 0, .int .u8 0, .int .i64 0, .int .i64 0, .int .i64 0, .int .i64 0] 48, boxO z.2.1 [.int .i64 0, .int .u8 0, .int .i64 0, (.slice none 0 0), (.slice none 0 0), .bool false, .int .i64 0, .int .i64 0, .int .u8 0, .int .i64 0, .int .i64 0, .int .i64 0, .int .i64 0] 48, boxO z.1 [.int .i64 0, .int .u8 0, .int .i64 0, (.slice none 0 0), (.slice none 0 0), .bool false, .int .i64 0, .int .i64 0, .int .u8 0, .int .i64 0, .int .i64 0, .int .i64 0, .int .i64 0] 48] w2) 5 #[true, true, true, true, true, true, true, true, true, true, true, true, true, true, true, true, true, true, true, true, true, true, true, true, true, true, true, true, true, false, true, true, false, false, false, false] (fun z => ?_) (fun J126 => ?_)
          · obtain ⟨b120, b122, b124⟩ := z
            refine DT.any 29 [] (by kernel_rfl) ⟨⟨_, rfl, rfl, ?_⟩, trivial⟩
            · refine SP.alloc (cs := [.int .i64 0, .int .u8 0, .int .i64 0, (.slice none 0 0), (.slice none 0 0), .bool false, .int .i64 0, .int .i64 0, .int .u8 0, .int .i64 0, .int .i64 0, .int .i64 0, .int .i64 0]) inf48 rfl rfl (fun b127 => ?_)
              refine SP.nil ?_
              refine QE.atT (fun w2 hw => (St.selO [] rfl rfl hw)) ?_
              refine DT.list (l2 := #[true, true, true, true, true, true, true, true, true, true, true, true, true, true, true, true, true, true, true, true, true, true, true, true, true, true, true, true, true, true, true, true, false, false, false, false]) (by kernel_rfl) ?_
              exact DT.weak (by exact ⟨rfl, rfl, rfl, rfl, rfl, rfl, rfl, rfl, trivial⟩) (by exact fun w2 hw => (St.selO [1, 2, 0, 3] rfl rfl hw)) (J70 (b120, b127, b122, b124))
          refine DT.cut (ι := Nat × Nat × Nat) (fun z => [(13, .pointer (some ⟨z.1, 0, none⟩)), (14, .pointer (some ⟨z.2.1, 0, none⟩)), (15, .pointer (some ⟨z.2.2, 0, none⟩)), (39, .agg #[.int .i64 x13.Proc, .int .u8 x13.Op.Kind, .int .i64 x13.Op.Method, v14, v16, .bool x13.Read, .int .i64 x13.Reply.Err, .int .i64 x13.Reply.Out.Trap, .int .u8 x13.Reply.Out.Result.Kind, .int .i64 x13.Reply.Out.Result.A, .int .i64 x13.Reply.Out.Result.B, .int .i64 x13.Start, .int .i64 x13.End]), (46, .agg #[.int .i64 x22.Proc, .int .u8 x22.Op.Kind, .int .i64 x22.Op.Method, v23, v25, .bool x22.Read, .int .i64 x22.Reply.Err, .int .i64 x22.Reply.Out.Trap, .int .u8 x22.Reply.Out.Result.Kind, .int .i64 x22.Reply.Out.Result.A, .int .i64 x22.Reply.Out.Result.B, .int .i64 x22.Start, .int .i64 x22.End]), (53, .agg #[.int .i64 x31.Proc, .int .u8 x31.Op.Kind, .int .i64 x31.Op.Method, v32, v34, .bool x31.Read, .int .i64 x31.Reply.Err, .int .i64 x31.Reply.Out.Trap, .int .u8 x31.Reply.Out.Result.Kind, .int .i64 x31.Reply.Out.Result.A, .int .i64 x31.Reply.Out.Result.B, .int .i64 x31.Start, .int .i64 x31.End]), (60, .agg #[.int .i64 x40.Proc, .int .u8 x40.Op.Kind, .int .i64 x40.Op.Method, v41, v43, .bool x40.Read, .int .i64 x40.Reply.Err, .int .i64 x40.Reply.Out.Trap, .int .u8 x40.Reply.Out.Result.Kind, .int .i64 x40.Reply.Out.Result.A, .int .i64 x40.Reply.Out.Result.B, .int .i64 x40.Start, .int .i64 x40.End])]) (fun z w2 => St w em hV [atP p38 [.int .i64 x40.Proc, .int .u8 x40.Op.Kind, .int .i64 x40.Op.Method, v41, v43, .bool x40.Read, .int .i64 x40.Reply.Err, .int .i64 x40.Reply.Out.Trap, .int .u8 x40.Reply.Out.Result.Kind, .int .i64 x40.Reply.Out.Result.A, .int .i64 x40.Reply.Out.Result.B, .int .i64 x40.Start, .int .i64 x40.End], slP k_api_Value v41 x40.Op.Args, slP (kInt .u8) v43 x40.Op.Bytes, elP k_history_Call p38 x40, atP p29 [.int .i64 x31.Proc, .int .u8 x31.Op.Kind, .int .i64 x31.Op.Method, v32, v34, .bool x31.Read, .int .i64 x31.Reply.Err, .int .i64 x31.Reply.Out.Trap, .int .u8 x31.Reply.Out.Result.Kind, .int .i64 x31.Reply.Out.Result.A, .int .i64 x31.Reply.Out.Result.B, .int .i64 x31.Start, .int .i64 x31.End], slP k_api_Value v32 x31.Op.Args, slP (kInt .u8) v34 x31.Op.Bytes, elP k_history_Call p29 x31, atP p20 [.int .i64 x22.Proc, .int .u8 x22.Op.Kind, .int .i64 x22.Op.Method, v23, v25, .bool x22.Read, .int .i64 x22.Reply.Err, .int .i64 x22.Reply.Out.Trap, .int .u8 x22.Reply.Out.Result.Kind, .int .i64 x22.Reply.Out.Result.A, .int .i64 x22.Reply.Out.Result.B, .int .i64 x22.Start, .int .i64 x22.End], slP k_api_Value v23 x22.Op.Args, slP (kInt .u8) v25 x22.Op.Bytes, elP k_history_Call p20 x22, atP p11 [.int .i64 x13.Proc, .int .u8 x13.Op.Kind, .int .i64 x13.Op.Method, v14, v16, .bool x13.Read, .int .i64 x13.Reply.Err, .int .i64 x13.Reply.Out.Trap, .int .u8 x13.Reply.Out.Result.Kind, .int .i64 x13.Reply.Out.Result.A, .int .i64 x13.Reply.Out.Result.B, .int .i64 x13.Start, .int .i64 x13.End], slP k_api_Value v14 x13.Op.Args, slP (kInt .u8) v16 x13.Op.Bytes, elP k_history_Call p11 x13, slP k_history_Call v_l_0 l_0] [boxO z.2.2 [.int .i64 0, .int .u8 0, .int .i64 0, (.slice none 0 0), (.slice none 0 0), .bool false, .int .i64 0, .int .i64 0, .int .u8 0, .int .i64 0, .int .i64 0, .int .i64 0, .int .i64 0] 48, boxO z.2.1 [.int .i64 0, .int .u8 0, .int .i64 0, (.slice none 0 0), (.slice none 0 0), .bool false, .int .i64 0, .int .i64 0, .int .u8 0, .int .i64 0, .int .i64 0, .int .i64 0, .int .i64 0] 48, boxO z.1 [.int .i64 0, .int .u8 0, .int .i64 0, (.slice none 0 0), (.slice none 0 0), .bool false, .int .i64 0, .int .i64 0, .int .u8 0, .int .i64 0, .int .i64 0, .int .i64 0, .int .i64 0] 48] w2) 5 #[true, true, true, true, true, true, true, true, true, true, true, true, true, true, true, true, true, true, true, true, true, true, true, true, true, true, true, true, false, true, true, true, false, false, false, false] (fun z => ?_) (fun J135 => ?_)
          · obtain ⟨b129, b131, b133⟩ := z
            refine DT.any 28 [] (by kernel_rfl) ⟨⟨_, rfl, rfl, ?_⟩, trivial⟩
            · refine SP.alloc (cs := [.int .i64 0, .int .u8 0, .int .i64 0, (.slice none 0 0), (.slice none 0 0), .bool false, .int .i64 0, .int .i64 0, .int .u8 0, .int .i64 0, .int .i64 0, .int .i64 0, .int .i64 0]) inf48 rfl rfl (fun b136 => ?_)
              refine SP.nil ?_
              refine QE.atT (fun w2 hw => (St.selO [] rfl rfl hw)) ?_
              refine DT.list (l2 := #[true, true, true, true, true, true, true, true, true, true, true, true, true, true, true, true, true, true, true, true, true, true, true, true, true, true, true, true, true, true, true, true, false, false, false, false]) (by kernel_rfl) ?_
              exact DT.weak (by exact ⟨rfl, rfl, rfl, rfl, rfl, rfl, rfl, rfl, trivial⟩) (by exact fun w2 hw => (St.selO [1, 2, 3, 0] rfl rfl hw)) (J70 (b136, b129, b131, b133))
          refine DT.cut (ι := Nat × Nat) (fun z => [(12, .pointer (some ⟨z.1, 0, none⟩)), (13, .pointer (some ⟨z.2, 0, none⟩)), (39, .agg #[.int .i64 x13.Proc, .int .u8 x13.Op.Kind, .int .i64 x13.Op.Method, v14, v16, .bool x13.Read, .int .i64 x13.Reply.Err, .int .i64 x13.Reply.Out.Trap, .int .u8 x13.Reply.Out.Result.Kind, .int .i64 x13.Reply.Out.Result.A, .int .i64 x13.Reply.Out.Result.B, .int .i64 x13.Start, .int .i64 x13.End]), (46, .agg #[.int .i64 x22.Proc, .int .u8 x22.Op.Kind, .int .i64 x22.Op.Method, v23, v25, .bool x22.Read, .int .i64 x22.Reply.Err, .int .i64 x22.Reply.Out.Trap, .int .u8 x22.Reply.Out.Result.Kind, .int .i64 x22.Reply.Out.Result.A, .int .i64 x22.Reply.Out.Result.B, .int .i64 x22.Start, .int .i64 x22.End]), (53, .agg #[.int .i64 x31.Proc, .int .u8 x31.Op.Kind, .int .i64 x31.Op.Method, v32, v34, .bool x31.Read, .int .i64 x31.Reply.Err, .int .i64 x31.Reply.Out.Trap, .int .u8 x31.Reply.Out.Result.Kind, .int .i64 x31.Reply.Out.Result.A, .int .i64 x31.Reply.Out.Result.B, .int .i64 x31.Start, .int .i64 x31.End]), (60, .agg #[.int .i64 x40.Proc, .int .u8 x40.Op.Kind, .int .i64 x40.Op.Method, v41, v43, .bool x40.Read, .int .i64 x40.Reply.Err, .int .i64 x40.Reply.Out.Trap, .int .u8 x40.Reply.Out.Result.Kind, .int .i64 x40.Reply.Out.Result.A, .int .i64 x40.Reply.Out.Result.B, .int .i64 x40.Start, .int .i64 x40.End])]) (fun z w2 => St w em hV [atP p38 [.int .i64 x40.Proc, .int .u8 x40.Op.Kind, .int .i64 x40.Op.Method, v41, v43, .bool x40.Read, .int .i64 x40.Reply.Err, .int .i64 x40.Reply.Out.Trap, .int .u8 x40.Reply.Out.Result.Kind, .int .i64 x40.Reply.Out.Result.A, .int .i64 x40.Reply.Out.Result.B, .int .i64 x40.Start, .int .i64 x40.End], slP k_api_Value v41 x40.Op.Args, slP (kInt .u8) v43 x40.Op.Bytes, elP k_history_Call p38 x40, atP p29 [.int .i64 x31.Proc, .int .u8 x31.Op.Kind, .int .i64 x31.Op.Method, v32, v34, .bool x31.Read, .int .i64 x31.Reply.Err, .int .i64 x31.Reply.Out.Trap, .int .u8 x31.Reply.Out.Result.Kind, .int .i64 x31.Reply.Out.Result.A, .int .i64 x31.Reply.Out.Result.B, .int .i64 x31.Start, .int .i64 x31.End], slP k_api_Value v32 x31.Op.Args, slP (kInt .u8) v34 x31.Op.Bytes, elP k_history_Call p29 x31, atP p20 [.int .i64 x22.Proc, .int .u8 x22.Op.Kind, .int .i64 x22.Op.Method, v23, v25, .bool x22.Read, .int .i64 x22.Reply.Err, .int .i64 x22.Reply.Out.Trap, .int .u8 x22.Reply.Out.Result.Kind, .int .i64 x22.Reply.Out.Result.A, .int .i64 x22.Reply.Out.Result.B, .int .i64 x22.Start, .int .i64 x22.End], slP k_api_Value v23 x22.Op.Args, slP (kInt .u8) v25 x22.Op.Bytes, elP k_history_Call p20 x22, atP p11 [.int .i64 x13.Proc, .int .u8 x13.Op.Kind, .int .i64 x13.Op.Method, v14, v16, .bool x13.Read, .int .i64 x13.Reply.Err, .int .i64 x13.Reply.Out.Trap, .int .u8 x13.Reply.Out.Result.Kind, .int .i64 x13.Reply.Out.Result.A, .int .i64 x13.Reply.Out.Result.B, .int .i64 x13.Start, .int .i64 x13.End], slP k_api_Value v14 x13.Op.Args, slP (kInt .u8) v16 x13.Op.Bytes, elP k_history_Call p11 x13, slP k_history_Call v_l_0 l_0] [boxO z.2 [.int .i64 0, .int .u8 0, .int .i64 0, (.slice none 0 0), (.slice none 0 0), .bool false, .int .i64 0, .int .i64 0, .int .u8 0, .int .i64 0, .int .i64 0, .int .i64 0, .int .i64 0] 48, boxO z.1 [.int .i64 0, .int .u8 0, .int .i64 0, (.slice none 0 0), (.slice none 0 0), .bool false, .int .i64 0, .int .i64 0, .int .u8 0, .int .i64 0, .int .i64 0, .int .i64 0, .int .i64 0] 48] w2) 6 #[true, true, true, true, true, true, true, true, true, true, true, true, true, true, true, true, true, true, true, true, true, true, true, true, true, true, true, true, true, true, false, false, false, false, false, false] (fun z => ?_) (fun J142 => ?_)
          · obtain ⟨b138, b140⟩ := z
            refine DT.any 30 [31] (by kernel_rfl) ⟨⟨_, rfl, rfl, ?_⟩, ⟨_, rfl, rfl, ?_⟩, trivial⟩
            · refine SP.alloc (cs := [.int .i64 0, .int .u8 0, .int .i64 0, (.slice none 0 0), (.slice none 0 0), .bool false, .int .i64 0, .int .i64 0, .int .u8 0, .int .i64 0, .int .i64 0, .int .i64 0, .int .i64 0]) inf48 rfl rfl (fun b143 => ?_)
              refine SP.nil ?_
              refine QE.atT (fun w2 hw => (St.selO [] rfl rfl hw)) ?_
              refine DT.list (l2 := #[true, true, true, true, true, true, true, true, true, true, true, true, true, true, true, true, true, true, true, true, true, true, true, true, true, true, true, true, true, true, true, false, false, false, false, false]) (by kernel_rfl) ?_
              exact DT.weak (by exact ⟨rfl, rfl, rfl, rfl, rfl, rfl, rfl, trivial⟩) (by exact fun w2 hw => hw) (J108 (b138, b140, b143))
            · refine SP.alloc (cs := [.int .i64 0, .int .u8 0, .int .i64 0, (.slice none 0 0), (.slice none 0 0), .bool false, .int .i64 0, .int .i64 0, .int .u8 0, .int .i64 0, .int .i64 0, .int .i64 0, .int .i64 0]) inf48 rfl rfl (fun b145 => ?_)
              refine SP.nil ?_
              refine QE.atT (fun w2 hw => (St.selO [] rfl rfl hw)) ?_
              refine DT.list (l2 := #[true, true, true, true, true, true, true, true, true, true, true, true, true, true, true, true, true, true, true, true, true, true, true, true, true, true, true, true, true, true, false, true, false, false, false, false]) (by kernel_rfl) ?_
              exact DT.weak (by exact ⟨rfl, rfl, rfl, rfl, rfl, rfl, rfl, trivial⟩) (by exact fun w2 hw => hw) (J117 (b138, b140, b145))
          refine DT.cut (ι := Nat × Nat) (fun z => [(12, .pointer (some ⟨z.1, 0, none⟩)), (14, .pointer (some ⟨z.2, 0, none⟩)), (39, .agg #[.int .i64 x13.Proc, .int .u8 x13.Op.Kind, .int .i64 x13.Op.Method, v14, v16, .bool x13.Read, .int .i64 x13.Reply.Err, .int .i64 x13.Reply.Out.Trap, .int .u8 x13.Reply.Out.Result.Kind, .int .i64 x13.Reply.Out.Result.A, .int .i64 x13.Reply.Out.Result.B, .int .i64 x13.Start, .int .i64 x13.End]), (46, .agg #[.int .i64 x22.Proc, .int .u8 x22.Op.Kind, .int .i64 x22.Op.Method, v23, v25, .bool x22.Read, .int .i64 x22.Reply.Err, .int .i64 x22.Reply.Out.Trap, .int .u8 x22.Reply.Out.Result.Kind, .int .i64 x22.Reply.Out.Result.A, .int .i64 x22.Reply.Out.Result.B, .int .i64 x22.Start, .int .i64 x22.End]), (53, .agg #[.int .i64 x31.Proc, .int .u8 x31.Op.Kind, .int .i64 x31.Op.Method, v32, v34, .bool x31.Read, .int .i64 x31.Reply.Err, .int .i64 x31.Reply.Out.Trap, .int .u8 x31.Reply.Out.Result.Kind, .int .i64 x31.Reply.Out.Result.A, .int .i64 x31.Reply.Out.Result.B, .int .i64 x31.Start, .int .i64 x31.End]), (60, .agg #[.int .i64 x40.Proc, .int .u8 x40.Op.Kind, .int .i64 x40.Op.Method, v41, v43, .bool x40.Read, .int .i64 x40.Reply.Err, .int .i64 x40.Reply.Out.Trap, .int .u8 x40.Reply.Out.Result.Kind, .int .i64 x40.Reply.Out.Result.A, .int .i64 x40.Reply.Out.Result.B, .int .i64 x40.Start, .int .i64 x40.End])]) (fun z w2 => St w em hV [atP p38 [.int .i64 x40.Proc, .int .u8 x40.Op.Kind, .int .i64 x40.Op.Method, v41, v43, .bool x40.Read, .int .i64 x40.Reply.Err, .int .i64 x40.Reply.Out.Trap, .int .u8 x40.Reply.Out.Result.Kind, .int .i64 x40.Reply.Out.Result.A, .int .i64 x40.Reply.Out.Result.B, .int .i64 x40.Start, .int .i64 x40.End], slP k_api_Value v41 x40.Op.Args, slP (kInt .u8) v43 x40.Op.Bytes, elP k_history_Call p38 x40, atP p29 [.int .i64 x31.Proc, .int .u8 x31.Op.Kind, .int .i64 x31.Op.Method, v32, v34, .bool x31.Read, .int .i64 x31.Reply.Err, .int .i64 x31.Reply.Out.Trap, .int .u8 x31.Reply.Out.Result.Kind, .int .i64 x31.Reply.Out.Result.A, .int .i64 x31.Reply.Out.Result.B, .int .i64 x31.Start, .int .i64 x31.End], slP k_api_Value v32 x31.Op.Args, slP (kInt .u8) v34 x31.Op.Bytes, elP k_history_Call p29 x31, atP p20 [.int .i64 x22.Proc, .int .u8 x22.Op.Kind, .int .i64 x22.Op.Method, v23, v25, .bool x22.Read, .int .i64 x22.Reply.Err, .int .i64 x22.Reply.Out.Trap, .int .u8 x22.Reply.Out.Result.Kind, .int .i64 x22.Reply.Out.Result.A, .int .i64 x22.Reply.Out.Result.B, .int .i64 x22.Start, .int .i64 x22.End], slP k_api_Value v23 x22.Op.Args, slP (kInt .u8) v25 x22.Op.Bytes, elP k_history_Call p20 x22, atP p11 [.int .i64 x13.Proc, .int .u8 x13.Op.Kind, .int .i64 x13.Op.Method, v14, v16, .bool x13.Read, .int .i64 x13.Reply.Err, .int .i64 x13.Reply.Out.Trap, .int .u8 x13.Reply.Out.Result.Kind, .int .i64 x13.Reply.Out.Result.A, .int .i64 x13.Reply.Out.Result.B, .int .i64 x13.Start, .int .i64 x13.End], slP k_api_Value v14 x13.Op.Args, slP (kInt .u8) v16 x13.Op.Bytes, elP k_history_Call p11 x13, slP k_history_Call v_l_0 l_0] [boxO z.2 [.int .i64 0, .int .u8 0, .int .i64 0, (.slice none 0 0), (.slice none 0 0), .bool false, .int .i64 0, .int .i64 0, .int .u8 0, .int .i64 0, .int .i64 0, .int .i64 0, .int .i64 0] 48, boxO z.1 [.int .i64 0, .int .u8 0, .int .i64 0, (.slice none 0 0), (.slice none 0 0), .bool false, .int .i64 0, .int .i64 0, .int .u8 0, .int .i64 0, .int .i64 0, .int .i64 0, .int .i64 0] 48] w2) 6 #[true, true, true, true, true, true, true, true, true, true, true, true, true, true, true, true, true, true, true, true, true, true, true, true, true, true, true, true, true, false, true, false, false, false, false, false] (fun z => ?_) (fun J151 => ?_)
          · obtain ⟨b147, b149⟩ := z
            refine DT.any 29 [31] (by kernel_rfl) ⟨⟨_, rfl, rfl, ?_⟩, ⟨_, rfl, rfl, ?_⟩, trivial⟩
            · refine SP.alloc (cs := [.int .i64 0, .int .u8 0, .int .i64 0, (.slice none 0 0), (.slice none 0 0), .bool false, .int .i64 0, .int .i64 0, .int .u8 0, .int .i64 0, .int .i64 0, .int .i64 0, .int .i64 0]) inf48 rfl rfl (fun b152 => ?_)
              refine SP.nil ?_
              refine QE.atT (fun w2 hw => (St.selO [] rfl rfl hw)) ?_
              refine DT.list (l2 := #[true, true, true, true, true, true, true, true, true, true, true, true, true, true, true, true, true, true, true, true, true, true, true, true, true, true, true, true, true, true, true, false, false, false, false, false]) (by kernel_rfl) ?_
              exact DT.weak (by exact ⟨rfl, rfl, rfl, rfl, rfl, rfl, rfl, trivial⟩) (by exact fun w2 hw => (St.selO [1, 0, 2] rfl rfl hw)) (J108 (b147, b152, b149))
            · refine SP.alloc (cs := [.int .i64 0, .int .u8 0, .int .i64 0, (.slice none 0 0), (.slice none 0 0), .bool false, .int .i64 0, .int .i64 0, .int .u8 0, .int .i64 0, .int .i64 0, .int .i64 0, .int .i64 0]) inf48 rfl rfl (fun b154 => ?_)
              refine SP.nil ?_
              refine QE.atT (fun w2 hw => (St.selO [] rfl rfl hw)) ?_
              refine DT.list (l2 := #[true, true, true, true, true, true, true, true, true, true, true, true, true, true, true, true, true, true, true, true, true, true, true, true, true, true, true, true, true, false, true, true, false, false, false, false]) (by kernel_rfl) ?_
              exact DT.weak (by exact ⟨rfl, rfl, rfl, rfl, rfl, rfl, rfl, trivial⟩) (by exact fun w2 hw => hw) (J126 (b147, b149, b154))
          refine DT.cut (ι := Nat × Nat) (fun z => [(12, .pointer (some ⟨z.1, 0, none⟩)), (15, .pointer (some ⟨z.2, 0, none⟩)), (39, .agg #[.int .i64 x13.Proc, .int .u8 x13.Op.Kind, .int .i64 x13.Op.Method, v14, v16, .bool x13.Read, .int .i64 x13.Reply.Err, .int .i64 x13.Reply.Out.Trap, .int .u8 x13.Reply.Out.Result.Kind, .int .i64 x13.Reply.Out.Result.A, .int .i64 x13.Reply.Out.Result.B, .int .i64 x13.Start, .int .i64 x13.End]), (46, .agg #[.int .i64 x22.Proc, .int .u8 x22.Op.Kind, .int .i64 x22.Op.Method, v23, v25, .bool x22.Read, .int .i64 x22.Reply.Err, .int .i64 x22.Reply.Out.Trap, .int .u8 x22.Reply.Out.Result.Kind, .int .i64 x22.Reply.Out.Result.A, .int .i64 x22.Reply.Out.Result.B, .int .i64 x22.Start, .int .i64 x22.End]), (53, .agg #[.int .i64 x31.Proc, .int .u8 x31.Op.Kind, .int .i64 x31.Op.Method, v32, v34, .bool x31.Read, .int .i64 x31.Reply.Err, .int .i64 x31.Reply.Out.Trap, .int .u8 x31.Reply.Out.Result.Kind, .int .i64 x31.Reply.Out.Result.A, .int .i64 x31.Reply.Out.Result.B, .int .i64 x31.Start, .int .i64 x31.End]), (60, .agg #[.int .i64 x40.Proc, .int .u8 x40.Op.Kind, .int .i64 x40.Op.Method, v41, v43, .bool x40.Read, .int .i64 x40.Reply.Err, .int .i64 x40.Reply.Out.Trap, .int .u8 x40.Reply.Out.Result.Kind, .int .i64 x40.Reply.Out.Result.A, .int .i64 x40.Reply.Out.Result.B, .int .i64 x40.Start, .int .i64 x40.End])]) (fun z w2 => St w em hV [atP p38 [.int .i64 x40.Proc, .int .u8 x40.Op.Kind, .int .i64 x40.Op.Method, v41, v43, .bool x40.Read, .int .i64 x40.Reply.Err, .int .i64 x40.Reply.Out.Trap, .int .u8 x40.Reply.Out.Result.Kind, .int .i64 x40.Reply.Out.Result.A, .int .i64 x40.Reply.Out.Result.B, .int .i64 x40.Start, .int .i64 x40.End], slP k_api_Value v41 x40.Op.Args, slP (kInt .u8) v43 x40.Op.Bytes, elP k_history_Call p38 x40, atP p29 [.int .i64 x31.Proc, .int .u8 x31.Op.Kind, .int .i64 x31.Op.Method, v32, v34, .bool x31.Read, .int .i64 x31.Reply.Err, .int .i64 x31.Reply.Out.Trap, .int .u8 x31.Reply.Out.Result.Kind, .int .i64 x31.Reply.Out.Result.A, .int .i64 x31.Reply.Out.Result.B, .int .i64 x31.Start, .int .i64 x31.End], slP k_api_Value v32 x31.Op.Args, slP (kInt .u8) v34 x31.Op.Bytes, elP k_history_Call p29 x31, atP p20 [.int .i64 x22.Proc, .int .u8 x22.Op.Kind, .int .i64 x22.Op.Method, v23, v25, .bool x22.Read, .int .i64 x22.Reply.Err, .int .i64 x22.Reply.Out.Trap, .int .u8 x22.Reply.Out.Result.Kind, .int .i64 x22.Reply.Out.Result.A, .int .i64 x22.Reply.Out.Result.B, .int .i64 x22.Start, .int .i64 x22.End], slP k_api_Value v23 x22.Op.Args, slP (kInt .u8) v25 x22.Op.Bytes, elP k_history_Call p20 x22, atP p11 [.int .i64 x13.Proc, .int .u8 x13.Op.Kind, .int .i64 x13.Op.Method, v14, v16, .bool x13.Read, .int .i64 x13.Reply.Err, .int .i64 x13.Reply.Out.Trap, .int .u8 x13.Reply.Out.Result.Kind, .int .i64 x13.Reply.Out.Result.A, .int .i64 x13.Reply.Out.Result.B, .int .i64 x13.Start, .int .i64 x13.End], slP k_api_Value v14 x13.Op.Args, slP (kInt .u8) v16 x13.Op.Bytes, elP k_history_Call p11 x13, slP k_history_Call v_l_0 l_0] [boxO z.2 [.int .i64 0, .int .u8 0, .int .i64 0, (.slice none 0 0), (.slice none 0 0), .bool false, .int .i64 0, .int .i64 0, .int .u8 0, .int .i64 0, .int .i64 0, .int .i64 0, .int .i64 0] 48, boxO z.1 [.int .i64 0, .int .u8 0, .int .i64 0, (.slice none 0 0), (.slice none 0 0), .bool false, .int .i64 0, .int .i64 0, .int .u8 0, .int .i64 0, .int .i64 0, .int .i64 0, .int .i64 0] 48] w2) 6 #[true, true, true, true, true, true, true, true, true, true, true, true, true, true, true, true, true, true, true, true, true, true, true, true, true, true, true, true, true, false, false, true, false, false, false, false] (fun z => ?_) (fun J160 => ?_)
          · obtain ⟨b156, b158⟩ := z
            refine DT.any 29 [30] (by kernel_rfl) ⟨⟨_, rfl, rfl, ?_⟩, ⟨_, rfl, rfl, ?_⟩, trivial⟩
            · refine SP.alloc (cs := [.int .i64 0, .int .u8 0, .int .i64 0, (.slice none 0 0), (.slice none 0 0), .bool false, .int .i64 0, .int .i64 0, .int .u8 0, .int .i64 0, .int .i64 0, .int .i64 0, .int .i64 0]) inf48 rfl rfl (fun b161 => ?_)
              refine SP.nil ?_
              refine QE.atT (fun w2 hw => (St.selO [] rfl rfl hw)) ?_
              refine DT.list (l2 := #[true, true, true, true, true, true, true, true, true, true, true, true, true, true, true, true, true, true, true, true, true, true, true, true, true, true, true, true, true, true, false, true, false, false, false, false]) (by kernel_rfl) ?_
              exact DT.weak (by exact ⟨rfl, rfl, rfl, rfl, rfl, rfl, rfl, trivial⟩) (by exact fun w2 hw => (St.selO [1, 0, 2] rfl rfl hw)) (J117 (b156, b161, b158))
            · refine SP.alloc (cs := [.int .i64 0, .int .u8 0, .int .i64 0, (.slice none 0 0), (.slice none 0 0), .bool false, .int .i64 0, .int .i64 0, .int .u8 0, .int .i64 0, .int .i64 0, .int .i64 0, .int .i64 0]) inf48 rfl rfl (fun b163 => ?_)
              refine SP.nil ?_
              refine QE.atT (fun w2 hw => (St.selO [] rfl rfl hw)) ?_
              refine DT.list (l2 := #[true, true, true, true, true, true, true, true, true, true, true, true, true, true, true, true, true, true, true, true, true, true, true, true, true, true, true, true, true, false, true, true, false, false, false, false]) (by kernel_rfl) ?_
              exact DT.weak (by exact ⟨rfl, rfl, rfl, rfl, rfl, rfl, rfl, trivial⟩) (by exact fun w2 hw => (St.selO [1, 0, 2] rfl rfl hw)) (J126 (b156, b163, b158))
          refine DT.cut (ι := Nat × Nat) (fun z => [(13, .pointer (some ⟨z.1, 0, none⟩)), (14, .pointer (some ⟨z.2, 0, none⟩)), (39, .agg #[.int .i64 x13.Proc, .int .u8 x13.Op.Kind, .int .i64 x13.Op.Method, v14, v16, .bool x13.Read, .int .i64 x13.Reply.Err, .int .i64 x13.Reply.Out.Trap, .int .u8 x13.Reply.Out.Result.Kind, .int .i64 x13.Reply.Out.Result.A, .int .i64 x13.Reply.Out.Result.B, .int .i64 x13.Start, .int .i64 x13.End]), (46, .agg #[.int .i64 x22.Proc, .int .u8 x22.Op.Kind, .int .i64 x22.Op.Method, v23, v25, .bool x22.Read, .int .i64 x22.Reply.Err, .int .i64 x22.Reply.Out.Trap, .int .u8 x22.Reply.Out.Result.Kind, .int .i64 x22.Reply.Out.Result.A, .int .i64 x22.Reply.Out.Result.B, .int .i64 x22.Start, .int .i64 x22.End]), (53, .agg #[.int .i64 x31.Proc, .int .u8 x31.Op.Kind, .int .i64 x31.Op.Method, v32, v34, .bool x31.Read, .int .i64 x31.Reply.Err, .int .i64 x31.Reply.Out.Trap, .int .u8 x31.Reply.Out.Result.Kind, .int .i64 x31.Reply.Out.Result.A, .int .i64 x31.Reply.Out.Result.B, .int .i64 x31.Start, .int .i64 x31.End]), (60, .agg #[.int .i64 x40.Proc, .int .u8 x40.Op.Kind, .int .i64 x40.Op.Method, v41, v43, .bool x40.Read, .int .i64 x40.Reply.Err, .int .i64 x40.Reply.Out.Trap, .int .u8 x40.Reply.Out.Result.Kind, .int .i64 x40.Reply.Out.Result.A, .int .i64 x40.Reply.Out.Result.B, .int .i64 x40.Start, .int .i64 x40.End])]) (fun z w2 => St w em hV [atP p38 [.int .i64 x40.Proc, .int .u8 x40.Op.Kind, .int .i64 x40.Op.Method, v41, v43, .bool x40.Read, .int .i64 x40.Reply.Err, .int .i64 x40.Reply.Out.Trap, .int .u8 x40.Reply.Out.Result.Kind, .int .i64 x40.Reply.Out.Result.A, .int .i64 x40.Reply.Out.Result.B, .int .i64 x40.Start, .int .i64 x40.End], slP k_api_Value v41 x40.Op.Args, slP (kInt .u8) v43 x40.Op.Bytes, elP k_history_Call p38 x40, atP p29 [.int .i64 x31.Proc, .int .u8 x31.Op.Kind, .int .i64 x31.Op.Method, v32, v34, .bool x31.Read, .int .i64 x31.Reply.Err, .int .i64 x31.Reply.Out.Trap, .int .u8 x31.Reply.Out.Result.Kind, .int .i64 x31.Reply.Out.Result.A, .int .i64 x31.Reply.Out.Result.B, .int .i64 x31.Start, .int .i64 x31.End], slP k_api_Value v32 x31.Op.Args, slP (kInt .u8) v34 x31.Op.Bytes, elP k_history_Call p29 x31, atP p20 [.int .i64 x22.Proc, .int .u8 x22.Op.Kind, .int .i64 x22.Op.Method, v23, v25, .bool x22.Read, .int .i64 x22.Reply.Err, .int .i64 x22.Reply.Out.Trap, .int .u8 x22.Reply.Out.Result.Kind, .int .i64 x22.Reply.Out.Result.A, .int .i64 x22.Reply.Out.Result.B, .int .i64 x22.Start, .int .i64 x22.End], slP k_api_Value v23 x22.Op.Args, slP (kInt .u8) v25 x22.Op.Bytes, elP k_history_Call p20 x22, atP p11 [.int .i64 x13.Proc, .int .u8 x13.Op.Kind, .int .i64 x13.Op.Method, v14, v16, .bool x13.Read, .int .i64 x13.Reply.Err, .int .i64 x13.Reply.Out.Trap, .int .u8 x13.Reply.Out.Result.Kind, .int .i64 x13.Reply.Out.Result.A, .int .i64 x13.Reply.Out.Result.B, .int .i64 x13.Start, .int .i64 x13.End], slP k_api_Value v14 x13.Op.Args, slP (kInt .u8) v16 x13.Op.Bytes, elP k_history_Call p11 x13, slP k_history_Call v_l_0 l_0] [boxO z.2 [.int .i64 0, .int .u8 0, .int .i64 0, (.slice none 0 0), (.slice none 0 0), .bool false, .int .i64 0, .int .i64 0, .int .u8 0, .int .i64 0, .int .i64 0, .int .i64 0, .int .i64 0] 48, boxO z.1 [.int .i64 0, .int .u8 0, .int .i64 0, (.slice none 0 0), (.slice none 0 0), .bool false, .int .i64 0, .int .i64 0, .int .u8 0, .int .i64 0, .int .i64 0, .int .i64 0, .int .i64 0] 48] w2) 6 #[true, true, true, true, true, true, true, true, true, true, true, true, true, true, true, true, true, true, true, true, true, true, true, true, true, true, true, true, false, true, true, false, false, false, false, false] (fun z => ?_) (fun J169 => ?_)
          · obtain ⟨b165, b167⟩ := z
            refine DT.any 28 [31] (by kernel_rfl) ⟨⟨_, rfl, rfl, ?_⟩, ⟨_, rfl, rfl, ?_⟩, trivial⟩
            · refine SP.alloc (cs := [.int .i64 0, .int .u8 0, .int .i64 0, (.slice none 0 0), (.slice none 0 0), .bool false, .int .i64 0, .int .i64 0, .int .u8 0, .int .i64 0, .int .i64 0, .int .i64 0, .int .i64 0]) inf48 rfl rfl (fun b170 => ?_)
              refine SP.nil ?_
              refine QE.atT (fun w2 hw => (St.selO [] rfl rfl hw)) ?_
              refine DT.list (l2 := #[true, true, true, true, true, true, true, true, true, true, true, true, true, true, true, true, true, true, true, true, true, true, true, true, true, true, true, true, true, true, true, false, false, false, false, false]) (by kernel_rfl) ?_
              exact DT.weak (by exact ⟨rfl, rfl, rfl, rfl, rfl, rfl, rfl, trivial⟩) (by exact fun w2 hw => (St.selO [1, 2, 0] rfl rfl hw)) (J108 (b170, b165, b167))
            · refine SP.alloc (cs := [.int .i64 0, .int .u8 0, .int .i64 0, (.slice none 0 0), (.slice none 0 0), .bool false, .int .i64 0, .int .i64 0, .int .u8 0, .int .i64 0, .int .i64 0, .int .i64 0, .int .i64 0]) inf48 rfl rfl (fun b172 => ?_)
              refine SP.nil ?_
              refine QE.atT (fun w2 hw => (St.selO [] rfl rfl hw)) ?_
              refine DT.list (l2 := #[true, true, true, true, true, true, true, true, true, true, true, true, true, true, true, true, true, true, true, true, true, true, true, true, true, true, true, true, false, true, true, true, false, false, false, false]) (by kernel_rfl) ?_
              exact DT.weak (by exact ⟨rfl, rfl, rfl, rfl, rfl, rfl, rfl, trivial⟩) (by exact fun w2 hw => hw) (J135 (b165, b167, b172))
          refine DT.cut (ι := Nat × Nat) (fun z => [(13, .pointer (some ⟨z.1, 0, none⟩)), (15, .pointer (some ⟨z.2, 0, none⟩)), (39, .agg #[.int .i64 x13.Proc, .int .u8 x13.Op.Kind, .int .i64 x13.Op.Method, v14, v16, .bool x13.Read, .int .i64 x13.Reply.Err, .int .i64 x13.Reply.Out.Trap, .int .u8 x13.Reply.Out.Result.Kind, .int .i64 x13.Reply.Out.Result.A, .int .i64 x13.Reply.Out.Result.B, .int .i64 x13.Start, .int .i64 x13.End]), (46, .agg #[.int .i64 x22.Proc, .int .u8 x22.Op.Kind, .int .i64 x22.Op.Method, v23, v25, .bool x22.Read, .int .i64 x22.Reply.Err, .int .i64 x22.Reply.Out.Trap, .int .u8 x22.Reply.Out.Result.Kind, .int .i64 x22.Reply.Out.Result.A, .int .i64 x22.Reply.Out.Result.B, .int .i64 x22.Start, .int .i64 x22.End]), (53, .agg #[.int .i64 x31.Proc, .int .u8 x31.Op.Kind, .int .i64 x31.Op.Method, v32, v34, .bool x31.Read, .int .i64 x31.Reply.Err, .int .i64 x31.Reply.Out.Trap, .int .u8 x31.Reply.Out.Result.Kind, .int .i64 x31.Reply.Out.Result.A, .int .i64 x31.Reply.Out.Result.B, .int .i64 x31.Start, .int .i64 x31.End]), (60, .agg #[.int .i64 x40.Proc, .int .u8 x40.Op.Kind, .int .i64 x40.Op.Method, v41, v43, .bool x40.Read, .int .i64 x40.Reply.Err, .int .i64 x40.Reply.Out.Trap, .int .u8 x40.Reply.Out.Result.Kind, .int .i64 x40.Reply.Out.Result.A, .int .i64 x40.Reply.Out.Result.B, .int .i64 x40.Start, .int .i64 x40.End])]) (fun z w2 => St w em hV [atP p38 [.int .i64 x40.Proc, .int .u8 x40.Op.Kind, .int .i64 x40.Op.Method, v41, v43, .bool x40.Read, .int .i64 x40.Reply.Err, .int .i64 x40.Reply.Out.Trap, .int .u8 x40.Reply.Out.Result.Kind, .int .i64 x40.Reply.Out.Result.A, .int .i64 x40.Reply.Out.Result.B, .int .i64 x40.Start, .int .i64 x40.End], slP k_api_Value v41 x40.Op.Args, slP (kInt .u8) v43 x40.Op.Bytes, elP k_history_Call p38 x40, atP p29 [.int .i64 x31.Proc, .int .u8 x31.Op.Kind, .int .i64 x31.Op.Method, v32, v34, .bool x31.Read, .int .i64 x31.Reply.Err, .int .i64 x31.Reply.Out.Trap, .int .u8 x31.Reply.Out.Result.Kind, .int .i64 x31.Reply.Out.Result.A, .int .i64 x31.Reply.Out.Result.B, .int .i64 x31.Start, .int .i64 x31.End], slP k_api_Value v32 x31.Op.Args, slP (kInt .u8) v34 x31.Op.Bytes, elP k_history_Call p29 x31, atP p20 [.int .i64 x22.Proc, .int .u8 x22.Op.Kind, .int .i64 x22.Op.Method, v23, v25, .bool x22.Read, .int .i64 x22.Reply.Err, .int .i64 x22.Reply.Out.Trap, .int .u8 x22.Reply.Out.Result.Kind, .int .i64 x22.Reply.Out.Result.A, .int .i64 x22.Reply.Out.Result.B, .int .i64 x22.Start, .int .i64 x22.End], slP k_api_Value v23 x22.Op.Args, slP (kInt .u8) v25 x22.Op.Bytes, elP k_history_Call p20 x22, atP p11 [.int .i64 x13.Proc, .int .u8 x13.Op.Kind, .int .i64 x13.Op.Method, v14, v16, .bool x13.Read, .int .i64 x13.Reply.Err, .int .i64 x13.Reply.Out.Trap, .int .u8 x13.Reply.Out.Result.Kind, .int .i64 x13.Reply.Out.Result.A, .int .i64 x13.Reply.Out.Result.B, .int .i64 x13.Start, .int .i64 x13.End], slP k_api_Value v14 x13.Op.Args, slP (kInt .u8) v16 x13.Op.Bytes, elP k_history_Call p11 x13, slP k_history_Call v_l_0 l_0] [boxO z.2 [.int .i64 0, .int .u8 0, .int .i64 0, (.slice none 0 0), (.slice none 0 0), .bool false, .int .i64 0, .int .i64 0, .int .u8 0, .int .i64 0, .int .i64 0, .int .i64 0, .int .i64 0] 48, boxO z.1 [.int .i64 0, .int .u8 0, .int .i64 0, (.slice none 0 0), (.slice none 0 0), .bool false, .int .i64 0, .int .i64 0, .int .u8 0, .int .i64 0, .int .i64 0, .int .i64 0, .int .i64 0] 48] w2) 6 #[true, true, true, true, true, true, true, true, true, true, true, true, true, true, true, true, true, true, true, true, true, true, true, true, true, true, true, true, false, true, false, true, false, false, false, false] (fun z => ?_) (fun J178 => ?_)
          · obtain ⟨b174, b176⟩ := z
            refine DT.any 28 [30] (by kernel_rfl) ⟨⟨_, rfl, rfl, ?_⟩, ⟨_, rfl, rfl, ?_⟩, trivial⟩
            · refine SP.alloc (cs := [.int .i64 0, .int .u8 0, .int .i64 0, (.slice none 0 0), (.slice none 0 0), .bool false, .int .i64 0, .int .i64 0, .int .u8 0, .int .i64 0, .int .i64 0, .int .i64 0, .int .i64 0]) inf48 rfl rfl (fun b179 => ?_)
              refine SP.nil ?_
              refine QE.atT (fun w2 hw => (St.selO [] rfl rfl hw)) ?_
              refine DT.list (l2 := #[true, true, true, true, true, true, true, true, true, true, true, true, true, true, true, true, true, true, true, true, true, true, true, true, true, true, true, true, true, true, false, true, false, false, false, false]) (by kernel_rfl) ?_
              exact DT.weak (by exact ⟨rfl, rfl, rfl, rfl, rfl, rfl, rfl, trivial⟩) (by exact fun w2 hw => (St.selO [1, 2, 0] rfl rfl hw)) (J117 (b179, b174, b176))
            · refine SP.alloc (cs := [.int .i64 0, .int .u8 0, .int .i64 0, (.slice none 0 0), (.slice none 0 0), .bool false, .int .i64 0, .int .i64 0, .int .u8 0, .int .i64 0, .int .i64 0, .int .i64 0, .int .i64 0]) inf48 rfl rfl (fun b181 => ?_)
              refine SP.nil ?_
              refine QE.atT (fun w2 hw => (St.selO [] rfl rfl hw)) ?_
              refine DT.list (l2 := #[true, true, true, true, true, true, true, true, true, true, true, true, true, true, true, true, true, true, true, true, true, true, true, true, true, true, true, true, false, true, true, true, false, false, false, false]) (by kernel_rfl) ?_
              exact DT.weak (by exact ⟨rfl, rfl, rfl, rfl, rfl, rfl, rfl, trivial⟩) (by exact fun w2 hw => (St.selO [1, 0, 2] rfl rfl hw)) (J135 (b174, b181, b176))
          refine DT.cut (ι := Nat × Nat) (fun z => [(14, .pointer (some ⟨z.1, 0, none⟩)), (15, .pointer (some ⟨z.2, 0, none⟩)), (39, .agg #[.int .i64 x13.Proc, .int .u8 x13.Op.Kind, .int .i64 x13.Op.Method, v14, v16, .bool x13.Read, .int .i64 x13.Reply.Err, .int .i64 x13.Reply.Out.Trap, .int .u8 x13.Reply.Out.Result.Kind, .int .i64 x13.Reply.Out.Result.A, .int .i64 x13.Reply.Out.Result.B, .int .i64 x13.Start, .int .i64 x13.End]), (46, .agg #[.int .i64 x22.Proc, .int .u8 x22.Op.Kind, .int .i64 x22.Op.Method, v23, v25, .bool x22.Read, .int .i64 x22.Reply.Err, .int .i64 x22.Reply.Out.Trap, .int .u8 x22.Reply.Out.Result.Kind, .int .i64 x22.Reply.Out.Result.A, .int .i64 x22.Reply.Out.Result.B, .int .i64 x22.Start, .int .i64 x22.End]), (53, .agg #[.int .i64 x31.Proc, .int .u8 x31.Op.Kind, .int .i64 x31.Op.Method, v32, v34, .bool x31.Read, .int .i64 x31.Reply.Err, .int .i64 x31.Reply.Out.Trap, .int .u8 x31.Reply.Out.Result.Kind, .int .i64 x31.Reply.Out.Result.A, .int .i64 x31.Reply.Out.Result.B, .int .i64 x31.Start, .int .i64 x31.End]), (60, .agg #[.int .i64 x40.Proc, .int .u8 x40.Op.Kind, .int .i64 x40.Op.Method, v41, v43, .bool x40.Read, .int .i64 x40.Reply.Err, .int .i64 x40.Reply.Out.Trap, .int .u8 x40.Reply.Out.Result.Kind, .int .i64 x40.Reply.Out.Result.A, .int .i64 x40.Reply.Out.Result.B, .int .i64 x40.Start, .int .i64 x40.End])]) (fun z w2 => St w em hV [atP p38 [.int .i64 x40.Proc, .int .u8 x40.Op.Kind, .int .i64 x40.Op.Method, v41, v43, .bool x40.Read, .int .i64 x40.Reply.Err, .int .i64 x40.Reply.Out.Trap, .int .u8 x40.Reply.Out.Result.Kind, .int .i64 x40.Reply.Out.Result.A, .int .i64 x40.Reply.Out.Result.B, .int .i64 x40.Start, .int .i64 x40.End], slP k_api_Value v41 x40.Op.Args, slP (kInt .u8) v43 x40.Op.Bytes, elP k_history_Call p38 x40, atP p29 [.int .i64 x31.Proc, .int .u8 x31.Op.Kind, .int .i64 x31.Op.Method, v32, v34, .bool x31.Read, .int .i64 x31.Reply.Err, .int .i64 x31.Reply.Out.Trap, .int .u8 x31.Reply.Out.Result.Kind, .int .i64 x31.Reply.Out.Result.A, .int .i64 x31.Reply.Out.Result.B, .int .i64 x31.Start, .int .i64 x31.End], slP k_api_Value v32 x31.Op.Args, slP (kInt .u8) v34 x31.Op.Bytes, elP k_history_Call p29 x31, atP p20 [.int .i64 x22.Proc, .int .u8 x22.Op.Kind, .int .i64 x22.Op.Method, v23, v25, .bool x22.Read, .int .i64 x22.Reply.Err, .int .i64 x22.Reply.Out.Trap, .int .u8 x22.Reply.Out.Result.Kind, .int .i64 x22.Reply.Out.Result.A, .int .i64 x22.Reply.Out.Result.B, .int .i64 x22.Start, .int .i64 x22.End], slP k_api_Value v23 x22.Op.Args, slP (kInt .u8) v25 x22.Op.Bytes, elP k_history_Call p20 x22, atP p11 [.int .i64 x13.Proc, .int .u8 x13.Op.Kind, .int .i64 x13.Op.Method, v14, v16, .bool x13.Read, .int .i64 x13.Reply.Err, .int .i64 x13.Reply.Out.Trap, .int .u8 x13.Reply.Out.Result.Kind, .int .i64 x13.Reply.Out.Result.A, .int .i64 x13.Reply.Out.Result.B, .int .i64 x13.Start, .int .i64 x13.End], slP k_api_Value v14 x13.Op.Args, slP (kInt .u8) v16 x13.Op.Bytes, elP k_history_Call p11 x13, slP k_history_Call v_l_0 l_0] [boxO z.2 [.int .i64 0, .int .u8 0, .int .i64 0, (.slice none 0 0), (.slice none 0 0), .bool false, .int .i64 0, .int .i64 0, .int .u8 0, .int .i64 0, .int .i64 0, .int .i64 0, .int .i64 0] 48, boxO z.1 [.int .i64 0, .int .u8 0, .int .i64 0, (.slice none 0 0), (.slice none 0 0), .bool false, .int .i64 0, .int .i64 0, .int .u8 0, .int .i64 0, .int .i64 0, .int .i64 0, .int .i64 0] 48] w2) 6 #[true, true, true, true, true, true, true, true, true, true, true, true, true, true, true, true, true, true, true, true, true, true, true, true, true, true, true, true, false, false, true, true, false, false, false, false] (fun z => ?_) (fun J187 => ?_)
          · obtain ⟨b183, b185⟩ := z
            refine DT.any 28 [29] (by kernel_rfl) ⟨⟨_, rfl, rfl, ?_⟩, ⟨_, rfl, rfl, ?_⟩, trivial⟩
            · refine SP.alloc (cs := [.int .i64 0, .int .u8 0, .int .i64 0, (.slice none 0 0), (.slice none 0 0), .bool false, .int .i64 0, .int .i64 0, .int .u8 0, .int .i64 0, .int .i64 0, .int .i64 0, .int .i64 0]) inf48 rfl rfl (fun b188 => ?_)
              refine SP.nil ?_
              refine QE.atT (fun w2 hw => (St.selO [] rfl rfl hw)) ?_
              refine DT.list (l2 := #[true, true, true, true, true, true, true, true, true, true, true, true, true, true, true, true, true, true, true, true, true, true, true, true, true, true, true, true, true, false, true, true, false, false, false, false]) (by kernel_rfl) ?_
              exact DT.weak (by exact ⟨rfl, rfl, rfl, rfl, rfl, rfl, rfl, trivial⟩) (by exact fun w2 hw => (St.selO [1, 2, 0] rfl rfl hw)) (J126 (b188, b183, b185))
            · refine SP.alloc (cs := [.int .i64 0, .int .u8 0, .int .i64 0, (.slice none 0 0), (.slice none 0 0), .bool false, .int .i64 0, .int .i64 0, .int .u8 0, .int .i64 0, .int .i64 0, .int .i64 0, .int .i64 0]) inf48 rfl rfl (fun b190 => ?_)
              refine SP.nil ?_
              refine QE.atT (fun w2 hw => (St.selO [] rfl rfl hw)) ?_
              refine DT.list (l2 := #[true, true, true, true, true, true, true, true, true, true, true, true, true, true, true, true, true, true, true, true, true, true, true, true, true, true, true, true, false, true, true, true, false, false, false, false]) (by kernel_rfl) ?_
              exact DT.weak (by exact ⟨rfl, rfl, rfl, rfl, rfl, rfl, rfl, trivial⟩) (by exact fun w2 hw => (St.selO [1, 2, 0] rfl rfl hw)) (J135 (b190, b183, b185))
          refine DT.cut (ι := Nat) (fun z => [(12, .pointer (some ⟨z, 0, none⟩)), (39, .agg #[.int .i64 x13.Proc, .int .u8 x13.Op.Kind, .int .i64 x13.Op.Method, v14, v16, .bool x13.Read, .int .i64 x13.Reply.Err, .int .i64 x13.Reply.Out.Trap, .int .u8 x13.Reply.Out.Result.Kind, .int .i64 x13.Reply.Out.Result.A, .int .i64 x13.Reply.Out.Result.B, .int .i64 x13.Start, .int .i64 x13.End]), (46, .agg #[.int .i64 x22.Proc, .int .u8 x22.Op.Kind, .int .i64 x22.Op.Method, v23, v25, .bool x22.Read, .int .i64 x22.Reply.Err, .int .i64 x22.Reply.Out.Trap, .int .u8 x22.Reply.Out.Result.Kind, .int .i64 x22.Reply.Out.Result.A, .int .i64 x22.Reply.Out.Result.B, .int .i64 x22.Start, .int .i64 x22.End]), (53, .agg #[.int .i64 x31.Proc, .int .u8 x31.Op.Kind, .int .i64 x31.Op.Method, v32, v34, .bool x31.Read, .int .i64 x31.Reply.Err, .int .i64 x31.Reply.Out.Trap, .int .u8 x31.Reply.Out.Result.Kind, .int .i64 x31.Reply.Out.Result.A, .int .i64 x31.Reply.Out.Result.B, .int .i64 x31.Start, .int .i64 x31.End]), (60, .agg #[.int .i64 x40.Proc, .int .u8 x40.Op.Kind, .int .i64 x40.Op.Method, v41, v43, .bool x40.Read, .int .i64 x40.Reply.Err, .int .i64 x40.Reply.Out.Trap, .int .u8 x40.Reply.Out.Result.Kind, .int .i64 x40.Reply.Out.Result.A, .int .i64 x40.Reply.Out.Result.B, .int .i64 x40.Start, .int .i64 x40.End])]) (fun z w2 => St w em hV [atP p38 [.int .i64 x40.Proc, .int .u8 x40.Op.Kind, .int .i64 x40.Op.Method, v41, v43, .bool x40.Read, .int .i64 x40.Reply.Err, .int .i64 x40.Reply.Out.Trap, .int .u8 x40.Reply.Out.Result.Kind, .int .i64 x40.Reply.Out.Result.A, .int .i64 x40.Reply.Out.Result.B, .int .i64 x40.Start, .int .i64 x40.End], slP k_api_Value v41 x40.Op.Args, slP (kInt .u8) v43 x40.Op.Bytes, elP k_history_Call p38 x40, atP p29 [.int .i64 x31.Proc, .int .u8 x31.Op.Kind, .int .i64 x31.Op.Method, v32, v34, .bool x31.Read, .int .i64 x31.Reply.Err, .int .i64 x31.Reply.Out.Trap, .int .u8 x31.Reply.Out.Result.Kind, .int .i64 x31.Reply.Out.Result.A, .int .i64 x31.Reply.Out.Result.B, .int .i64 x31.Start, .int .i64 x31.End], slP k_api_Value v32 x31.Op.Args, slP (kInt .u8) v34 x31.Op.Bytes, elP k_history_Call p29 x31, atP p20 [.int .i64 x22.Proc, .int .u8 x22.Op.Kind, .int .i64 x22.Op.Method, v23, v25, .bool x22.Read, .int .i64 x22.Reply.Err, .int .i64 x22.Reply.Out.Trap, .int .u8 x22.Reply.Out.Result.Kind, .int .i64 x22.Reply.Out.Result.A, .int .i64 x22.Reply.Out.Result.B, .int .i64 x22.Start, .int .i64 x22.End], slP k_api_Value v23 x22.Op.Args, slP (kInt .u8) v25 x22.Op.Bytes, elP k_history_Call p20 x22, atP p11 [.int .i64 x13.Proc, .int .u8 x13.Op.Kind, .int .i64 x13.Op.Method, v14, v16, .bool x13.Read, .int .i64 x13.Reply.Err, .int .i64 x13.Reply.Out.Trap, .int .u8 x13.Reply.Out.Result.Kind, .int .i64 x13.Reply.Out.Result.A, .int .i64 x13.Reply.Out.Result.B, .int .i64 x13.Start, .int .i64 x13.End], slP k_api_Value v14 x13.Op.Args, slP (kInt .u8) v16 x13.Op.Bytes, elP k_history_Call p11 x13, slP k_history_Call v_l_0 l_0] [boxO z [.int .i64 0, .int .u8 0, .int .i64 0, (.slice none 0 0), (.slice none 0 0), .bool false, .int .i64 0, .int .i64 0, .int .u8 0, .int .i64 0, .int .i64 0, .int .i64 0, .int .i64 0] 48] w2) 7 #[true, true, true, true, true, true, true, true, true, true, true, true, true, true, true, true, true, true, true, true, true, true, true, true, true, true, true, true, true, false, false, false, false, false, false, false] (fun z => ?_) (fun J194 => ?_)
          · rename Nat => b192
            refine DT.any 29 [30, 31] (by kernel_rfl) ⟨⟨_, rfl, rfl, ?_⟩, ⟨_, rfl, rfl, ?_⟩, ⟨_, rfl, rfl, ?_⟩, trivial⟩
            · refine SP.alloc (cs := [.int .i64 0, .int .u8 0, .int .i64 0, (.slice none 0 0), (.slice none 0 0), .bool false, .int .i64 0, .int .i64 0, .int .u8 0, .int .i64 0, .int .i64 0, .int .i64 0, .int .i64 0]) inf48 rfl rfl (fun b195 => ?_)
              refine SP.nil ?_
              refine QE.atT (fun w2 hw => (St.selO [] rfl rfl hw)) ?_
              refine DT.list (l2 := #[true, true, true, true, true, true, true, true, true, true, true, true, true, true, true, true, true, true, true, true, true, true, true, true, true, true, true, true, true, true, false, false, false, false, false, false]) (by kernel_rfl) ?_
              exact DT.weak (by exact ⟨rfl, rfl, rfl, rfl, rfl, rfl, trivial⟩) (by exact fun w2 hw => hw) (J142 (b192, b195))
            · refine SP.alloc (cs := [.int .i64 0, .int .u8 0, .int .i64 0, (.slice none 0 0), (.slice none 0 0), .bool false, .int .i64 0, .int .i64 0, .int .u8 0, .int .i64 0, .int .i64 0, .int .i64 0, .int .i64 0]) inf48 rfl rfl (fun b197 => ?_)
              refine SP.nil ?_
              refine QE.atT (fun w2 hw => (St.selO [] rfl rfl hw)) ?_
              refine DT.list (l2 := #[true, true, true, true, true, true, true, true, true, true, true, true, true, true, true, true, true, true, true, true, true, true, true, true, true, true, true, true, true, false, true, false, false, false, false, false]) (by kernel_rfl) ?_
              exact DT.weak (by exact ⟨rfl, rfl, rfl, rfl, rfl, rfl, trivial⟩) (by exact fun w2 hw => hw) (J151 (b192, b197))
            · refine SP.alloc (cs := [.int .i64 0, .int .u8 0, .int .i64 0, (.slice none 0 0), (.slice none 0 0), .bool false, .int .i64 0, .int .i64 0, .int .u8 0, .int .i64 0, .int .i64 0, .int .i64 0, .int .i64 0]) inf48 rfl rfl (fun b199 => ?_)
              refine SP.nil ?_
              refine QE.atT (fun w2 hw => (St.selO [] rfl rfl hw)) ?_
              refine DT.list (l2 := #[true, true, true, true, true, true, true, true, true, true, true, true, true, true, true, true, true, true, true, true, true, true, true, true, true, true, true, true, true, false, false, true, false, false, false, false]) (by kernel_rfl) ?_
              exact DT.weak (by exact ⟨rfl, rfl, rfl, rfl, rfl, rfl, trivial⟩) (by exact fun w2 hw => hw) (J160 (b192, b199))
          refine DT.cut (ι := Nat) (fun z => [(13, .pointer (some ⟨z, 0, none⟩)), (39, .agg #[.int .i64 x13.Proc, .int .u8 x13.Op.Kind, .int .i64 x13.Op.Method, v14, v16, .bool x13.Read, .int .i64 x13.Reply.Err, .int .i64 x13.Reply.Out.Trap, .int .u8 x13.Reply.Out.Result.Kind, .int .i64 x13.Reply.Out.Result.A, .int .i64 x13.Reply.Out.Result.B, .int .i64 x13.Start, .int .i64 x13.End]), (46, .agg #[.int .i64 x22.Proc, .int .u8 x22.Op.Kind, .int .i64 x22.Op.Method, v23, v25, .bool x22.Read, .int .i64 x22.Reply.Err, .int .i64 x22.Reply.Out.Trap, .int .u8 x22.Reply.Out.Result.Kind, .int .i64 x22.Reply.Out.Result.A, .int .i64 x22.Reply.Out.Result.B, .int .i64 x22.Start, .int .i64 x22.End]), (53, .agg #[.int .i64 x31.Proc, .int .u8 x31.Op.Kind, .int .i64 x31.Op.Method, v32, v34, .bool x31.Read, .int .i64 x31.Reply.Err, .int .i64 x31.Reply.Out.Trap, .int .u8 x31.Reply.Out.Result.Kind, .int .i64 x31.Reply.Out.Result.A, .int .i64 x31.Reply.Out.Result.B, .int .i64 x31.Start, .int .i64 x31.End]), (60, .agg #[.int .i64 x40.Proc, .int .u8 x40.Op.Kind, .int .i64 x40.Op.Method, v41, v43, .bool x40.Read, .int .i64 x40.Reply.Err, .int .i64 x40.Reply.Out.Trap, .int .u8 x40.Reply.Out.Result.Kind, .int .i64 x40.Reply.Out.Result.A, .int .i64 x40.Reply.Out.Result.B, .int .i64 x40.Start, .int .i64 x40.End])]) (fun z w2 => St w em hV [atP p38 [.int .i64 x40.Proc, .int .u8 x40.Op.Kind, .int .i64 x40.Op.Method, v41, v43, .bool x40.Read, .int .i64 x40.Reply.Err, .int .i64 x40.Reply.Out.Trap, .int .u8 x40.Reply.Out.Result.Kind, .int .i64 x40.Reply.Out.Result.A, .int .i64 x40.Reply.Out.Result.B, .int .i64 x40.Start, .int .i64 x40.End], slP k_api_Value v41 x40.Op.Args, slP (kInt .u8) v43 x40.Op.Bytes, elP k_history_Call p38 x40, atP p29 [.int .i64 x31.Proc, .int .u8 x31.Op.Kind, .int .i64 x31.Op.Method, v32, v34, .bool x31.Read, .int .i64 x31.Reply.Err, .int .i64 x31.Reply.Out.Trap, .int .u8 x31.Reply.Out.Result.Kind, .int .i64 x31.Reply.Out.Result.A, .int .i64 x31.Reply.Out.Result.B, .int .i64 x31.Start, .int .i64 x31.End], slP k_api_Value v32 x31.Op.Args, slP (kInt .u8) v34 x31.Op.Bytes, elP k_history_Call p29 x31, atP p20 [.int .i64 x22.Proc, .int .u8 x22.Op.Kind, .int .i64 x22.Op.Method, v23, v25, .bool x22.Read, .int .i64 x22.Reply.Err, .int .i64 x22.Reply.Out.Trap, .int .u8 x22.Reply.Out.Result.Kind, .int .i64 x22.Reply.Out.Result.A, .int .i64 x22.Reply.Out.Result.B, .int .i64 x22.Start, .int .i64 x22.End], slP k_api_Value v23 x22.Op.Args, slP (kInt .u8) v25 x22.Op.Bytes, elP k_history_Call p20 x22, atP p11 [.int .i64 x13.Proc, .int .u8 x13.Op.Kind, .int .i64 x13.Op.Method, v14, v16, .bool x13.Read, .int .i64 x13.Reply.Err, .int .i64 x13.Reply.Out.Trap, .int .u8 x13.Reply.Out.Result.Kind, .int .i64 x13.Reply.Out.Result.A, .int .i64 x13.Reply.Out.Result.B, .int .i64 x13.Start, .int .i64 x13.End], slP k_api_Value v14 x13.Op.Args, slP (kInt .u8) v16 x13.Op.Bytes, elP k_history_Call p11 x13, slP k_history_Call v_l_0 l_0] [boxO z [.int .i64 0, .int .u8 0, .int .i64 0, (.slice none 0 0), (.slice none 0 0), .bool false, .int .i64 0, .int .i64 0, .int .u8 0, .int .i64 0, .int .i64 0, .int .i64 0, .int .i64 0] 48] w2) 7 #[true, true, true, true, true, true, true, true, true, true, true, true, true, true, true, true, true, true, true, true, true, true, true, true, true, true, true, true, false, true, false, false, false, false, false, false] (fun z => ?_) (fun J203 => ?_)
          · rename Nat => b201
            refine DT.any 28 [30, 31] (by kernel_rfl) ⟨⟨_, rfl, rfl, ?_⟩, ⟨_, rfl, rfl, ?_⟩, ⟨_, rfl, rfl, ?_⟩, trivial⟩
            · refine SP.alloc (cs := [.int .i64 0, .int .u8 0, .int .i64 0, (.slice none 0 0), (.slice none 0 0), .bool false, .int .i64 0, .int .i64 0, .int .u8 0, .int .i64 0, .int .i64 0, .int .i64 0, .int .i64 0]) inf48 rfl rfl (fun b204 => ?_)
              refine SP.nil ?_
              refine QE.atT (fun w2 hw => (St.selO [] rfl rfl hw)) ?_
              refine DT.list (l2 := #[true, true, true, true, true, true, true, true, true, true, true, true, true, true, true, true, true, true, true, true, true, true, true, true, true, true, true, true, true, true, false, false, false, false, false, false]) (by kernel_rfl) ?_
              exact DT.weak (by exact ⟨rfl, rfl, rfl, rfl, rfl, rfl, trivial⟩) (by exact fun w2 hw => (St.selO [1, 0] rfl rfl hw)) (J142 (b204, b201))
            · refine SP.alloc (cs := [.int .i64 0, .int .u8 0, .int .i64 0, (.slice none 0 0), (.slice none 0 0), .bool false, .int .i64 0, .int .i64 0, .int .u8 0, .int .i64 0, .int .i64 0, .int .i64 0, .int .i64 0]) inf48 rfl rfl (fun b206 => ?_)
              refine SP.nil ?_
              refine QE.atT (fun w2 hw => (St.selO [] rfl rfl hw)) ?_
              refine DT.list (l2 := #[true, true, true, true, true, true, true, true, true, true, true, true, true, true, true, true, true, true, true, true, true, true, true, true, true, true, true, true, false, true, true, false, false, false, false, false]) (by kernel_rfl) ?_
              exact DT.weak (by exact ⟨rfl, rfl, rfl, rfl, rfl, rfl, trivial⟩) (by exact fun w2 hw => hw) (J169 (b201, b206))
            · refine SP.alloc (cs := [.int .i64 0, .int .u8 0, .int .i64 0, (.slice none 0 0), (.slice none 0 0), .bool false, .int .i64 0, .int .i64 0, .int .u8 0, .int .i64 0, .int .i64 0, .int .i64 0, .int .i64 0]) inf48 rfl rfl (fun b208 => ?_)
              refine SP.nil ?_
              refine QE.atT (fun w2 hw => (St.selO [] rfl rfl hw)) ?_
              refine DT.list (l2 := #[true, true, true, true, true, true, true, true, true, true, true, true, true, true, true, true, true, true, true, true, true, true, true, true, true, true, true, true, false, true, false, true, false, false, false, false]) (by kernel_rfl) ?_
              exact DT.weak (by exact ⟨rfl, rfl, rfl, rfl, rfl, rfl, trivial⟩) (by exact fun w2 hw => hw) (J178 (b201, b208))
          refine DT.cut (ι := Nat) (fun z => [(14, .pointer (some ⟨z, 0, none⟩)), (39, .agg #[.int .i64 x13.Proc, .int .u8 x13.Op.Kind, .int .i64 x13.Op.Method, v14, v16, .bool x13.Read, .int .i64 x13.Reply.Err, .int .i64 x13.Reply.Out.Trap, .int .u8 x13.Reply.Out.Result.Kind, .int .i64 x13.Reply.Out.Result.A, .int .i64 x13.Reply.Out.Result.B, .int .i64 x13.Start, .int .i64 x13.End]), (46, .agg #[.int .i64 x22.Proc, .int .u8 x22.Op.Kind, .int .i64 x22.Op.Method, v23, v25, .bool x22.Read, .int .i64 x22.Reply.Err, .int .i64 x22.Reply.Out.Trap, .int .u8 x22.Reply.Out.Result.Kind, .int .i64 x22.Reply.Out.Result.A, .int .i64 x22.Reply.Out.Result.B, .int .i64 x22.Start, .int .i64 x22.End]), (53, .agg #[.int .i64 x31.Proc, .int .u8 x31.Op.Kind, .int .i64 x31.Op.Method, v32, v34, .bool x31.Read, .int .i64 x31.Reply.Err, .int .i64 x31.Reply.Out.Trap, .int .u8 x31.Reply.Out.Result.Kind, .int .i64 x31.Reply.Out.Result.A, .int .i64 x31.Reply.Out.Result.B, .int .i64 x31.Start, .int .i64 x31.End]), (60, .agg #[.int .i64 x40.Proc, .int .u8 x40.Op.Kind, .int .i64 x40.Op.Method, v41, v43, .bool x40.Read, .int .i64 x40.Reply.Err, .int .i64 x40.Reply.Out.Trap, .int .u8 x40.Reply.Out.Result.Kind, .int .i64 x40.Reply.Out.Result.A, .int .i64 x40.Reply.Out.Result.B, .int .i64 x40.Start, .int .i64 x40.End])]) (fun z w2 => St w em hV [atP p38 [.int .i64 x40.Proc, .int .u8 x40.Op.Kind, .int .i64 x40.Op.Method, v41, v43, .bool x40.Read, .int .i64 x40.Reply.Err, .int .i64 x40.Reply.Out.Trap, .int .u8 x40.Reply.Out.Result.Kind, .int .i64 x40.Reply.Out.Result.A, .int .i64 x40.Reply.Out.Result.B, .int .i64 x40.Start, .int .i64 x40.End], slP k_api_Value v41 x40.Op.Args, slP (kInt .u8) v43 x40.Op.Bytes, elP k_history_Call p38 x40, atP p29 [.int .i64 x31.Proc, .int .u8 x31.Op.Kind, .int .i64 x31.Op.Method, v32, v34, .bool x31.Read, .int .i64 x31.Reply.Err, .int .i64 x31.Reply.Out.Trap, .int .u8 x31.Reply.Out.Result.Kind, .int .i64 x31.Reply.Out.Result.A, .int .i64 x31.Reply.Out.Result.B, .int .i64 x31.Start, .int .i64 x31.End], slP k_api_Value v32 x31.Op.Args, slP (kInt .u8) v34 x31.Op.Bytes, elP k_history_Call p29 x31, atP p20 [.int .i64 x22.Proc, .int .u8 x22.Op.Kind, .int .i64 x22.Op.Method, v23, v25, .bool x22.Read, .int .i64 x22.Reply.Err, .int .i64 x22.Reply.Out.Trap, .int .u8 x22.Reply.Out.Result.Kind, .int .i64 x22.Reply.Out.Result.A, .int .i64 x22.Reply.Out.Result.B, .int .i64 x22.Start, .int .i64 x22.End], slP k_api_Value v23 x22.Op.Args, slP (kInt .u8) v25 x22.Op.Bytes, elP k_history_Call p20 x22, atP p11 [.int .i64 x13.Proc, .int .u8 x13.Op.Kind, .int .i64 x13.Op.Method, v14, v16, .bool x13.Read, .int .i64 x13.Reply.Err, .int .i64 x13.Reply.Out.Trap, .int .u8 x13.Reply.Out.Result.Kind, .int .i64 x13.Reply.Out.Result.A, .int .i64 x13.Reply.Out.Result.B, .int .i64 x13.Start, .int .i64 x13.End], slP k_api_Value v14 x13.Op.Args, slP (kInt .u8) v16 x13.Op.Bytes, elP k_history_Call p11 x13, slP k_history_Call v_l_0 l_0] [boxO z [.int .i64 0, .int .u8 0, .int .i64 0, (.slice none 0 0), (.slice none 0 0), .bool false, .int .i64 0, .int .i64 0, .int .u8 0, .int .i64 0, .int .i64 0, .int .i64 0, .int .i64 0] 48] w2) 7 #[true, true, true, true, true, true, true, true, true, true, true, true, true, true, true, true, true, true, true, true, true, true, true, true, true, true, true, true, false, false, true, false, false, false, false, false] (fun z => ?_) (fun J212 => ?_)
          · rename Nat => b210
            refine DT.any 28 [29, 31] (by kernel_rfl) ⟨⟨_, rfl, rfl, ?_⟩, ⟨_, rfl, rfl, ?_⟩, ⟨_, rfl, rfl, ?_⟩, trivial⟩
            · refine SP.alloc (cs := [.int .i64 0, .int .u8 0, .int .i64 0, (.slice none 0 0), (.slice none 0 0), .bool false, .int .i64 0, .int .i64 0, .int .u8 0, .int .i64 0, .int .i64 0, .int .i64 0, .int .i64 0]) inf48 rfl rfl (fun b213 => ?_)
              refine SP.nil ?_
              refine QE.atT (fun w2 hw => (St.selO [] rfl rfl hw)) ?_
              refine DT.list (l2 := #[true, true, true, true, true, true, true, true, true, true, true, true, true, true, true, true, true, true, true, true, true, true, true, true, true, true, true, true, true, false, true, false, false, false, false, false]) (by kernel_rfl) ?_
              exact DT.weak (by exact ⟨rfl, rfl, rfl, rfl, rfl, rfl, trivial⟩) (by exact fun w2 hw => (St.selO [1, 0] rfl rfl hw)) (J151 (b213, b210))
            · refine SP.alloc (cs := [.int .i64 0, .int .u8 0, .int .i64 0, (.slice none 0 0), (.slice none 0 0), .bool false, .int .i64 0, .int .i64 0, .int .u8 0, .int .i64 0, .int .i64 0, .int .i64 0, .int .i64 0]) inf48 rfl rfl (fun b215 => ?_)
              refine SP.nil ?_
              refine QE.atT (fun w2 hw => (St.selO [] rfl rfl hw)) ?_
              refine DT.list (l2 := #[true, true, true, true, true, true, true, true, true, true, true, true, true, true, true, true, true, true, true, true, true, true, true, true, true, true, true, true, false, true, true, false, false, false, false, false]) (by kernel_rfl) ?_
              exact DT.weak (by exact ⟨rfl, rfl, rfl, rfl, rfl, rfl, trivial⟩) (by exact fun w2 hw => (St.selO [1, 0] rfl rfl hw)) (J169 (b215, b210))
            · refine SP.alloc (cs := [.int .i64 0, .int .u8 0, .int .i64 0, (.slice none 0 0), (.slice none 0 0), .bool false, .int .i64 0, .int .i64 0, .int .u8 0, .int .i64 0, .int .i64 0, .int .i64 0, .int .i64 0]) inf48 rfl rfl (fun b217 => ?_)
              refine SP.nil ?_
              refine QE.atT (fun w2 hw => (St.selO [] rfl rfl hw)) ?_
              refine DT.list (l2 := #[true, true, true, true, true, true, true, true, true, true, true, true, true, true, true, true, true, true, true, true, true, true, true, true, true, true, true, true, false, false, true, true, false, false, false, false]) (by kernel_rfl) ?_
              exact DT.weak (by exact ⟨rfl, rfl, rfl, rfl, rfl, rfl, trivial⟩) (by exact fun w2 hw => hw) (J187 (b210, b217))
          refine DT.cut (ι := Nat) (fun z => [(15, .pointer (some ⟨z, 0, none⟩)), (39, .agg #[.int .i64 x13.Proc, .int .u8 x13.Op.Kind, .int .i64 x13.Op.Method, v14, v16, .bool x13.Read, .int .i64 x13.Reply.Err, .int .i64 x13.Reply.Out.Trap, .int .u8 x13.Reply.Out.Result.Kind, .int .i64 x13.Reply.Out.Result.A, .int .i64 x13.Reply.Out.Result.B, .int .i64 x13.Start, .int .i64 x13.End]), (46, .agg #[.int .i64 x22.Proc, .int .u8 x22.Op.Kind, .int .i64 x22.Op.Method, v23, v25, .bool x22.Read, .int .i64 x22.Reply.Err, .int .i64 x22.Reply.Out.Trap, .int .u8 x22.Reply.Out.Result.Kind, .int .i64 x22.Reply.Out.Result.A, .int .i64 x22.Reply.Out.Result.B, .int .i64 x22.Start, .int .i64 x22.End]), (53, .agg #[.int .i64 x31.Proc, .int .u8 x31.Op.Kind, .int .i64 x31.Op.Method, v32, v34, .bool x31.Read, .int .i64 x31.Reply.Err, .int .i64 x31.Reply.Out.Trap, .int .u8 x31.Reply.Out.Result.Kind, .int .i64 x31.Reply.Out.Result.A, .int .i64 x31.Reply.Out.Result.B, .int .i64 x31.Start, .int .i64 x31.End]), (60, .agg #[.int .i64 x40.Proc, .int .u8 x40.Op.Kind, .int .i64 x40.Op.Method, v41, v43, .bool x40.Read, .int .i64 x40.Reply.Err, .int .i64 x40.Reply.Out.Trap, .int .u8 x40.Reply.Out.Result.Kind, .int .i64 x40.Reply.Out.Result.A, .int .i64 x40.Reply.Out.Result.B, .int .i64 x40.Start, .int .i64 x40.End])]) (fun z w2 => St w em hV [atP p38 [.int .i64 x40.Proc, .int .u8 x40.Op.Kind, .int .i64 x40.Op.Method, v41, v43, .bool x40.Read, .int .i64 x40.Reply.Err, .int .i64 x40.Reply.Out.Trap, .int .u8 x40.Reply.Out.Result.Kind, .int .i64 x40.Reply.Out.Result.A, .int .i64 x40.Reply.Out.Result.B, .int .i64 x40.Start, .int .i64 x40.End], slP k_api_Value v41 x40.Op.Args, slP (kInt .u8) v43 x40.Op.Bytes, elP k_history_Call p38 x40, atP p29 [.int .i64 x31.Proc, .int .u8 x31.Op.Kind, .int .i64 x31.Op.Method, v32, v34, .bool x31.Read, .int .i64 x31.Reply.Err, .int .i64 x31.Reply.Out.Trap, .int .u8 x31.Reply.Out.Result.Kind, .int .i64 x31.Reply.Out.Result.A, .int .i64 x31.Reply.Out.Result.B, .int .i64 x31.Start, .int .i64 x31.End], slP k_api_Value v32 x31.Op.Args, slP (kInt .u8) v34 x31.Op.Bytes, elP k_history_Call p29 x31, atP p20 [.int .i64 x22.Proc, .int .u8 x22.Op.Kind, .int .i64 x22.Op.Method, v23, v25, .bool x22.Read, .int .i64 x22.Reply.Err, .int .i64 x22.Reply.Out.Trap, .int .u8 x22.Reply.Out.Result.Kind, .int .i64 x22.Reply.Out.Result.A, .int .i64 x22.Reply.Out.Result.B, .int .i64 x22.Start, .int .i64 x22.End], slP k_api_Value v23 x22.Op.Args, slP (kInt .u8) v25 x22.Op.Bytes, elP k_history_Call p20 x22, atP p11 [.int .i64 x13.Proc, .int .u8 x13.Op.Kind, .int .i64 x13.Op.Method, v14, v16, .bool x13.Read, .int .i64 x13.Reply.Err, .int .i64 x13.Reply.Out.Trap, .int .u8 x13.Reply.Out.Result.Kind, .int .i64 x13.Reply.Out.Result.A, .int .i64 x13.Reply.Out.Result.B, .int .i64 x13.Start, .int .i64 x13.End], slP k_api_Value v14 x13.Op.Args, slP (kInt .u8) v16 x13.Op.Bytes, elP k_history_Call p11 x13, slP k_history_Call v_l_0 l_0] [boxO z [.int .i64 0, .int .u8 0, .int .i64 0, (.slice none 0 0), (.slice none 0 0), .bool false, .int .i64 0, .int .i64 0, .int .u8 0, .int .i64 0, .int .i64 0, .int .i64 0, .int .i64 0] 48] w2) 7 #[true, true, true, true, true, true, true, true, true, true, true, true, true, true, true, true, true, true, true, true, true, true, true, true, true, true, true, true, false, false, false, true, false, false, false, false] (fun z => ?_) (fun J221 => ?_)
          · rename Nat => b219
            refine DT.any 28 [29, 30] (by kernel_rfl) ⟨⟨_, rfl, rfl, ?_⟩, ⟨_, rfl, rfl, ?_⟩, ⟨_, rfl, rfl, ?_⟩, trivial⟩
            · refine SP.alloc (cs := [.int .i64 0, .int .u8 0, .int .i64 0, (.slice none 0 0), (.slice none 0 0), .bool false, .int .i64 0, .int .i64 0, .int .u8 0, .int .i64 0, .int .i64 0, .int .i64 0, .int .i64 0]) inf48 rfl rfl (fun b222 => ?_)
              refine SP.nil ?_
              refine QE.atT (fun w2 hw => (St.selO [] rfl rfl hw)) ?_
              refine DT.list (l2 := #[true, true, true, true, true, true, true, true, true, true, true, true, true, true, true, true, true, true, true, true, true, true, true, true, true, true, true, true, true, false, false, true, false, false, false, false]) (by kernel_rfl) ?_
              exact DT.weak (by exact ⟨rfl, rfl, rfl, rfl, rfl, rfl, trivial⟩) (by exact fun w2 hw => (St.selO [1, 0] rfl rfl hw)) (J160 (b222, b219))
            · refine SP.alloc (cs := [.int .i64 0, .int .u8 0, .int .i64 0, (.slice none 0 0), (.slice none 0 0), .bool false, .int .i64 0, .int .i64 0, .int .u8 0, .int .i64 0, .int .i64 0, .int .i64 0, .int .i64 0]) inf48 rfl rfl (fun b224 => ?_)
              refine SP.nil ?_
              refine QE.atT (fun w2 hw => (St.selO [] rfl rfl hw)) ?_
              refine DT.list (l2 := #[true, true, true, true, true, true, true, true, true, true, true, true, true, true, true, true, true, true, true, true, true, true, true, true, true, true, true, true, false, true, false, true, false, false, false, false]) (by kernel_rfl) ?_
              exact DT.weak (by exact ⟨rfl, rfl, rfl, rfl, rfl, rfl, trivial⟩) (by exact fun w2 hw => (St.selO [1, 0] rfl rfl hw)) (J178 (b224, b219))
            · refine SP.alloc (cs := [.int .i64 0, .int .u8 0, .int .i64 0, (.slice none 0 0), (.slice none 0 0), .bool false, .int .i64 0, .int .i64 0, .int .u8 0, .int .i64 0, .int .i64 0, .int .i64 0, .int .i64 0]) inf48 rfl rfl (fun b226 => ?_)
              refine SP.nil ?_
              refine QE.atT (fun w2 hw => (St.selO [] rfl rfl hw)) ?_
              refine DT.list (l2 := #[true, true, true, true, true, true, true, true, true, true, true, true, true, true, true, true, true, true, true, true, true, true, true, true, true, true, true, true, false, false, true, true, false, false, false, false]) (by kernel_rfl) ?_
              exact DT.weak (by exact ⟨rfl, rfl, rfl, rfl, rfl, rfl, trivial⟩) (by exact fun w2 hw => (St.selO [1, 0] rfl rfl hw)) (J187 (b226, b219))
          refine DT.any 28 [29, 30, 31] (by kernel_rfl) ⟨⟨_, rfl, rfl, ?_⟩, ⟨_, rfl, rfl, ?_⟩, ⟨_, rfl, rfl, ?_⟩, ⟨_, rfl, rfl, ?_⟩, trivial⟩
          · refine SP.alloc (cs := [.int .i64 0, .int .u8 0, .int .i64 0, (.slice none 0 0), (.slice none 0 0), .bool false, .int .i64 0, .int .i64 0, .int .u8 0, .int .i64 0, .int .i64 0, .int .i64 0, .int .i64 0]) inf48 rfl rfl (fun b228 => ?_)
            refine SP.nil ?_
            refine QE.atT (fun w2 hw => (St.selO [] rfl rfl hw)) ?_
            refine DT.list (l2 := #[true, true, true, true, true, true, true, true, true, true, true, true, true, true, true, true, true, true, true, true, true, true, true, true, true, true, true, true, true, false, false, false, false, false, false, false]) (by kernel_rfl) ?_
            exact DT.weak (by exact ⟨rfl, rfl, rfl, rfl, rfl, trivial⟩) (by exact fun w2 hw => hw) (J194 b228)
          · refine SP.alloc (cs := [.int .i64 0, .int .u8 0, .int .i64 0, (.slice none 0 0), (.slice none 0 0), .bool false, .int .i64 0, .int .i64 0, .int .u8 0, .int .i64 0, .int .i64 0, .int .i64 0, .int .i64 0]) inf48 rfl rfl (fun b230 => ?_)
            refine SP.nil ?_
            refine QE.atT (fun w2 hw => (St.selO [] rfl rfl hw)) ?_
            refine DT.list (l2 := #[true, true, true, true, true, true, true, true, true, true, true, true, true, true, true, true, true, true, true, true, true, true, true, true, true, true, true, true, false, true, false, false, false, false, false, false]) (by kernel_rfl) ?_
            exact DT.weak (by exact ⟨rfl, rfl, rfl, rfl, rfl, trivial⟩) (by exact fun w2 hw => hw) (J203 b230)
          · refine SP.alloc (cs := [.int .i64 0, .int .u8 0, .int .i64 0, (.slice none 0 0), (.slice none 0 0), .bool false, .int .i64 0, .int .i64 0, .int .u8 0, .int .i64 0, .int .i64 0, .int .i64 0, .int .i64 0]) inf48 rfl rfl (fun b232 => ?_)
            refine SP.nil ?_
            refine QE.atT (fun w2 hw => (St.selO [] rfl rfl hw)) ?_
            refine DT.list (l2 := #[true, true, true, true, true, true, true, true, true, true, true, true, true, true, true, true, true, true, true, true, true, true, true, true, true, true, true, true, false, false, true, false, false, false, false, false]) (by kernel_rfl) ?_
            exact DT.weak (by exact ⟨rfl, rfl, rfl, rfl, rfl, trivial⟩) (by exact fun w2 hw => hw) (J212 b232)
          · refine SP.alloc (cs := [.int .i64 0, .int .u8 0, .int .i64 0, (.slice none 0 0), (.slice none 0 0), .bool false, .int .i64 0, .int .i64 0, .int .u8 0, .int .i64 0, .int .i64 0, .int .i64 0, .int .i64 0]) inf48 rfl rfl (fun b234 => ?_)
            refine SP.nil ?_
            refine QE.atT (fun w2 hw => (St.selO [] rfl rfl hw)) ?_
            refine DT.list (l2 := #[true, true, true, true, true, true, true, true, true, true, true, true, true, true, true, true, true, true, true, true, true, true, true, true, true, true, true, true, false, false, false, true, false, false, false, false]) (by kernel_rfl) ?_
            exact DT.weak (by exact ⟨rfl, rfl, rfl, rfl, rfl, trivial⟩) (by exact fun w2 hw => hw) (J221 b234)
      · intro J
        clear ho
        have ho := hg_t9
        clear hg_t9
        rcases if_some ho with ⟨hc, ho⟩ | ⟨hc, ho⟩
        · have hq7 := hc
          refine SP.isT (d := 25) rfl hq7 ?_
          refine SP.not rfl rfl rfl ?_
          refine SP.not rfl rfl rfl ?_
          refine SP.not rfl rfl rfl ?_
          refine SP.val (Val.pickT rfl rfl) rfl rfl rfl ?_
          obtain rfl := Option.some.inj ho
          exact J fun a w2 ha hw => ⟨ha.sub ⟨rfl, rfl, rfl, rfl, rfl, rfl, trivial⟩, hw⟩
        · have hq7 := (bf hc)
          refine SP.isF (d := 25) rfl hq7 ?_
          refine SP.val (Val.move rfl) rfl rfl rfl ?_
          obtain ⟨t8, hc, ho⟩ := bind_some ho
          refine SP.callV see (caps := []) (.bool t8) fn25 rfl rfl rfl rfl (fun w2 hP hs sub ap => history_May.ok l_0 _ _ hc w2 hP sub (ap.get 0 rfl)) ?_
          clear hc
          refine SP.val (Val.notB rfl) rfl rfl rfl ?_
          refine SP.val (Val.pickF rfl rfl) rfl rfl rfl ?_
          obtain rfl := Option.some.inj ho
          exact J fun a w2 ha hw => ⟨ha.sub ⟨rfl, rfl, rfl, rfl, rfl, rfl, trivial⟩, hw⟩
    · intro J
      by_cases hc : t3 = true
      · have hq5 := hc
        refine SP.isT (d := 20) rfl hq5 ?_
        refine SP.not rfl rfl rfl ?_
        refine SP.not rfl rfl rfl ?_
        refine SP.not rfl rfl rfl ?_
        refine SP.val (Val.pickT rfl rfl) rfl rfl rfl ?_
        exact J fun a w2 ha hw => ⟨ha.sub ⟨rfl, rfl, rfl, rfl, rfl, congrArg (fun z => some (Value.bool z)) (or_t hq5), trivial⟩, hw⟩
      · have hq5 := (bf hc)
        refine SP.isF (d := 20) rfl hq5 ?_
        refine SP.val (Val.move rfl) rfl rfl rfl ?_
        refine SP.val (Val.lenP see 0 rfl Try.underlying44 rfl) rfl rfl rfl ?_
        refine SP.val (Val.eql rfl rfl) rfl rfl rfl ?_
        refine SP.val (Val.pickF rfl rfl) rfl rfl rfl ?_
        exact J fun a w2 ha hw => ⟨ha.sub ⟨rfl, rfl, rfl, rfl, rfl, congrArg (fun z => some (Value.bool z)) (or_f hq5 rfl), trivial⟩, hw⟩
theorem cl5 : Try.prog.cellsOf 5 = 1 := by kernel_rfl
theorem cl2 : Try.prog.cellsOf 2 = 1 := by kernel_rfl
theorem cl37 : Try.prog.cellsOf 37 = 3 := by kernel_rfl
def wf_api_Value (x : api_Value) : Prop := (Lit.int .u8 x.Kind).wf = true ∧ (Lit.int .i64 x.A).wf = true ∧ (Lit.int .i64 x.B).wf = true
theorem opens_api_Value : Opens Try.prog 37 k_api_Value wf_api_Value := by
  intro H enc W fuel cs d ps h
  cases fuel with
  | zero => simp [DataW.trod] at h
  | succ n =>
    obtain ⟨hl, hf⟩ := trod_struct Try.underlying37 h
    rw [cl37] at hl
    obtain ⟨c0, c1, c2, rfl⟩ := len3 hl
    obtain ⟨d0, q0, h0⟩ := hf 0 _ rfl
    replace h0 : DataW.trod enc Try.prog W 0 (fun _ => true) true n 5 (List.take (Try.prog.cellsOf 5) [c0, c1, c2]) = some (d0, q0) := h0
    rw [cl5] at h0
    replace h0 : DataW.trod enc Try.prog W 0 (fun _ => true) true n 5 [c0] = some (d0, q0) := h0
    obtain ⟨x0, r0, w0⟩ := (Opens.int Try.underlying5) enc W n _ _ _ h0
    obtain ⟨rfl, -⟩ := List.cons.inj r0
    obtain ⟨d1, q1, h1⟩ := hf 1 _ rfl
    replace h1 : DataW.trod enc Try.prog W 0 (fun _ => true) true n 2 (List.take (Try.prog.cellsOf 2) [c1, c2]) = some (d1, q1) := h1
    rw [cl2] at h1
    replace h1 : DataW.trod enc Try.prog W 0 (fun _ => true) true n 2 [c1] = some (d1, q1) := h1
    obtain ⟨x1, r1, w1⟩ := (Opens.int Try.underlying2) enc W n _ _ _ h1
    obtain ⟨rfl, -⟩ := List.cons.inj r1
    obtain ⟨d2, q2, h2⟩ := hf 2 _ rfl
    replace h2 : DataW.trod enc Try.prog W 0 (fun _ => true) true n 2 (List.take (Try.prog.cellsOf 2) [c2]) = some (d2, q2) := h2
    rw [cl2] at h2
    replace h2 : DataW.trod enc Try.prog W 0 (fun _ => true) true n 2 [c2] = some (d2, q2) := h2
    obtain ⟨x2, r2, w2⟩ := (Opens.int Try.underlying2) enc W n _ _ _ h2
    obtain ⟨rfl, -⟩ := List.cons.inj r2
    exact ⟨⟨x0, x1, x2⟩, rfl, w0, w1, w2⟩
theorem cl3 : Try.prog.cellsOf 3 = 1 := by kernel_rfl
theorem cl32 : Try.prog.cellsOf 32 = 1 := by kernel_rfl
theorem cl24 : Try.prog.cellsOf 24 = 1 := by kernel_rfl
theorem cl34 : Try.prog.cellsOf 34 = 4 := by kernel_rfl
def wf_api_Op (x : api_Op) : Prop := (Lit.int .u8 x.Kind).wf = true ∧ (Lit.int .i64 x.Method).wf = true ∧ (x.Args.length ≤ maxLen ∧ ∀ y ∈ x.Args, wf_api_Value y) ∧ (x.Bytes.length ≤ maxLen ∧ ∀ y ∈ x.Bytes, (Lit.int .u8 y).wf = true)
theorem opens_api_Op : Opens Try.prog 34 k_api_Op wf_api_Op := by
  intro H enc W fuel cs d ps h
  cases fuel with
  | zero => simp [DataW.trod] at h
  | succ n =>
    obtain ⟨hl, hf⟩ := trod_struct Try.underlying34 h
    rw [cl34] at hl
    obtain ⟨c0, c1, c2, c3, rfl⟩ := len4 hl
    obtain ⟨d0, q0, h0⟩ := hf 0 _ rfl
    replace h0 : DataW.trod enc Try.prog W 0 (fun _ => true) true n 5 (List.take (Try.prog.cellsOf 5) [c0, c1, c2, c3]) = some (d0, q0) := h0
    rw [cl5] at h0
    replace h0 : DataW.trod enc Try.prog W 0 (fun _ => true) true n 5 [c0] = some (d0, q0) := h0
    obtain ⟨x0, r0, w0⟩ := (Opens.int Try.underlying5) enc W n _ _ _ h0
    obtain ⟨rfl, -⟩ := List.cons.inj r0
    obtain ⟨d1, q1, h1⟩ := hf 1 _ rfl
    replace h1 : DataW.trod enc Try.prog W 0 (fun _ => true) true n 3 (List.take (Try.prog.cellsOf 3) [c1, c2, c3]) = some (d1, q1) := h1
    rw [cl3] at h1
    replace h1 : DataW.trod enc Try.prog W 0 (fun _ => true) true n 3 [c1] = some (d1, q1) := h1
    obtain ⟨x1, r1, w1⟩ := (Opens.int Try.underlying3) enc W n _ _ _ h1
    obtain ⟨rfl, -⟩ := List.cons.inj r1
    obtain ⟨d2, q2, h2⟩ := hf 2 _ rfl
    replace h2 : DataW.trod enc Try.prog W 0 (fun _ => true) true n 32 (List.take (Try.prog.cellsOf 32) [c2, c3]) = some (d2, q2) := h2
    rw [cl32] at h2
    replace h2 : DataW.trod enc Try.prog W 0 (fun _ => true) true n 32 [c2] = some (d2, q2) := h2
    obtain ⟨x2, r2, w2⟩ := (Opens.slice Try.underlying32 opens_api_Value cl37 (by decide)) enc W n _ _ _ h2
    obtain ⟨v2, e2, r2⟩ := r2
    obtain ⟨rfl, -⟩ := List.cons.inj e2
    obtain ⟨d3, q3, h3⟩ := hf 3 _ rfl
    replace h3 : DataW.trod enc Try.prog W 0 (fun _ => true) true n 24 (List.take (Try.prog.cellsOf 24) [c3]) = some (d3, q3) := h3
    rw [cl24] at h3
    replace h3 : DataW.trod enc Try.prog W 0 (fun _ => true) true n 24 [c3] = some (d3, q3) := h3
    obtain ⟨x3, r3, w3⟩ := (Opens.slice Try.underlying24 (Opens.int Try.underlying5) cl5 (by decide)) enc W n _ _ _ h3
    obtain ⟨v3, e3, r3⟩ := r3
    obtain ⟨rfl, -⟩ := List.cons.inj e3
    exact ⟨⟨x0, x1, x2, x3⟩, ⟨_, _, rfl, r2, r3⟩, w0, w1, w2, w3⟩
theorem cl39 : Try.prog.cellsOf 39 = 4 := by kernel_rfl
def wf_api_Outcome (x : api_Outcome) : Prop := (Lit.int .i64 x.Trap).wf = true ∧ wf_api_Value x.Result
theorem opens_api_Outcome : Opens Try.prog 39 k_api_Outcome wf_api_Outcome := by
  intro H enc W fuel cs d ps h
  cases fuel with
  | zero => simp [DataW.trod] at h
  | succ n =>
    obtain ⟨hl, hf⟩ := trod_struct Try.underlying39 h
    rw [cl39] at hl
    obtain ⟨c0, c1, c2, c3, rfl⟩ := len4 hl
    obtain ⟨d0, q0, h0⟩ := hf 0 _ rfl
    replace h0 : DataW.trod enc Try.prog W 0 (fun _ => true) true n 3 (List.take (Try.prog.cellsOf 3) [c0, c1, c2, c3]) = some (d0, q0) := h0
    rw [cl3] at h0
    replace h0 : DataW.trod enc Try.prog W 0 (fun _ => true) true n 3 [c0] = some (d0, q0) := h0
    obtain ⟨x0, r0, w0⟩ := (Opens.int Try.underlying3) enc W n _ _ _ h0
    obtain ⟨rfl, -⟩ := List.cons.inj r0
    obtain ⟨d1, q1, h1⟩ := hf 1 _ rfl
    replace h1 : DataW.trod enc Try.prog W 0 (fun _ => true) true n 37 (List.take (Try.prog.cellsOf 37) [c1, c2, c3]) = some (d1, q1) := h1
    rw [cl37] at h1
    replace h1 : DataW.trod enc Try.prog W 0 (fun _ => true) true n 37 [c1, c2, c3] = some (d1, q1) := h1
    obtain ⟨x1, r1, w1⟩ := opens_api_Value enc W n _ _ _ h1
    have e1 : [c1, c2, c3] = [.int .u8 x1.Kind, .int .i64 x1.A, .int .i64 x1.B] := r1
    simp only [List.cons.injEq, and_true] at e1
    obtain ⟨rfl, rfl, rfl⟩ := e1
    exact ⟨⟨x0, x1⟩, rfl, w0, w1⟩
theorem cl35 : Try.prog.cellsOf 35 = 1 := by kernel_rfl
theorem cl41 : Try.prog.cellsOf 41 = 5 := by kernel_rfl
def wf_api_Reply (x : api_Reply) : Prop := (Lit.int .i64 x.Err).wf = true ∧ wf_api_Outcome x.Out
theorem opens_api_Reply : Opens Try.prog 41 k_api_Reply wf_api_Reply := by
  intro H enc W fuel cs d ps h
  cases fuel with
  | zero => simp [DataW.trod] at h
  | succ n =>
    obtain ⟨hl, hf⟩ := trod_struct Try.underlying41 h
    rw [cl41] at hl
    obtain ⟨c0, c1, c2, c3, c4, rfl⟩ := len5 hl
    obtain ⟨d0, q0, h0⟩ := hf 0 _ rfl
    replace h0 : DataW.trod enc Try.prog W 0 (fun _ => true) true n 35 (List.take (Try.prog.cellsOf 35) [c0, c1, c2, c3, c4]) = some (d0, q0) := h0
    rw [cl35] at h0
    replace h0 : DataW.trod enc Try.prog W 0 (fun _ => true) true n 35 [c0] = some (d0, q0) := h0
    obtain ⟨x0, r0, w0⟩ := (Opens.int Try.underlying35) enc W n _ _ _ h0
    obtain ⟨rfl, -⟩ := List.cons.inj r0
    obtain ⟨d1, q1, h1⟩ := hf 1 _ rfl
    replace h1 : DataW.trod enc Try.prog W 0 (fun _ => true) true n 39 (List.take (Try.prog.cellsOf 39) [c1, c2, c3, c4]) = some (d1, q1) := h1
    rw [cl39] at h1
    replace h1 : DataW.trod enc Try.prog W 0 (fun _ => true) true n 39 [c1, c2, c3, c4] = some (d1, q1) := h1
    obtain ⟨x1, r1, w1⟩ := opens_api_Outcome enc W n _ _ _ h1
    have e1 : [c1, c2, c3, c4] = [.int .i64 x1.Trap, .int .u8 x1.Result.Kind, .int .i64 x1.Result.A, .int .i64 x1.Result.B] := r1
    simp only [List.cons.injEq, and_true] at e1
    obtain ⟨rfl, rfl, rfl, rfl⟩ := e1
    exact ⟨⟨x0, x1⟩, rfl, w0, w1⟩
theorem cl4 : Try.prog.cellsOf 4 = 1 := by kernel_rfl
theorem cl48 : Try.prog.cellsOf 48 = 13 := by kernel_rfl
def wf_history_Call (x : history_Call) : Prop := (Lit.int .i64 x.Proc).wf = true ∧ wf_api_Op x.Op ∧ True ∧ wf_api_Reply x.Reply ∧ (Lit.int .i64 x.Start).wf = true ∧ (Lit.int .i64 x.End).wf = true
theorem opens_history_Call : Opens Try.prog 48 k_history_Call wf_history_Call := by
  intro H enc W fuel cs d ps h
  cases fuel with
  | zero => simp [DataW.trod] at h
  | succ n =>
    obtain ⟨hl, hf⟩ := trod_struct Try.underlying48 h
    rw [cl48] at hl
    obtain ⟨c0, c1, c2, c3, c4, c5, c6, c7, c8, c9, c10, c11, c12, rfl⟩ := len13 hl
    obtain ⟨d0, q0, h0⟩ := hf 0 _ rfl
    replace h0 : DataW.trod enc Try.prog W 0 (fun _ => true) true n 3 (List.take (Try.prog.cellsOf 3) [c0, c1, c2, c3, c4, c5, c6, c7, c8, c9, c10, c11, c12]) = some (d0, q0) := h0
    rw [cl3] at h0
    replace h0 : DataW.trod enc Try.prog W 0 (fun _ => true) true n 3 [c0] = some (d0, q0) := h0
    obtain ⟨x0, r0, w0⟩ := (Opens.int Try.underlying3) enc W n _ _ _ h0
    obtain ⟨rfl, -⟩ := List.cons.inj r0
    obtain ⟨d1, q1, h1⟩ := hf 1 _ rfl
    replace h1 : DataW.trod enc Try.prog W 0 (fun _ => true) true n 34 (List.take (Try.prog.cellsOf 34) [c1, c2, c3, c4, c5, c6, c7, c8, c9, c10, c11, c12]) = some (d1, q1) := h1
    rw [cl34] at h1
    replace h1 : DataW.trod enc Try.prog W 0 (fun _ => true) true n 34 [c1, c2, c3, c4] = some (d1, q1) := h1
    obtain ⟨x1, r1, w1⟩ := opens_api_Op enc W n _ _ _ h1
    obtain ⟨v3, v4, e1, r1_2, r1_3⟩ := r1
    simp only [List.cons.injEq, and_true] at e1
    obtain ⟨rfl, rfl, rfl, rfl⟩ := e1
    obtain ⟨d2, q2, h2⟩ := hf 2 _ rfl
    replace h2 : DataW.trod enc Try.prog W 0 (fun _ => true) true n 4 (List.take (Try.prog.cellsOf 4) [c5, c6, c7, c8, c9, c10, c11, c12]) = some (d2, q2) := h2
    rw [cl4] at h2
    replace h2 : DataW.trod enc Try.prog W 0 (fun _ => true) true n 4 [c5] = some (d2, q2) := h2
    obtain ⟨x2, r2, w2⟩ := (Opens.bool Try.underlying4) enc W n _ _ _ h2
    obtain ⟨rfl, -⟩ := List.cons.inj r2
    obtain ⟨d3, q3, h3⟩ := hf 3 _ rfl
    replace h3 : DataW.trod enc Try.prog W 0 (fun _ => true) true n 41 (List.take (Try.prog.cellsOf 41) [c6, c7, c8, c9, c10, c11, c12]) = some (d3, q3) := h3
    rw [cl41] at h3
    replace h3 : DataW.trod enc Try.prog W 0 (fun _ => true) true n 41 [c6, c7, c8, c9, c10] = some (d3, q3) := h3
    obtain ⟨x3, r3, w3⟩ := opens_api_Reply enc W n _ _ _ h3
    have e3 : [c6, c7, c8, c9, c10] = [.int .i64 x3.Err, .int .i64 x3.Out.Trap, .int .u8 x3.Out.Result.Kind, .int .i64 x3.Out.Result.A, .int .i64 x3.Out.Result.B] := r3
    simp only [List.cons.injEq, and_true] at e3
    obtain ⟨rfl, rfl, rfl, rfl, rfl⟩ := e3
    obtain ⟨d4, q4, h4⟩ := hf 4 _ rfl
    replace h4 : DataW.trod enc Try.prog W 0 (fun _ => true) true n 3 (List.take (Try.prog.cellsOf 3) [c11, c12]) = some (d4, q4) := h4
    rw [cl3] at h4
    replace h4 : DataW.trod enc Try.prog W 0 (fun _ => true) true n 3 [c11] = some (d4, q4) := h4
    obtain ⟨x4, r4, w4⟩ := (Opens.int Try.underlying3) enc W n _ _ _ h4
    obtain ⟨rfl, -⟩ := List.cons.inj r4
    obtain ⟨d5, q5, h5⟩ := hf 5 _ rfl
    replace h5 : DataW.trod enc Try.prog W 0 (fun _ => true) true n 3 (List.take (Try.prog.cellsOf 3) [c12]) = some (d5, q5) := h5
    rw [cl3] at h5
    replace h5 : DataW.trod enc Try.prog W 0 (fun _ => true) true n 3 [c12] = some (d5, q5) := h5
    obtain ⟨x5, r5, w5⟩ := (Opens.int Try.underlying3) enc W n _ _ _ h5
    obtain ⟨rfl, -⟩ := List.cons.inj r5
    exact ⟨⟨x0, x1, x2, x3, x4, x5⟩, ⟨_, _, rfl, r1_2, r1_3⟩, w0, w1, w2, w3, w4, w5⟩
/-- What is left to be shown of the law: of plain values alone. -/
def capstanlaw30_HistoryAhead.Pure : Prop := ∀ (x0 : (List history_Call)) (x1 : Int) (x2 : Int) (x3 : Int) (x4 : Int), (x0.length ≤ maxLen ∧ ∀ y ∈ x0, wf_history_Call y) → (Lit.int .i64 x1).wf = true → (Lit.int .i64 x2).wf = true → (Lit.int .i64 x3).wf = true → (Lit.int .i64 x4).wf = true → capstanlaw30_HistoryAhead.f x0 x1 x2 x3 x4 = some true
end Go.Proofs.Ytbejlahmhloloaa
end
