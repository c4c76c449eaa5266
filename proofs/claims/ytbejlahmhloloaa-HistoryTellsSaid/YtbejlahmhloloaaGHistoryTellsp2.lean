/- Functions of the program as plain functions, with the proof that the code computes them: printed by gen.py of this session. -/
import Derived.Test.YtbejlahmhloloaaProg
import Derived.Test.YtbejlahmhloloaaQ17v184bc0
import Derived.Test.YtbejlahmhloloaaGHistoryTellsp1
set_option linter.unusedVariables false
set_option linter.unusedSimpArgs false
set_option maxRecDepth 20000
noncomputable section
namespace Go.Proofs.Ytbejlahmhloloaa
open Go.Q
/-! ### capstan/capstanref30.May: function 26 -/
inductive capstanref30_May.S where
  | start
  | l1 (x82 : Int)
  | l2 (x82 : Int) (x86 : history_Call) (x136 : Int)

def capstanref30_May.F (l_0 : (List history_Call)) : capstanref30_May.S → Option (capstanref30_May.S ⊕ Bool)
  | .start => if (l_0.length : Int) > 4096 then (some (.inr false)) else (some (.inl (.l1 0)))
  | .l1 x82 => if x82 < (l_0.length : Int) then ((elt l_0 x82).bind fun x86 => (if ((decide (x86.Proc < 0)) || (decide (x86.Proc > 63))) = true then (some true) else ((capstanref20_May.f x86.Op).bind fun t97 => some (!t97))).bind fun t98 => if ((t98 || (x86.Read && (decide (x86.Op.Kind ≠ 1)))) || (decide (x86.Start < 1))) = true then (some (.inr false)) else (if (((decide (x86.End = 0)) && (!(x86.Reply.Err == 0 && ((x86.Reply.Out.Trap == 0 && ((x86.Reply.Out.Result.Kind == 0 && (x86.Reply.Out.Result.A == 0 && (x86.Reply.Out.Result.B == 0))))))))) || ((decide (x86.End ≠ 0)) && (decide (x86.End ≤ x86.Start)))) = true then (some (.inr false)) else (some (.inl (.l2 x82 x86 0))))) else (some (.inr true))
  | .l2 x82 x86 x136 => if x136 < x82 then ((elt l_0 x136).bind fun x140 => (if x140.Start ≥ x86.Start then (some true) else ((if x140.Proc = x86.Proc then ((capstanref30_Ahead.f x140 x86).bind fun t151 => some (!t151)) else (some false)).bind fun t152 => some t152)).bind fun t153 => if t153 = true then (some (.inr false)) else (if (((decide (x140.End ≠ 0)) && ((decide (x140.End = x86.End)) || (decide (x140.End = x86.Start)))) || ((decide (x86.End ≠ 0)) && (decide (x86.End = x140.Start)))) = true then (some (.inr false)) else (some (.inl (.l2 x82 x86 (IntKind.i64.wrap (x136 + 1))))))) else (some (.inl (.l1 (IntKind.i64.wrap (x82 + 1)))))

def capstanref30_May.f (l_0 : (List history_Call)) : Option Bool := runF (capstanref30_May.F l_0) .start
theorem capstanref30_May.ok (l_0 : (List history_Call)) (v_l_0 : Value) (r : Bool) (H : capstanref30_May.f l_0 = some r) (w : World) (hV : Hp) (sV : Sub hV (hp w)) (h0 : slR k_history_Call hV v_l_0 l_0) :
    Trip Try.prog 26 [v_l_0].toArray em hV w (fun v => HO.pure (v = .bool r)) := by
  have see : Sees w em hV := ⟨sV, Dj.em_right _⟩
  refine Trip.of (P := Try.prog) (n := ⟨126, []⟩) Try.func26 rfl ⟨rfl, rfl⟩ rfl (St.begin (All.cons (x := slP k_history_Call v_l_0 l_0) h0 (All.nil _))) ?_
  obtain ⟨n0, hi⟩ := runF_iff.1 H
  obtain ⟨m0, o, hm0, ho, hr⟩ := iter_some hi
  clear hi
  refine CP.seq ?_
  refine CP.region ?_
  refine SP.val (Val.assign rfl) rfl rfl rfl ?_
  refine SP.nil ?_
  refine QE.then ?_
  refine CP.seq ?_
  refine CP.seq ?_
  refine CP.region ?_
  refine SP.val (Val.move rfl) rfl rfl rfl ?_
  refine SP.val (Val.lenP see 0 rfl Try.underlying44 rfl) rfl rfl rfl ?_
  refine SP.val (Val.gtr rfl rfl) rfl rfl rfl ?_
  refine SP.nil ?_
  refine QE.then ?_
  rcases if_some ho with ⟨hc, ho⟩ | ⟨hc, ho⟩
  · refine CP.condT rfl (decide_eq_true hc) ?_
    refine CP.seq ?_
    refine CP.region ?_
    refine SP.val (Val.assign rfl) rfl rfl rfl ?_
    refine SP.nil ?_
    refine QE.then ?_
    refine CP.ret ?_
    refine QE.thru (by intro e; cases e) ?_
    obtain rfl := Option.some.inj ho
    obtain rfl := Option.some.inj hr
    exact QE.rets (rs := [.tmp 2]) (vs := [.bool false]) Try.results26 rfl ⟨RVs.tmp rfl, trivial⟩ (fun w2 h => St.done (fun a b p s => rfl) h)
  · refine CP.condF rfl (decide_eq_false hc) ?_
    refine CP.skip ?_
    refine QE.then ?_
    refine CP.seq ?_
    refine CP.seq ?_
    refine CP.region ?_
    refine SP.val (Val.assign rfl) rfl rfl rfl ?_
    refine SP.nil ?_
    refine QE.then ?_
    refine CP.block ?_
    obtain rfl := Option.some.inj ho
    refine CP.loop (fun cl1 a w2 => ∃ x82 : Int, cl1 ≤ m0 ∧ iter (capstanref30_May.F l_0) cl1 (.l1 x82) = some r ∧ Env ⟨126, []⟩ [(0, v_l_0), (3, .int .i64 x82)] a ∧ St w em hV [slP k_history_Call v_l_0 l_0] [] w2) m0 (fun a w2 ha hw => ⟨0, Nat.le_refl _, hr, ha.sub ⟨rfl, rfl, trivial⟩, hw⟩) ?_
    clear hr
    rintro cl1 a w2 ⟨x82, hc_l1, hi, ha, hw⟩
    obtain ⟨m83, o, hm_m83, ho, hr⟩ := iter_some hi
    refine CP.app ha hw ?_
    clear ha hw a w2 hi
    refine CP.seq ?_
    refine CP.seq ?_
    refine CP.region ?_
    refine SP.val (Val.move rfl) rfl rfl rfl ?_
    refine SP.val (Val.move rfl) rfl rfl rfl ?_
    refine SP.val (Val.lenP see 0 rfl Try.underlying44 rfl) rfl rfl rfl ?_
    refine SP.val (Val.lss rfl rfl) rfl rfl rfl ?_
    refine SP.nil ?_
    refine QE.then ?_
    rcases if_some ho with ⟨hc, ho⟩ | ⟨hc, ho⟩
    · refine CP.condT rfl (decide_eq_true hc) ?_
      refine CP.skip ?_
      refine QE.then ?_
      refine CP.seq ?_
      refine CP.block ?_
      refine CP.seq ?_
      refine CP.region ?_
      refine SP.val (Val.move rfl) rfl rfl rfl ?_
      refine SP.val (Val.move rfl) rfl rfl rfl ?_
      obtain ⟨x86, hx, ho⟩ := bind_some ho
      have hx := elt_some hx
      refine SP.indexP see 0 rfl Try.underlying44 sz48 hx.1 hx.2 rfl rfl rfl rfl (fun p84 => ?_)
      clear hx
      refine k_history_Call.load see 0 rfl Try.underlying48 rfl sz48 rfl rfl rfl (fun v87 v89 => ?_)
      refine SP.alloc (cs := [.int .i64 0, .int .u8 0, .int .i64 0, (.slice none 0 0), (.slice none 0 0), .bool false, .int .i64 0, .int .i64 0, .int .u8 0, .int .i64 0, .int .i64 0, .int .i64 0, .int .i64 0]) inf48 rfl rfl (fun b91 => ?_)
      refine SP.have (fun w2 hw => slR.shape (St.pers 0 rfl see.sub see.dj hw)) (fun hs_v87 => ?_)
      refine SP.have (fun w2 hw => slR.shape (St.pers 1 rfl see.sub see.dj hw)) (fun hs_v89 => ?_)
      refine SP.store (v := .agg #[.int .i64 x86.Proc, .int .u8 x86.Op.Kind, .int .i64 x86.Op.Method, v87, v89, .bool x86.Read, .int .i64 x86.Reply.Err, .int .i64 x86.Reply.Out.Trap, .int .u8 x86.Reply.Out.Result.Kind, .int .i64 x86.Reply.Out.Result.A, .int .i64 x86.Reply.Out.Result.B, .int .i64 x86.Start, .int .i64 x86.End]) (vs := [.int .i64 x86.Proc, .int .u8 x86.Op.Kind, .int .i64 x86.Op.Method, v87, v89, .bool x86.Read, .int .i64 x86.Reply.Err, .int .i64 x86.Reply.Out.Trap, .int .u8 x86.Reply.Out.Result.Kind, .int .i64 x86.Reply.Out.Result.A, .int .i64 x86.Reply.Out.Result.B, .int .i64 x86.Start, .int .i64 x86.End]) 0 (by rfl) sz48 (by rfl) (by rfl) (by rfl) (by rfl) (one_cons rfl (one_cons rfl (one_cons rfl (one_cons hs_v87 (one_cons hs_v89 (one_cons rfl (one_cons rfl (one_cons rfl (one_cons rfl (one_cons rfl (one_cons rfl (one_cons rfl (one_cons rfl (rfl)))))))))))))) (by rfl) ?_
      refine SP.nil ?_
      refine QE.then ?_
      refine CP.seq ?_
      refine CP.seq ?_
      refine CP.region ?_
      refine SP.val (Val.fieldAddr Try.underlying48 rfl sz3 rfl) rfl rfl rfl ?_
      refine SP.val (Val.load1 0 rfl Try.underlying3 rfl rfl rfl) rfl rfl rfl ?_
      refine SP.val (Val.lss rfl rfl) rfl rfl rfl ?_
      refine SP.val (Val.move rfl) rfl rfl rfl ?_
      refine SP.join 4 (fun a w2 => Env ⟨126, []⟩ [(0, v_l_0), (3, .int .i64 x82), (4, .pointer (some ⟨b91, 0, none⟩)), (27, .bool ((decide (x86.Proc < 0)) || (decide (x86.Proc > 63))))] a ∧ St w em hV [slP k_api_Value v87 x86.Op.Args, slP (kInt .u8) v89 x86.Op.Bytes, elP k_history_Call p84 x86, slP k_history_Call v_l_0 l_0] [boxO b91 [.int .i64 x86.Proc, .int .u8 x86.Op.Kind, .int .i64 x86.Op.Method, v87, v89, .bool x86.Read, .int .i64 x86.Reply.Err, .int .i64 x86.Reply.Out.Trap, .int .u8 x86.Reply.Out.Result.Kind, .int .i64 x86.Reply.Out.Result.A, .int .i64 x86.Reply.Out.Result.B, .int .i64 x86.Start, .int .i64 x86.End] 48] w2) ?_ ?_
      · rintro a w2 ⟨ha, hw⟩
        refine SP.app ha hw ?_
        clear ha hw a w2
        refine SP.val (Val.move rfl) rfl rfl rfl ?_
        obtain ⟨t98, hg_t98, ho⟩ := bind_some ho
        refine SP.join 5 (fun a w2 => Env ⟨126, []⟩ [(0, v_l_0), (3, .int .i64 x82), (4, .pointer (some ⟨b91, 0, none⟩)), (33, .bool t98)] a ∧ St w em hV [slP k_api_Value v87 x86.Op.Args, slP (kInt .u8) v89 x86.Op.Bytes, elP k_history_Call p84 x86, slP k_history_Call v_l_0 l_0] [boxO b91 [.int .i64 x86.Proc, .int .u8 x86.Op.Kind, .int .i64 x86.Op.Method, v87, v89, .bool x86.Read, .int .i64 x86.Reply.Err, .int .i64 x86.Reply.Out.Trap, .int .u8 x86.Reply.Out.Result.Kind, .int .i64 x86.Reply.Out.Result.A, .int .i64 x86.Reply.Out.Result.B, .int .i64 x86.Start, .int .i64 x86.End] 48] w2) ?_ ?_
        · rintro a w2 ⟨ha, hw⟩
          refine SP.app ha hw ?_
          clear ha hw a w2 hg_t98
          refine SP.val (Val.move rfl) rfl rfl rfl ?_
          refine SP.join 9 (fun a w2 => Env ⟨126, []⟩ [(0, v_l_0), (3, .int .i64 x82), (4, .pointer (some ⟨b91, 0, none⟩)), (43, .bool (t98 || (x86.Read && (decide (x86.Op.Kind ≠ 1)))))] a ∧ St w em hV [slP k_api_Value v87 x86.Op.Args, slP (kInt .u8) v89 x86.Op.Bytes, elP k_history_Call p84 x86, slP k_history_Call v_l_0 l_0] [boxO b91 [.int .i64 x86.Proc, .int .u8 x86.Op.Kind, .int .i64 x86.Op.Method, v87, v89, .bool x86.Read, .int .i64 x86.Reply.Err, .int .i64 x86.Reply.Out.Trap, .int .u8 x86.Reply.Out.Result.Kind, .int .i64 x86.Reply.Out.Result.A, .int .i64 x86.Reply.Out.Result.B, .int .i64 x86.Start, .int .i64 x86.End] 48] w2) ?_ ?_
          · rintro a w2 ⟨ha, hw⟩
            refine SP.app ha hw ?_
            clear ha hw a w2
            refine SP.val (Val.move rfl) rfl rfl rfl ?_
            refine SP.join 4 (fun a w2 => Env ⟨126, []⟩ [(0, v_l_0), (3, .int .i64 x82), (4, .pointer (some ⟨b91, 0, none⟩)), (48, .bool ((t98 || (x86.Read && (decide (x86.Op.Kind ≠ 1)))) || (decide (x86.Start < 1))))] a ∧ St w em hV [slP k_api_Value v87 x86.Op.Args, slP (kInt .u8) v89 x86.Op.Bytes, elP k_history_Call p84 x86, slP k_history_Call v_l_0 l_0] [boxO b91 [.int .i64 x86.Proc, .int .u8 x86.Op.Kind, .int .i64 x86.Op.Method, v87, v89, .bool x86.Read, .int .i64 x86.Reply.Err, .int .i64 x86.Reply.Out.Trap, .int .u8 x86.Reply.Out.Result.Kind, .int .i64 x86.Reply.Out.Result.A, .int .i64 x86.Reply.Out.Result.B, .int .i64 x86.Start, .int .i64 x86.End] 48] w2) ?_ ?_
            · rintro a w2 ⟨ha, hw⟩
              refine SP.app ha hw ?_
              clear ha hw a w2
              refine SP.nil ?_
              refine QE.then ?_
              rcases if_some ho with ⟨hc, ho⟩ | ⟨hc, ho⟩
              · refine CP.condT rfl hc ?_
                refine CP.seq ?_
                refine CP.region ?_
                refine SP.val (Val.assign rfl) rfl rfl rfl ?_
                refine SP.nil ?_
                refine QE.then ?_
                refine CP.ret ?_
                refine QE.thru (by intro e; cases e) ?_
                refine QE.blockR ?_
                refine QE.thru (by intro e; cases e) ?_
                refine QE.thru (by intro e; cases e) ?_
                refine QE.blockR ?_
                refine QE.thru (by intro e; cases e) ?_
                obtain rfl := Option.some.inj ho
                obtain rfl := Option.some.inj hr
                exact QE.rets (rs := [.tmp 2]) (vs := [.bool false]) Try.results26 rfl ⟨RVs.tmp rfl, trivial⟩ (fun w2 h => St.done (fun a b p s => rfl) h)
              · refine CP.condF rfl (bf hc) ?_
                refine CP.skip ?_
                refine QE.then ?_
                refine CP.seq ?_
                refine CP.seq ?_
                refine CP.region ?_
                refine SP.val (Val.fieldAddr Try.underlying48 rfl sz3 rfl) rfl rfl rfl ?_
                refine SP.val (Val.load1 0 rfl Try.underlying3 rfl rfl rfl) rfl rfl rfl ?_
                refine SP.val (Val.eql rfl rfl) rfl rfl rfl ?_
                refine SP.val (Val.move rfl) rfl rfl rfl ?_
                refine SP.join 5 (fun a w2 => Env ⟨126, []⟩ [(0, v_l_0), (3, .int .i64 x82), (4, .pointer (some ⟨b91, 0, none⟩)), (57, .bool ((decide (x86.End = 0)) && (!(x86.Reply.Err == 0 && ((x86.Reply.Out.Trap == 0 && ((x86.Reply.Out.Result.Kind == 0 && (x86.Reply.Out.Result.A == 0 && (x86.Reply.Out.Result.B == 0))))))))))] a ∧ St w em hV [slP k_api_Value v87 x86.Op.Args, slP (kInt .u8) v89 x86.Op.Bytes, elP k_history_Call p84 x86, slP k_history_Call v_l_0 l_0] [boxO b91 [.int .i64 x86.Proc, .int .u8 x86.Op.Kind, .int .i64 x86.Op.Method, v87, v89, .bool x86.Read, .int .i64 x86.Reply.Err, .int .i64 x86.Reply.Out.Trap, .int .u8 x86.Reply.Out.Result.Kind, .int .i64 x86.Reply.Out.Result.A, .int .i64 x86.Reply.Out.Result.B, .int .i64 x86.Start, .int .i64 x86.End] 48] w2) ?_ ?_
                · rintro a w2 ⟨ha, hw⟩
                  refine SP.app ha hw ?_
                  clear ha hw a w2
                  refine SP.val (Val.move rfl) rfl rfl rfl ?_
                  refine SP.join 11 (fun a w2 => Env ⟨126, []⟩ [(0, v_l_0), (3, .int .i64 x82), (4, .pointer (some ⟨b91, 0, none⟩)), (69, .bool (((decide (x86.End = 0)) && (!(x86.Reply.Err == 0 && ((x86.Reply.Out.Trap == 0 && ((x86.Reply.Out.Result.Kind == 0 && (x86.Reply.Out.Result.A == 0 && (x86.Reply.Out.Result.B == 0))))))))) || ((decide (x86.End ≠ 0)) && (decide (x86.End ≤ x86.Start)))))] a ∧ St w em hV [slP k_api_Value v87 x86.Op.Args, slP (kInt .u8) v89 x86.Op.Bytes, elP k_history_Call p84 x86, slP k_history_Call v_l_0 l_0] [boxO b91 [.int .i64 x86.Proc, .int .u8 x86.Op.Kind, .int .i64 x86.Op.Method, v87, v89, .bool x86.Read, .int .i64 x86.Reply.Err, .int .i64 x86.Reply.Out.Trap, .int .u8 x86.Reply.Out.Result.Kind, .int .i64 x86.Reply.Out.Result.A, .int .i64 x86.Reply.Out.Result.B, .int .i64 x86.Start, .int .i64 x86.End] 48] w2) ?_ ?_
                  · rintro a w2 ⟨ha, hw⟩
                    refine SP.app ha hw ?_
                    clear ha hw a w2
                    refine SP.nil ?_
                    refine QE.then ?_
                    rcases if_some ho with ⟨hc, ho⟩ | ⟨hc, ho⟩
                    · refine CP.condT rfl hc ?_
                      refine CP.seq ?_
                      refine CP.region ?_
                      refine SP.val (Val.assign rfl) rfl rfl rfl ?_
                      refine SP.nil ?_
                      refine QE.then ?_
                      refine CP.ret ?_
                      refine QE.thru (by intro e; cases e) ?_
                      refine QE.blockR ?_
                      refine QE.thru (by intro e; cases e) ?_
                      refine QE.thru (by intro e; cases e) ?_
                      refine QE.blockR ?_
                      refine QE.thru (by intro e; cases e) ?_
                      obtain rfl := Option.some.inj ho
                      obtain rfl := Option.some.inj hr
                      exact QE.rets (rs := [.tmp 2]) (vs := [.bool false]) Try.results26 rfl ⟨RVs.tmp rfl, trivial⟩ (fun w2 h => St.done (fun a b p s => rfl) h)
                    · refine CP.condF rfl (bf hc) ?_
                      refine CP.skip ?_
                      refine QE.then ?_
                      refine CP.seq ?_
                      refine CP.region ?_
                      refine SP.val (Val.assign rfl) rfl rfl rfl ?_
                      refine SP.nil ?_
                      refine QE.then ?_
                      refine CP.block ?_
                      obtain rfl := Option.some.inj ho
                      refine CP.loop (fun cl2 a w2 => ∃ x136 : Int, cl2 ≤ m83 ∧ iter (capstanref30_May.F l_0) cl2 (.l2 x82 x86 x136) = some r ∧ Env ⟨126, []⟩ [(0, v_l_0), (3, .int .i64 x82), (4, .pointer (some ⟨b91, 0, none⟩)), (5, .int .i64 x136)] a ∧ St w em hV [slP k_api_Value v87 x86.Op.Args, slP (kInt .u8) v89 x86.Op.Bytes, slP k_history_Call v_l_0 l_0] [boxO b91 [.int .i64 x86.Proc, .int .u8 x86.Op.Kind, .int .i64 x86.Op.Method, v87, v89, .bool x86.Read, .int .i64 x86.Reply.Err, .int .i64 x86.Reply.Out.Trap, .int .u8 x86.Reply.Out.Result.Kind, .int .i64 x86.Reply.Out.Result.A, .int .i64 x86.Reply.Out.Result.B, .int .i64 x86.Start, .int .i64 x86.End] 48] w2) m83 (fun a w2 ha hw => ⟨0, Nat.le_refl _, hr, ha.sub ⟨rfl, rfl, rfl, rfl, trivial⟩, (St.selP [0, 1, 3] rfl hw)⟩) ?_
                      clear hr
                      rintro cl2 a w2 ⟨x136, hc_l2, hi, ha, hw⟩
                      obtain ⟨m137, o, hm_m137, ho, hr⟩ := iter_some hi
                      refine CP.app ha hw ?_
                      clear ha hw a w2 hi
                      refine CP.seq ?_
                      refine CP.seq ?_
                      refine CP.region ?_
                      refine SP.val (Val.move rfl) rfl rfl rfl ?_
                      refine SP.val (Val.move rfl) rfl rfl rfl ?_
                      refine SP.val (Val.lss rfl rfl) rfl rfl rfl ?_
                      refine SP.nil ?_
                      refine QE.then ?_
                      rcases if_some ho with ⟨hc, ho⟩ | ⟨hc, ho⟩
                      · refine CP.condT rfl (decide_eq_true hc) ?_
                        refine CP.skip ?_
                        refine QE.then ?_
                        refine CP.seq ?_
                        refine CP.block ?_
                        refine CP.seq ?_
                        refine CP.region ?_
                        refine SP.val (Val.move rfl) rfl rfl rfl ?_
                        refine SP.val (Val.move rfl) rfl rfl rfl ?_
                        obtain ⟨x140, hx, ho⟩ := bind_some ho
                        have hx := elt_some hx
                        refine SP.indexP see 2 rfl Try.underlying44 sz48 hx.1 hx.2 rfl rfl rfl rfl (fun p138 => ?_)
                        clear hx
                        refine k_history_Call.load see 0 rfl Try.underlying48 rfl sz48 rfl rfl rfl (fun v141 v143 => ?_)
                        refine SP.alloc (cs := [.int .i64 0, .int .u8 0, .int .i64 0, (.slice none 0 0), (.slice none 0 0), .bool false, .int .i64 0, .int .i64 0, .int .u8 0, .int .i64 0, .int .i64 0, .int .i64 0, .int .i64 0]) inf48 rfl rfl (fun b145 => ?_)
                        refine SP.have (fun w2 hw => slR.shape (St.pers 0 rfl see.sub see.dj hw)) (fun hs_v141 => ?_)
                        refine SP.have (fun w2 hw => slR.shape (St.pers 1 rfl see.sub see.dj hw)) (fun hs_v143 => ?_)
                        refine SP.store (v := .agg #[.int .i64 x140.Proc, .int .u8 x140.Op.Kind, .int .i64 x140.Op.Method, v141, v143, .bool x140.Read, .int .i64 x140.Reply.Err, .int .i64 x140.Reply.Out.Trap, .int .u8 x140.Reply.Out.Result.Kind, .int .i64 x140.Reply.Out.Result.A, .int .i64 x140.Reply.Out.Result.B, .int .i64 x140.Start, .int .i64 x140.End]) (vs := [.int .i64 x140.Proc, .int .u8 x140.Op.Kind, .int .i64 x140.Op.Method, v141, v143, .bool x140.Read, .int .i64 x140.Reply.Err, .int .i64 x140.Reply.Out.Trap, .int .u8 x140.Reply.Out.Result.Kind, .int .i64 x140.Reply.Out.Result.A, .int .i64 x140.Reply.Out.Result.B, .int .i64 x140.Start, .int .i64 x140.End]) 0 (by rfl) sz48 (by rfl) (by rfl) (by rfl) (by rfl) (one_cons rfl (one_cons rfl (one_cons rfl (one_cons hs_v141 (one_cons hs_v143 (one_cons rfl (one_cons rfl (one_cons rfl (one_cons rfl (one_cons rfl (one_cons rfl (one_cons rfl (one_cons rfl (rfl)))))))))))))) (by rfl) ?_
                        refine SP.nil ?_
                        refine QE.then ?_
                        refine CP.seq ?_
                        refine CP.seq ?_
                        refine CP.region ?_
                        refine SP.val (Val.fieldAddr Try.underlying48 rfl sz3 rfl) rfl rfl rfl ?_
                        refine SP.val (Val.load1 0 rfl Try.underlying3 rfl rfl rfl) rfl rfl rfl ?_
                        refine SP.val (Val.fieldAddr Try.underlying48 rfl sz3 rfl) rfl rfl rfl ?_
                        refine SP.val (Val.load1 1 rfl Try.underlying3 rfl rfl rfl) rfl rfl rfl ?_
                        refine SP.val (Val.geq rfl rfl) rfl rfl rfl ?_
                        refine SP.val (Val.move rfl) rfl rfl rfl ?_
                        obtain ⟨t153, hg_t153, ho⟩ := bind_some ho
                        refine SP.join 12 (fun a w2 => Env ⟨126, []⟩ [(0, v_l_0), (3, .int .i64 x82), (4, .pointer (some ⟨b91, 0, none⟩)), (5, .int .i64 x136), (6, .pointer (some ⟨b145, 0, none⟩)), (96, .bool t153)] a ∧ St w em hV [slP k_api_Value v141 x140.Op.Args, slP (kInt .u8) v143 x140.Op.Bytes, elP k_history_Call p138 x140, slP k_api_Value v87 x86.Op.Args, slP (kInt .u8) v89 x86.Op.Bytes, slP k_history_Call v_l_0 l_0] [boxO b145 [.int .i64 x140.Proc, .int .u8 x140.Op.Kind, .int .i64 x140.Op.Method, v141, v143, .bool x140.Read, .int .i64 x140.Reply.Err, .int .i64 x140.Reply.Out.Trap, .int .u8 x140.Reply.Out.Result.Kind, .int .i64 x140.Reply.Out.Result.A, .int .i64 x140.Reply.Out.Result.B, .int .i64 x140.Start, .int .i64 x140.End] 48, boxO b91 [.int .i64 x86.Proc, .int .u8 x86.Op.Kind, .int .i64 x86.Op.Method, v87, v89, .bool x86.Read, .int .i64 x86.Reply.Err, .int .i64 x86.Reply.Out.Trap, .int .u8 x86.Reply.Out.Result.Kind, .int .i64 x86.Reply.Out.Result.A, .int .i64 x86.Reply.Out.Result.B, .int .i64 x86.Start, .int .i64 x86.End] 48] w2) ?_ ?_
                        · rintro a w2 ⟨ha, hw⟩
                          refine SP.app ha hw ?_
                          clear ha hw a w2 hg_t153
                          refine SP.nil ?_
                          refine QE.then ?_
                          rcases if_some ho with ⟨hc, ho⟩ | ⟨hc, ho⟩
                          · refine CP.condT rfl hc ?_
                            refine CP.seq ?_
                            refine CP.region ?_
                            refine SP.val (Val.assign rfl) rfl rfl rfl ?_
                            refine SP.nil ?_
                            refine QE.then ?_
                            refine CP.ret ?_
                            refine QE.thru (by intro e; cases e) ?_
                            refine QE.blockR ?_
                            refine QE.thru (by intro e; cases e) ?_
                            refine QE.thru (by intro e; cases e) ?_
                            refine QE.blockR ?_
                            refine QE.blockR ?_
                            refine QE.thru (by intro e; cases e) ?_
                            refine QE.thru (by intro e; cases e) ?_
                            refine QE.blockR ?_
                            refine QE.thru (by intro e; cases e) ?_
                            obtain rfl := Option.some.inj ho
                            obtain rfl := Option.some.inj hr
                            exact QE.rets (rs := [.tmp 2]) (vs := [.bool false]) Try.results26 rfl ⟨RVs.tmp rfl, trivial⟩ (fun w2 h => St.done (fun a b p s => rfl) h)
                          · refine CP.condF rfl (bf hc) ?_
                            refine CP.skip ?_
                            refine QE.then ?_
                            refine CP.seq ?_
                            refine CP.region ?_
                            refine SP.val (Val.fieldAddr Try.underlying48 rfl sz3 rfl) rfl rfl rfl ?_
                            refine SP.val (Val.load1 0 rfl Try.underlying3 rfl rfl rfl) rfl rfl rfl ?_
                            refine SP.val (Val.neq rfl rfl) rfl rfl rfl ?_
                            refine SP.val (Val.move rfl) rfl rfl rfl ?_
                            refine SP.join 13 (fun a w2 => Env ⟨126, []⟩ [(0, v_l_0), (3, .int .i64 x82), (4, .pointer (some ⟨b91, 0, none⟩)), (5, .int .i64 x136), (6, .pointer (some ⟨b145, 0, none⟩)), (113, .bool ((decide (x140.End ≠ 0)) && ((decide (x140.End = x86.End)) || (decide (x140.End = x86.Start)))))] a ∧ St w em hV [slP k_api_Value v141 x140.Op.Args, slP (kInt .u8) v143 x140.Op.Bytes, elP k_history_Call p138 x140, slP k_api_Value v87 x86.Op.Args, slP (kInt .u8) v89 x86.Op.Bytes, slP k_history_Call v_l_0 l_0] [boxO b145 [.int .i64 x140.Proc, .int .u8 x140.Op.Kind, .int .i64 x140.Op.Method, v141, v143, .bool x140.Read, .int .i64 x140.Reply.Err, .int .i64 x140.Reply.Out.Trap, .int .u8 x140.Reply.Out.Result.Kind, .int .i64 x140.Reply.Out.Result.A, .int .i64 x140.Reply.Out.Result.B, .int .i64 x140.Start, .int .i64 x140.End] 48, boxO b91 [.int .i64 x86.Proc, .int .u8 x86.Op.Kind, .int .i64 x86.Op.Method, v87, v89, .bool x86.Read, .int .i64 x86.Reply.Err, .int .i64 x86.Reply.Out.Trap, .int .u8 x86.Reply.Out.Result.Kind, .int .i64 x86.Reply.Out.Result.A, .int .i64 x86.Reply.Out.Result.B, .int .i64 x86.Start, .int .i64 x86.End] 48] w2) ?_ ?_
                            · rintro a w2 ⟨ha, hw⟩
                              refine SP.app ha hw ?_
                              clear ha hw a w2
                              refine SP.val (Val.move rfl) rfl rfl rfl ?_
                              refine SP.join 11 (fun a w2 => Env ⟨126, []⟩ [(0, v_l_0), (3, .int .i64 x82), (4, .pointer (some ⟨b91, 0, none⟩)), (5, .int .i64 x136), (125, .bool (((decide (x140.End ≠ 0)) && ((decide (x140.End = x86.End)) || (decide (x140.End = x86.Start)))) || ((decide (x86.End ≠ 0)) && (decide (x86.End = x140.Start)))))] a ∧ St w em hV [slP k_api_Value v141 x140.Op.Args, slP (kInt .u8) v143 x140.Op.Bytes, elP k_history_Call p138 x140, slP k_api_Value v87 x86.Op.Args, slP (kInt .u8) v89 x86.Op.Bytes, slP k_history_Call v_l_0 l_0] [boxO b145 [.int .i64 x140.Proc, .int .u8 x140.Op.Kind, .int .i64 x140.Op.Method, v141, v143, .bool x140.Read, .int .i64 x140.Reply.Err, .int .i64 x140.Reply.Out.Trap, .int .u8 x140.Reply.Out.Result.Kind, .int .i64 x140.Reply.Out.Result.A, .int .i64 x140.Reply.Out.Result.B, .int .i64 x140.Start, .int .i64 x140.End] 48, boxO b91 [.int .i64 x86.Proc, .int .u8 x86.Op.Kind, .int .i64 x86.Op.Method, v87, v89, .bool x86.Read, .int .i64 x86.Reply.Err, .int .i64 x86.Reply.Out.Trap, .int .u8 x86.Reply.Out.Result.Kind, .int .i64 x86.Reply.Out.Result.A, .int .i64 x86.Reply.Out.Result.B, .int .i64 x86.Start, .int .i64 x86.End] 48] w2) ?_ ?_
                              · rintro a w2 ⟨ha, hw⟩
                                refine SP.app ha hw ?_
                                clear ha hw a w2
                                refine SP.nil ?_
                                refine QE.then ?_
                                rcases if_some ho with ⟨hc, ho⟩ | ⟨hc, ho⟩
                                · refine CP.condT rfl hc ?_
                                  refine CP.seq ?_
                                  refine CP.region ?_
                                  refine SP.val (Val.assign rfl) rfl rfl rfl ?_
                                  refine SP.nil ?_
                                  refine QE.then ?_
                                  refine CP.ret ?_
                                  refine QE.blockR ?_
                                  refine QE.thru (by intro e; cases e) ?_
                                  refine QE.thru (by intro e; cases e) ?_
                                  refine QE.blockR ?_
                                  refine QE.blockR ?_
                                  refine QE.thru (by intro e; cases e) ?_
                                  refine QE.thru (by intro e; cases e) ?_
                                  refine QE.blockR ?_
                                  refine QE.thru (by intro e; cases e) ?_
                                  obtain rfl := Option.some.inj ho
                                  obtain rfl := Option.some.inj hr
                                  exact QE.rets (rs := [.tmp 2]) (vs := [.bool false]) Try.results26 rfl ⟨RVs.tmp rfl, trivial⟩ (fun w2 h => St.done (fun a b p s => rfl) h)
                                · refine CP.condF rfl (bf hc) ?_
                                  refine CP.skip ?_
                                  refine QE.blockN ?_
                                  refine QE.then ?_
                                  refine CP.region ?_
                                  refine SP.val (Val.move rfl) rfl rfl rfl ?_
                                  refine SP.val (Val.add rfl rfl) rfl rfl rfl ?_
                                  refine SP.val (Val.assign rfl) rfl rfl rfl ?_
                                  refine SP.nil ?_
                                  obtain rfl := Option.some.inj ho
                                  exact QE.lower m137 (by omega) fun a w2 ha hw => ⟨(IntKind.i64.wrap (x136 + 1)), (by omega), hr, ha.sub ⟨rfl, rfl, rfl, rfl, trivial⟩, (St.selP [3, 4, 5] rfl (St.selO [1] rfl rfl hw))⟩
                              · intro J
                                by_cases hc : ((decide (x140.End ≠ 0)) && ((decide (x140.End = x86.End)) || (decide (x140.End = x86.Start)))) = true
                                · have hq159 := hc
                                  refine SP.isT (d := 114) rfl hq159 ?_
                                  refine SP.not rfl rfl rfl ?_
                                  refine SP.not rfl rfl rfl ?_
                                  refine SP.not rfl rfl rfl ?_
                                  refine SP.not rfl rfl rfl ?_
                                  refine SP.not rfl rfl rfl ?_
                                  refine SP.not rfl rfl rfl ?_
                                  refine SP.not rfl rfl rfl ?_
                                  refine SP.not rfl rfl rfl ?_
                                  refine SP.not rfl rfl rfl ?_
                                  refine SP.not rfl rfl rfl ?_
                                  refine SP.val (Val.pickT rfl rfl) rfl rfl rfl ?_
                                  exact J fun a w2 ha hw => ⟨ha.sub ⟨rfl, rfl, rfl, rfl, congrArg (fun z => some (Value.bool z)) (or_t hq159), trivial⟩, hw⟩
                                · have hq159 := (bf hc)
                                  refine SP.isF (d := 114) rfl hq159 ?_
                                  refine SP.val (Val.fieldAddr Try.underlying48 rfl sz3 rfl) rfl rfl rfl ?_
                                  refine SP.val (Val.load1 1 rfl Try.underlying3 rfl rfl rfl) rfl rfl rfl ?_
                                  refine SP.val (Val.neq rfl rfl) rfl rfl rfl ?_
                                  refine SP.val (Val.move rfl) rfl rfl rfl ?_
                                  refine SP.join 6 (fun a w2 => Env ⟨126, []⟩ [(0, v_l_0), (3, .int .i64 x82), (4, .pointer (some ⟨b91, 0, none⟩)), (5, .int .i64 x136), (114, .bool false), (115, .pointer (some ⟨b91, 12, none⟩)), (116, .int .i64 x86.End), (117, .bool (decide (x86.End ≠ 0))), (118, .bool (decide (x86.End ≠ 0))), (124, .bool ((decide (x86.End ≠ 0)) && (decide (x86.End = x140.Start))))] a ∧ St w em hV [slP k_api_Value v141 x140.Op.Args, slP (kInt .u8) v143 x140.Op.Bytes, elP k_history_Call p138 x140, slP k_api_Value v87 x86.Op.Args, slP (kInt .u8) v89 x86.Op.Bytes, slP k_history_Call v_l_0 l_0] [boxO b145 [.int .i64 x140.Proc, .int .u8 x140.Op.Kind, .int .i64 x140.Op.Method, v141, v143, .bool x140.Read, .int .i64 x140.Reply.Err, .int .i64 x140.Reply.Out.Trap, .int .u8 x140.Reply.Out.Result.Kind, .int .i64 x140.Reply.Out.Result.A, .int .i64 x140.Reply.Out.Result.B, .int .i64 x140.Start, .int .i64 x140.End] 48, boxO b91 [.int .i64 x86.Proc, .int .u8 x86.Op.Kind, .int .i64 x86.Op.Method, v87, v89, .bool x86.Read, .int .i64 x86.Reply.Err, .int .i64 x86.Reply.Out.Trap, .int .u8 x86.Reply.Out.Result.Kind, .int .i64 x86.Reply.Out.Result.A, .int .i64 x86.Reply.Out.Result.B, .int .i64 x86.Start, .int .i64 x86.End] 48] w2) ?_ ?_
                                  · rintro a w2 ⟨ha, hw⟩
                                    refine SP.app ha hw ?_
                                    clear ha hw a w2
                                    refine SP.val (Val.pickF rfl rfl) rfl rfl rfl ?_
                                    exact J fun a w2 ha hw => ⟨ha.sub ⟨rfl, rfl, rfl, rfl, congrArg (fun z => some (Value.bool z)) (or_f hq159 rfl), trivial⟩, hw⟩
                                  · intro J
                                    by_cases hc : x86.End ≠ 0
                                    · have hq161 := (decide_eq_true hc)
                                      refine SP.isT (d := 118) rfl hq161 ?_
                                      refine SP.val (Val.fieldAddr Try.underlying48 rfl sz3 rfl) rfl rfl rfl ?_
                                      refine SP.val (Val.load1 1 rfl Try.underlying3 rfl rfl rfl) rfl rfl rfl ?_
                                      refine SP.val (Val.fieldAddr Try.underlying48 rfl sz3 rfl) rfl rfl rfl ?_
                                      refine SP.val (Val.load1 0 rfl Try.underlying3 rfl rfl rfl) rfl rfl rfl ?_
                                      refine SP.val (Val.eql rfl rfl) rfl rfl rfl ?_
                                      refine SP.val (Val.pickT rfl rfl) rfl rfl rfl ?_
                                      exact J fun a w2 ha hw => ⟨ha.sub ⟨rfl, rfl, rfl, rfl, rfl, rfl, rfl, rfl, congrArg (fun z => some (Value.bool z)) hq161.symm, congrArg (fun z => some (Value.bool z)) (and_t hq161 rfl), trivial⟩, hw⟩
                                    · have hq161 := (decide_eq_false hc)
                                      refine SP.isF (d := 118) rfl hq161 ?_
                                      refine SP.not rfl rfl rfl ?_
                                      refine SP.not rfl rfl rfl ?_
                                      refine SP.not rfl rfl rfl ?_
                                      refine SP.not rfl rfl rfl ?_
                                      refine SP.not rfl rfl rfl ?_
                                      refine SP.val (Val.pickF rfl rfl) rfl rfl rfl ?_
                                      exact J fun a w2 ha hw => ⟨ha.sub ⟨rfl, rfl, rfl, rfl, rfl, rfl, rfl, rfl, congrArg (fun z => some (Value.bool z)) hq161.symm, congrArg (fun z => some (Value.bool z)) (and_f hq161), trivial⟩, hw⟩
                            · intro J
                              by_cases hc : x140.End ≠ 0
                              · have hq155 := (decide_eq_true hc)
                                refine SP.isT (d := 100) rfl hq155 ?_
                                refine SP.val (Val.fieldAddr Try.underlying48 rfl sz3 rfl) rfl rfl rfl ?_
                                refine SP.val (Val.load1 0 rfl Try.underlying3 rfl rfl rfl) rfl rfl rfl ?_
                                refine SP.val (Val.fieldAddr Try.underlying48 rfl sz3 rfl) rfl rfl rfl ?_
                                refine SP.val (Val.load1 1 rfl Try.underlying3 rfl rfl rfl) rfl rfl rfl ?_
                                refine SP.val (Val.eql rfl rfl) rfl rfl rfl ?_
                                refine SP.val (Val.move rfl) rfl rfl rfl ?_
                                refine SP.join 6 (fun a w2 => Env ⟨126, []⟩ [(0, v_l_0), (3, .int .i64 x82), (4, .pointer (some ⟨b91, 0, none⟩)), (5, .int .i64 x136), (6, .pointer (some ⟨b145, 0, none⟩)), (100, .bool true), (101, .pointer (some ⟨b145, 12, none⟩)), (102, .int .i64 x140.End), (103, .pointer (some ⟨b91, 12, none⟩)), (104, .int .i64 x86.End), (105, .bool (decide (x140.End = x86.End))), (106, .bool (decide (x140.End = x86.End))), (112, .bool ((decide (x140.End = x86.End)) || (decide (x140.End = x86.Start))))] a ∧ St w em hV [slP k_api_Value v141 x140.Op.Args, slP (kInt .u8) v143 x140.Op.Bytes, elP k_history_Call p138 x140, slP k_api_Value v87 x86.Op.Args, slP (kInt .u8) v89 x86.Op.Bytes, slP k_history_Call v_l_0 l_0] [boxO b145 [.int .i64 x140.Proc, .int .u8 x140.Op.Kind, .int .i64 x140.Op.Method, v141, v143, .bool x140.Read, .int .i64 x140.Reply.Err, .int .i64 x140.Reply.Out.Trap, .int .u8 x140.Reply.Out.Result.Kind, .int .i64 x140.Reply.Out.Result.A, .int .i64 x140.Reply.Out.Result.B, .int .i64 x140.Start, .int .i64 x140.End] 48, boxO b91 [.int .i64 x86.Proc, .int .u8 x86.Op.Kind, .int .i64 x86.Op.Method, v87, v89, .bool x86.Read, .int .i64 x86.Reply.Err, .int .i64 x86.Reply.Out.Trap, .int .u8 x86.Reply.Out.Result.Kind, .int .i64 x86.Reply.Out.Result.A, .int .i64 x86.Reply.Out.Result.B, .int .i64 x86.Start, .int .i64 x86.End] 48] w2) ?_ ?_
                                · rintro a w2 ⟨ha, hw⟩
                                  refine SP.app ha hw ?_
                                  clear ha hw a w2
                                  refine SP.val (Val.pickT rfl rfl) rfl rfl rfl ?_
                                  exact J fun a w2 ha hw => ⟨ha.sub ⟨rfl, rfl, rfl, rfl, rfl, congrArg (fun z => some (Value.bool z)) (and_t hq155 rfl), trivial⟩, hw⟩
                                · intro J
                                  by_cases hc : x140.End = x86.End
                                  · have hq157 := (decide_eq_true hc)
                                    refine SP.isT (d := 106) rfl hq157 ?_
                                    refine SP.not rfl rfl rfl ?_
                                    refine SP.not rfl rfl rfl ?_
                                    refine SP.not rfl rfl rfl ?_
                                    refine SP.not rfl rfl rfl ?_
                                    refine SP.not rfl rfl rfl ?_
                                    refine SP.val (Val.pickT rfl rfl) rfl rfl rfl ?_
                                    exact J fun a w2 ha hw => ⟨ha.sub ⟨rfl, rfl, rfl, rfl, rfl, rfl, rfl, rfl, rfl, rfl, rfl, congrArg (fun z => some (Value.bool z)) hq157.symm, congrArg (fun z => some (Value.bool z)) (or_t hq157), trivial⟩, hw⟩
                                  · have hq157 := (decide_eq_false hc)
                                    refine SP.isF (d := 106) rfl hq157 ?_
                                    refine SP.val (Val.fieldAddr Try.underlying48 rfl sz3 rfl) rfl rfl rfl ?_
                                    refine SP.val (Val.load1 0 rfl Try.underlying3 rfl rfl rfl) rfl rfl rfl ?_
                                    refine SP.val (Val.fieldAddr Try.underlying48 rfl sz3 rfl) rfl rfl rfl ?_
                                    refine SP.val (Val.load1 1 rfl Try.underlying3 rfl rfl rfl) rfl rfl rfl ?_
                                    refine SP.val (Val.eql rfl rfl) rfl rfl rfl ?_
                                    refine SP.val (Val.pickF rfl rfl) rfl rfl rfl ?_
                                    exact J fun a w2 ha hw => ⟨ha.sub ⟨rfl, rfl, rfl, rfl, rfl, rfl, rfl, rfl, rfl, rfl, rfl, congrArg (fun z => some (Value.bool z)) hq157.symm, congrArg (fun z => some (Value.bool z)) (or_f hq157 rfl), trivial⟩, hw⟩
                              · have hq155 := (decide_eq_false hc)
                                refine SP.isF (d := 100) rfl hq155 ?_
                                refine SP.not rfl rfl rfl ?_
                                refine SP.not rfl rfl rfl ?_
                                refine SP.not rfl rfl rfl ?_
                                refine SP.not rfl rfl rfl ?_
                                refine SP.not rfl rfl rfl ?_
                                refine SP.not rfl rfl rfl ?_
                                refine SP.not rfl rfl rfl ?_
                                refine SP.not rfl rfl rfl ?_
                                refine SP.not rfl rfl rfl ?_
                                refine SP.not rfl rfl rfl ?_
                                refine SP.not rfl rfl rfl ?_
                                refine SP.not rfl rfl rfl ?_
                                refine SP.val (Val.pickF rfl rfl) rfl rfl rfl ?_
                                exact J fun a w2 ha hw => ⟨ha.sub ⟨rfl, rfl, rfl, rfl, rfl, congrArg (fun z => some (Value.bool z)) (and_f hq155), trivial⟩, hw⟩
                        · intro J
                          clear ho
                          have ho := hg_t153
                          clear hg_t153
                          rcases if_some ho with ⟨hc, ho⟩ | ⟨hc, ho⟩
                          · have hq148 := (decide_eq_true hc)
                            refine SP.isT (d := 84) rfl hq148 ?_
                            refine SP.not rfl rfl rfl ?_
                            refine SP.not rfl rfl rfl ?_
                            refine SP.not rfl rfl rfl ?_
                            refine SP.not rfl rfl rfl ?_
                            refine SP.not rfl rfl rfl ?_
                            refine SP.not rfl rfl rfl ?_
                            refine SP.not rfl rfl rfl ?_
                            refine SP.not rfl rfl rfl ?_
                            refine SP.not rfl rfl rfl ?_
                            refine SP.not rfl rfl rfl ?_
                            refine SP.not rfl rfl rfl ?_
                            refine SP.val (Val.pickT rfl rfl) rfl rfl rfl ?_
                            obtain rfl := Option.some.inj ho
                            exact J fun a w2 ha hw => ⟨ha.sub ⟨rfl, rfl, rfl, rfl, rfl, rfl, trivial⟩, hw⟩
                          · have hq148 := (decide_eq_false hc)
                            refine SP.isF (d := 84) rfl hq148 ?_
                            refine SP.val (Val.fieldAddr Try.underlying48 rfl sz3 rfl) rfl rfl rfl ?_
                            refine SP.val (Val.load1 0 rfl Try.underlying3 rfl rfl rfl) rfl rfl rfl ?_
                            refine SP.val (Val.fieldAddr Try.underlying48 rfl sz3 rfl) rfl rfl rfl ?_
                            refine SP.val (Val.load1 1 rfl Try.underlying3 rfl rfl rfl) rfl rfl rfl ?_
                            refine SP.val (Val.eql rfl rfl) rfl rfl rfl ?_
                            refine SP.val (Val.move rfl) rfl rfl rfl ?_
                            obtain ⟨t152, hg_t152, ho⟩ := bind_some ho
                            refine SP.join 5 (fun a w2 => Env ⟨126, []⟩ [(0, v_l_0), (3, .int .i64 x82), (4, .pointer (some ⟨b91, 0, none⟩)), (5, .int .i64 x136), (6, .pointer (some ⟨b145, 0, none⟩)), (84, .bool false), (85, .pointer (some ⟨b145, 0, none⟩)), (86, .int .i64 x140.Proc), (87, .pointer (some ⟨b91, 0, none⟩)), (88, .int .i64 x86.Proc), (89, .bool (decide (x140.Proc = x86.Proc))), (90, .bool (decide (x140.Proc = x86.Proc))), (95, .bool t152)] a ∧ St w em hV [slP k_api_Value v141 x140.Op.Args, slP (kInt .u8) v143 x140.Op.Bytes, elP k_history_Call p138 x140, slP k_api_Value v87 x86.Op.Args, slP (kInt .u8) v89 x86.Op.Bytes, slP k_history_Call v_l_0 l_0] [boxO b145 [.int .i64 x140.Proc, .int .u8 x140.Op.Kind, .int .i64 x140.Op.Method, v141, v143, .bool x140.Read, .int .i64 x140.Reply.Err, .int .i64 x140.Reply.Out.Trap, .int .u8 x140.Reply.Out.Result.Kind, .int .i64 x140.Reply.Out.Result.A, .int .i64 x140.Reply.Out.Result.B, .int .i64 x140.Start, .int .i64 x140.End] 48, boxO b91 [.int .i64 x86.Proc, .int .u8 x86.Op.Kind, .int .i64 x86.Op.Method, v87, v89, .bool x86.Read, .int .i64 x86.Reply.Err, .int .i64 x86.Reply.Out.Trap, .int .u8 x86.Reply.Out.Result.Kind, .int .i64 x86.Reply.Out.Result.A, .int .i64 x86.Reply.Out.Result.B, .int .i64 x86.Start, .int .i64 x86.End] 48] w2) ?_ ?_
                            · rintro a w2 ⟨ha, hw⟩
                              refine SP.app ha hw ?_
                              clear ha hw a w2 hg_t152
                              refine SP.val (Val.pickF rfl rfl) rfl rfl rfl ?_
                              obtain rfl := Option.some.inj ho
                              exact J fun a w2 ha hw => ⟨ha.sub ⟨rfl, rfl, rfl, rfl, rfl, rfl, trivial⟩, hw⟩
                            · intro J
                              clear ho
                              have ho := hg_t152
                              clear hg_t152
                              rcases if_some ho with ⟨hc, ho⟩ | ⟨hc, ho⟩
                              · have hq150 := (decide_eq_true hc)
                                refine SP.isT (d := 90) rfl hq150 ?_
                                refine SP.val (Val.loadA 0 rfl Try.underlying48 rfl sz48 rfl rfl rfl) rfl rfl rfl ?_
                                refine SP.val (Val.loadA 1 rfl Try.underlying48 rfl sz48 rfl rfl rfl) rfl rfl rfl ?_
                                obtain ⟨t151, hc, ho⟩ := bind_some ho
                                refine SP.callV see (caps := []) (.bool t151) fn34 rfl rfl rfl rfl (fun w2 hP hs sub ap => capstanref30_Ahead.ok x140 x86 _ _ _ _ _ hc w2 hP sub (ap.get 0 rfl) (ap.get 1 rfl) (ap.get 3 rfl) (ap.get 4 rfl)) ?_
                                clear hc
                                refine SP.val (Val.notB rfl) rfl rfl rfl ?_
                                refine SP.val (Val.pickT rfl rfl) rfl rfl rfl ?_
                                obtain rfl := Option.some.inj ho
                                exact J fun a w2 ha hw => ⟨ha.sub ⟨rfl, rfl, rfl, rfl, rfl, rfl, rfl, rfl, rfl, rfl, rfl, congrArg (fun z => some (Value.bool z)) hq150.symm, rfl, trivial⟩, hw⟩
                              · have hq150 := (decide_eq_false hc)
                                refine SP.isF (d := 90) rfl hq150 ?_
                                refine SP.not rfl rfl rfl ?_
                                refine SP.not rfl rfl rfl ?_
                                refine SP.not rfl rfl rfl ?_
                                refine SP.not rfl rfl rfl ?_
                                refine SP.val (Val.pickF rfl rfl) rfl rfl rfl ?_
                                obtain rfl := Option.some.inj ho
                                exact J fun a w2 ha hw => ⟨ha.sub ⟨rfl, rfl, rfl, rfl, rfl, rfl, rfl, rfl, rfl, rfl, rfl, congrArg (fun z => some (Value.bool z)) hq150.symm, rfl, trivial⟩, hw⟩
                      · refine CP.condF rfl (decide_eq_false hc) ?_
                        refine CP.exit ?_
                        refine QE.thru (by intro e; cases e) ?_
                        refine QE.thru (by intro e; cases e) ?_
                        refine QE.blockE ?_
                        refine QE.blockN ?_
                        refine QE.then ?_
                        refine CP.region ?_
                        refine SP.val (Val.move rfl) rfl rfl rfl ?_
                        refine SP.val (Val.add rfl rfl) rfl rfl rfl ?_
                        refine SP.val (Val.assign rfl) rfl rfl rfl ?_
                        refine SP.nil ?_
                        obtain rfl := Option.some.inj ho
                        exact QE.lower m137 (by omega) fun a w2 ha hw => ⟨(IntKind.i64.wrap (x82 + 1)), (by omega), hr, ha.sub ⟨rfl, rfl, trivial⟩, (St.selP [2] rfl (St.selO [] rfl rfl hw))⟩
                  · intro J
                    by_cases hc : ((decide (x86.End = 0)) && (!(x86.Reply.Err == 0 && ((x86.Reply.Out.Trap == 0 && ((x86.Reply.Out.Result.Kind == 0 && (x86.Reply.Out.Result.A == 0 && (x86.Reply.Out.Result.B == 0))))))))) = true
                    · have hq108 := hc
                      refine SP.isT (d := 58) rfl hq108 ?_
                      refine SP.not rfl rfl rfl ?_
                      refine SP.not rfl rfl rfl ?_
                      refine SP.not rfl rfl rfl ?_
                      refine SP.not rfl rfl rfl ?_
                      refine SP.not rfl rfl rfl ?_
                      refine SP.not rfl rfl rfl ?_
                      refine SP.not rfl rfl rfl ?_
                      refine SP.not rfl rfl rfl ?_
                      refine SP.not rfl rfl rfl ?_
                      refine SP.not rfl rfl rfl ?_
                      refine SP.val (Val.pickT rfl rfl) rfl rfl rfl ?_
                      exact J fun a w2 ha hw => ⟨ha.sub ⟨rfl, rfl, rfl, congrArg (fun z => some (Value.bool z)) (or_t hq108), trivial⟩, hw⟩
                    · have hq108 := (bf hc)
                      refine SP.isF (d := 58) rfl hq108 ?_
                      refine SP.val (Val.fieldAddr Try.underlying48 rfl sz3 rfl) rfl rfl rfl ?_
                      refine SP.val (Val.load1 0 rfl Try.underlying3 rfl rfl rfl) rfl rfl rfl ?_
                      refine SP.val (Val.neq rfl rfl) rfl rfl rfl ?_
                      refine SP.val (Val.move rfl) rfl rfl rfl ?_
                      refine SP.join 6 (fun a w2 => Env ⟨126, []⟩ [(0, v_l_0), (3, .int .i64 x82), (4, .pointer (some ⟨b91, 0, none⟩)), (58, .bool false), (59, .pointer (some ⟨b91, 12, none⟩)), (60, .int .i64 x86.End), (61, .bool (decide (x86.End ≠ 0))), (62, .bool (decide (x86.End ≠ 0))), (68, .bool ((decide (x86.End ≠ 0)) && (decide (x86.End ≤ x86.Start))))] a ∧ St w em hV [slP k_api_Value v87 x86.Op.Args, slP (kInt .u8) v89 x86.Op.Bytes, elP k_history_Call p84 x86, slP k_history_Call v_l_0 l_0] [boxO b91 [.int .i64 x86.Proc, .int .u8 x86.Op.Kind, .int .i64 x86.Op.Method, v87, v89, .bool x86.Read, .int .i64 x86.Reply.Err, .int .i64 x86.Reply.Out.Trap, .int .u8 x86.Reply.Out.Result.Kind, .int .i64 x86.Reply.Out.Result.A, .int .i64 x86.Reply.Out.Result.B, .int .i64 x86.Start, .int .i64 x86.End] 48] w2) ?_ ?_
                      · rintro a w2 ⟨ha, hw⟩
                        refine SP.app ha hw ?_
                        clear ha hw a w2
                        refine SP.val (Val.pickF rfl rfl) rfl rfl rfl ?_
                        exact J fun a w2 ha hw => ⟨ha.sub ⟨rfl, rfl, rfl, congrArg (fun z => some (Value.bool z)) (or_f hq108 rfl), trivial⟩, hw⟩
                      · intro J
                        by_cases hc : x86.End ≠ 0
                        · have hq110 := (decide_eq_true hc)
                          refine SP.isT (d := 62) rfl hq110 ?_
                          refine SP.val (Val.fieldAddr Try.underlying48 rfl sz3 rfl) rfl rfl rfl ?_
                          refine SP.val (Val.load1 0 rfl Try.underlying3 rfl rfl rfl) rfl rfl rfl ?_
                          refine SP.val (Val.fieldAddr Try.underlying48 rfl sz3 rfl) rfl rfl rfl ?_
                          refine SP.val (Val.load1 0 rfl Try.underlying3 rfl rfl rfl) rfl rfl rfl ?_
                          refine SP.val (Val.leq rfl rfl) rfl rfl rfl ?_
                          refine SP.val (Val.pickT rfl rfl) rfl rfl rfl ?_
                          exact J fun a w2 ha hw => ⟨ha.sub ⟨rfl, rfl, rfl, rfl, rfl, rfl, rfl, congrArg (fun z => some (Value.bool z)) hq110.symm, congrArg (fun z => some (Value.bool z)) (and_t hq110 rfl), trivial⟩, hw⟩
                        · have hq110 := (decide_eq_false hc)
                          refine SP.isF (d := 62) rfl hq110 ?_
                          refine SP.not rfl rfl rfl ?_
                          refine SP.not rfl rfl rfl ?_
                          refine SP.not rfl rfl rfl ?_
                          refine SP.not rfl rfl rfl ?_
                          refine SP.not rfl rfl rfl ?_
                          refine SP.val (Val.pickF rfl rfl) rfl rfl rfl ?_
                          exact J fun a w2 ha hw => ⟨ha.sub ⟨rfl, rfl, rfl, rfl, rfl, rfl, rfl, congrArg (fun z => some (Value.bool z)) hq110.symm, congrArg (fun z => some (Value.bool z)) (and_f hq110), trivial⟩, hw⟩
                · intro J
                  by_cases hc : x86.End = 0
                  · have hq106 := (decide_eq_true hc)
                    refine SP.isT (d := 52) rfl hq106 ?_
                    refine SP.val (Val.fieldAddr Try.underlying48 rfl sz41 rfl) rfl rfl rfl ?_
                    refine SP.val (Val.loadA 0 rfl Try.underlying41 rfl sz41 rfl rfl rfl) rfl rfl rfl ?_
                    refine SP.val (Val.buildC (us := []) (ucs := []) (cs := [.int .i64 0, .int .i64 0, .int .u8 0, .int .i64 0, .int .i64 0]) bt41 rfl rfl trivial (by rfl)) rfl rfl rfl ?_
                    refine SP.val (Val.neqA (by kernel_rfl) (fun w2 => eqA41 9996 w2 x86.Reply.Err 0 x86.Reply.Out.Trap 0 x86.Reply.Out.Result.Kind 0 x86.Reply.Out.Result.A 0 x86.Reply.Out.Result.B 0) rfl rfl) rfl rfl rfl ?_
                    refine SP.val (Val.pickT rfl rfl) rfl rfl rfl ?_
                    exact J fun a w2 ha hw => ⟨ha.sub ⟨rfl, rfl, rfl, congrArg (fun z => some (Value.bool z)) (and_t hq106 rfl), trivial⟩, hw⟩
                  · have hq106 := (decide_eq_false hc)
                    refine SP.isF (d := 52) rfl hq106 ?_
                    refine SP.not rfl rfl rfl ?_
                    refine SP.not rfl rfl rfl ?_
                    refine SP.not rfl rfl rfl ?_
                    refine SP.not rfl rfl rfl ?_
                    refine SP.val (Val.pickF rfl rfl) rfl rfl rfl ?_
                    exact J fun a w2 ha hw => ⟨ha.sub ⟨rfl, rfl, rfl, congrArg (fun z => some (Value.bool z)) (and_f hq106), trivial⟩, hw⟩
            · intro J
              by_cases hc : (t98 || (x86.Read && (decide (x86.Op.Kind ≠ 1)))) = true
              · have hq104 := hc
                refine SP.isT (d := 44) rfl hq104 ?_
                refine SP.not rfl rfl rfl ?_
                refine SP.not rfl rfl rfl ?_
                refine SP.not rfl rfl rfl ?_
                refine SP.val (Val.pickT rfl rfl) rfl rfl rfl ?_
                exact J fun a w2 ha hw => ⟨ha.sub ⟨rfl, rfl, rfl, congrArg (fun z => some (Value.bool z)) (or_t hq104), trivial⟩, hw⟩
              · have hq104 := (bf hc)
                refine SP.isF (d := 44) rfl hq104 ?_
                refine SP.val (Val.fieldAddr Try.underlying48 rfl sz3 rfl) rfl rfl rfl ?_
                refine SP.val (Val.load1 0 rfl Try.underlying3 rfl rfl rfl) rfl rfl rfl ?_
                refine SP.val (Val.lss rfl rfl) rfl rfl rfl ?_
                refine SP.val (Val.pickF rfl rfl) rfl rfl rfl ?_
                exact J fun a w2 ha hw => ⟨ha.sub ⟨rfl, rfl, rfl, congrArg (fun z => some (Value.bool z)) (or_f hq104 rfl), trivial⟩, hw⟩
          · intro J
            by_cases hc : t98 = true
            · have hq100 := hc
              refine SP.isT (d := 34) rfl hq100 ?_
              refine SP.not rfl rfl rfl ?_
              refine SP.not rfl rfl rfl ?_
              refine SP.not rfl rfl rfl ?_
              refine SP.not rfl rfl rfl ?_
              refine SP.not rfl rfl rfl ?_
              refine SP.not rfl rfl rfl ?_
              refine SP.not rfl rfl rfl ?_
              refine SP.not rfl rfl rfl ?_
              refine SP.val (Val.pickT rfl rfl) rfl rfl rfl ?_
              exact J fun a w2 ha hw => ⟨ha.sub ⟨rfl, rfl, rfl, congrArg (fun z => some (Value.bool z)) (or_t hq100), trivial⟩, hw⟩
            · have hq100 := (bf hc)
              refine SP.isF (d := 34) rfl hq100 ?_
              refine SP.val (Val.fieldAddr Try.underlying48 rfl sz4 rfl) rfl rfl rfl ?_
              refine SP.val (Val.load1 0 rfl Try.underlying4 rfl rfl rfl) rfl rfl rfl ?_
              refine SP.val (Val.move rfl) rfl rfl rfl ?_
              refine SP.join 5 (fun a w2 => Env ⟨126, []⟩ [(0, v_l_0), (3, .int .i64 x82), (4, .pointer (some ⟨b91, 0, none⟩)), (34, .bool false), (35, .pointer (some ⟨b91, 5, none⟩)), (36, .bool x86.Read), (37, .bool x86.Read), (42, .bool (x86.Read && (decide (x86.Op.Kind ≠ 1))))] a ∧ St w em hV [slP k_api_Value v87 x86.Op.Args, slP (kInt .u8) v89 x86.Op.Bytes, elP k_history_Call p84 x86, slP k_history_Call v_l_0 l_0] [boxO b91 [.int .i64 x86.Proc, .int .u8 x86.Op.Kind, .int .i64 x86.Op.Method, v87, v89, .bool x86.Read, .int .i64 x86.Reply.Err, .int .i64 x86.Reply.Out.Trap, .int .u8 x86.Reply.Out.Result.Kind, .int .i64 x86.Reply.Out.Result.A, .int .i64 x86.Reply.Out.Result.B, .int .i64 x86.Start, .int .i64 x86.End] 48] w2) ?_ ?_
              · rintro a w2 ⟨ha, hw⟩
                refine SP.app ha hw ?_
                clear ha hw a w2
                refine SP.val (Val.pickF rfl rfl) rfl rfl rfl ?_
                exact J fun a w2 ha hw => ⟨ha.sub ⟨rfl, rfl, rfl, congrArg (fun z => some (Value.bool z)) (or_f hq100 rfl), trivial⟩, hw⟩
              · intro J
                by_cases hc : x86.Read = true
                · have hq102 := hc
                  refine SP.isT (d := 37) rfl hq102 ?_
                  refine SP.val (Val.fieldAddr Try.underlying48 rfl sz34 rfl) rfl rfl rfl ?_
                  refine SP.val (Val.fieldAddr Try.underlying34 rfl sz5 rfl) rfl rfl rfl ?_
                  refine SP.val (Val.load1 0 rfl Try.underlying5 rfl rfl rfl) rfl rfl rfl ?_
                  refine SP.val (Val.neq rfl rfl) rfl rfl rfl ?_
                  refine SP.val (Val.pickT rfl rfl) rfl rfl rfl ?_
                  exact J fun a w2 ha hw => ⟨ha.sub ⟨rfl, rfl, rfl, rfl, rfl, rfl, congrArg (fun z => some (Value.bool z)) hq102.symm, congrArg (fun z => some (Value.bool z)) (and_t hq102 rfl), trivial⟩, hw⟩
                · have hq102 := (bf hc)
                  refine SP.isF (d := 37) rfl hq102 ?_
                  refine SP.not rfl rfl rfl ?_
                  refine SP.not rfl rfl rfl ?_
                  refine SP.not rfl rfl rfl ?_
                  refine SP.not rfl rfl rfl ?_
                  refine SP.val (Val.pickF rfl rfl) rfl rfl rfl ?_
                  exact J fun a w2 ha hw => ⟨ha.sub ⟨rfl, rfl, rfl, rfl, rfl, rfl, congrArg (fun z => some (Value.bool z)) hq102.symm, congrArg (fun z => some (Value.bool z)) (and_f hq102), trivial⟩, hw⟩
        · intro J
          clear ho
          have ho := hg_t98
          clear hg_t98
          rcases if_some ho with ⟨hc, ho⟩ | ⟨hc, ho⟩
          · have hq96 := hc
            refine SP.isT (d := 28) rfl hq96 ?_
            refine SP.not rfl rfl rfl ?_
            refine SP.not rfl rfl rfl ?_
            refine SP.not rfl rfl rfl ?_
            refine SP.not rfl rfl rfl ?_
            refine SP.val (Val.pickT rfl rfl) rfl rfl rfl ?_
            obtain rfl := Option.some.inj ho
            exact J fun a w2 ha hw => ⟨ha.sub ⟨rfl, rfl, rfl, rfl, trivial⟩, hw⟩
          · have hq96 := (bf hc)
            refine SP.isF (d := 28) rfl hq96 ?_
            refine SP.val (Val.fieldAddr Try.underlying48 rfl sz34 rfl) rfl rfl rfl ?_
            refine SP.val (Val.loadA 0 rfl Try.underlying34 rfl sz34 rfl rfl rfl) rfl rfl rfl ?_
            obtain ⟨t97, hc, ho⟩ := bind_some ho
            refine SP.callV see (caps := []) (.bool t97) fn49 rfl rfl rfl rfl (fun w2 hP hs sub ap => capstanref20_May.ok x86.Op _ _ _ hc w2 hP sub (ap.get 0 rfl) (ap.get 1 rfl)) ?_
            clear hc
            refine SP.val (Val.notB rfl) rfl rfl rfl ?_
            refine SP.val (Val.pickF rfl rfl) rfl rfl rfl ?_
            obtain rfl := Option.some.inj ho
            exact J fun a w2 ha hw => ⟨ha.sub ⟨rfl, rfl, rfl, rfl, trivial⟩, hw⟩
      · intro J
        by_cases hc : x86.Proc < 0
        · have hq94 := (decide_eq_true hc)
          refine SP.isT (d := 23) rfl hq94 ?_
          refine SP.not rfl rfl rfl ?_
          refine SP.not rfl rfl rfl ?_
          refine SP.not rfl rfl rfl ?_
          refine SP.val (Val.pickT rfl rfl) rfl rfl rfl ?_
          exact J fun a w2 ha hw => ⟨ha.sub ⟨rfl, rfl, rfl, congrArg (fun z => some (Value.bool z)) (or_t hq94), trivial⟩, hw⟩
        · have hq94 := (decide_eq_false hc)
          refine SP.isF (d := 23) rfl hq94 ?_
          refine SP.val (Val.fieldAddr Try.underlying48 rfl sz3 rfl) rfl rfl rfl ?_
          refine SP.val (Val.load1 0 rfl Try.underlying3 rfl rfl rfl) rfl rfl rfl ?_
          refine SP.val (Val.gtr rfl rfl) rfl rfl rfl ?_
          refine SP.val (Val.pickF rfl rfl) rfl rfl rfl ?_
          exact J fun a w2 ha hw => ⟨ha.sub ⟨rfl, rfl, rfl, congrArg (fun z => some (Value.bool z)) (or_f hq94 rfl), trivial⟩, hw⟩
    · refine CP.condF rfl (decide_eq_false hc) ?_
      refine CP.exit ?_
      refine QE.thru (by intro e; cases e) ?_
      refine QE.thru (by intro e; cases e) ?_
      refine QE.blockE ?_
      refine QE.then ?_
      refine CP.seq ?_
      refine CP.region ?_
      refine SP.val (Val.assign rfl) rfl rfl rfl ?_
      refine SP.nil ?_
      refine QE.then ?_
      refine CP.ret ?_
      obtain rfl := Option.some.inj ho
      obtain rfl := Option.some.inj hr
      exact QE.rets (rs := [.tmp 2]) (vs := [.bool true]) Try.results26 rfl ⟨RVs.tmp rfl, trivial⟩ (fun w2 h => St.done (fun a b p s => rfl) h)
/-! ### slices.Clone[[]capstan/api.Value,capstan/api.Value]: function 63 -/
def slices_Clone_api_Value_api_Value.f (s_0 : (List api_Value)) : Option (List api_Value) :=
  nilOr s_0 (some []) (if (([] : List api_Value).length + s_0.length) * 24 ≤ 140737488355328 then (some (([] : List api_Value) ++ s_0)) else none)
theorem slices_Clone_api_Value_api_Value.ok (s_0 : (List api_Value)) (v_s_0 : Value) (r : (List api_Value)) (H : slices_Clone_api_Value_api_Value.f s_0 = some r) (w : World) (hV : Hp) (sV : Sub hV (hp w)) (h0 : slR k_api_Value hV v_s_0 s_0) :
    Trip Try.prog 63 [v_s_0].toArray em hV w (fun v => HO.ex fun u0 : Value => HO.pand (v = u0) (HO.seps [slO k_api_Value 37 u0 r])) := by
  have see : Sees w em hV := ⟨sV, Dj.em_right _⟩
  refine Trip.of (P := Try.prog) (n := ⟨8, []⟩) Try.func63 rfl ⟨rfl, rfl⟩ rfl (St.begin (All.cons (x := slP k_api_Value v_s_0 s_0) h0 (All.nil _))) ?_
  have ho := H
  refine CP.seq ?_
  refine CP.region ?_
  refine SP.val (Val.assign rfl) rfl rfl rfl ?_
  refine SP.nil ?_
  refine QE.then ?_
  refine CP.seq ?_
  refine CP.seq ?_
  refine CP.region ?_
  refine SP.val (Val.move rfl) rfl rfl rfl ?_
  refine SP.val (Val.eqlNP see 0 rfl Try.underlying32 rfl rfl) rfl rfl rfl ?_
  refine SP.nil ?_
  refine QE.then ?_
  refine CP.have (fun w2 hw => slR.isNil (v := v_s_0) (St.pers 0 rfl see.sub see.dj hw)) (fun hnil => ?_)
  rcases Bool.eq_false_or_eq_true (nilB v_s_0) with hc | hc
  · replace ho := nilOr_t ho (hnil hc)
    refine CP.condT rfl hc ?_
    refine CP.seq ?_
    refine CP.region ?_
    refine SP.val (Val.assign rfl) rfl rfl rfl ?_
    refine SP.nil ?_
    refine QE.then ?_
    refine CP.ret ?_
    refine QE.thru (by intro e; cases e) ?_
    obtain rfl := Option.some.inj ho
    exact QE.rets (rs := [.tmp 2]) (vs := [(.slice none 0 0)]) Try.results63 rfl ⟨RVs.tmp rfl, trivial⟩ (fun w2 h => St.done (fun a b p s => ⟨_, rfl, s⟩) (St.selO [0] rfl rfl (St.addO (slO.nil k_api_Value 37) h)))
  · replace ho := nilOr_f ho
    refine CP.condF rfl hc ?_
    refine CP.skip ?_
    refine QE.then ?_
    refine CP.seq ?_
    refine CP.region ?_
    refine SP.lit0 (k := k_api_Value) Try.underlying32 inf37 rfl rfl (fun v3 => ?_)
    refine SP.val (Val.move rfl) rfl rfl rfl ?_
    obtain ⟨hb, ho⟩ := must_some ho
    refine SP.append see 0 rfl 0 rfl Try.underlying32 inf37 rfl rfl hb rfl rfl rfl rfl rfl (fun v5 => ?_)
    clear hb
    refine SP.val (Val.assign rfl) rfl rfl rfl ?_
    refine SP.nil ?_
    refine QE.then ?_
    refine CP.ret ?_
    obtain rfl := Option.some.inj ho
    exact QE.rets (rs := [.tmp 2]) (vs := [v5]) Try.results63 rfl ⟨RVs.tmp rfl, trivial⟩ (fun w2 h => St.done (fun a b p s => ⟨_, rfl, s⟩) (St.selO [0] rfl rfl h))
/-! ### bytes.Clone: function 64 -/
def bytes_Clone.f (b_0 : (List Int)) : Option (List Int) :=
  nilOr b_0 (some []) (if (([] : List Int).length + b_0.length) * 1 ≤ 140737488355328 then (some (([] : List Int) ++ b_0)) else none)
theorem bytes_Clone.ok (b_0 : (List Int)) (v_b_0 : Value) (r : (List Int)) (H : bytes_Clone.f b_0 = some r) (w : World) (hV : Hp) (sV : Sub hV (hp w)) (h0 : slR (kInt .u8) hV v_b_0 b_0) :
    Trip Try.prog 64 [v_b_0].toArray em hV w (fun v => HO.ex fun u0 : Value => HO.pand (v = u0) (HO.seps [slO (kInt .u8) 5 u0 r])) := by
  have see : Sees w em hV := ⟨sV, Dj.em_right _⟩
  refine Trip.of (P := Try.prog) (n := ⟨8, []⟩) Try.func64 rfl ⟨rfl, rfl⟩ rfl (St.begin (All.cons (x := slP (kInt .u8) v_b_0 b_0) h0 (All.nil _))) ?_
  have ho := H
  refine CP.seq ?_
  refine CP.region ?_
  refine SP.val (Val.assign rfl) rfl rfl rfl ?_
  refine SP.nil ?_
  refine QE.then ?_
  refine CP.seq ?_
  refine CP.seq ?_
  refine CP.region ?_
  refine SP.val (Val.move rfl) rfl rfl rfl ?_
  refine SP.val (Val.eqlNP see 0 rfl Try.underlying24 rfl rfl) rfl rfl rfl ?_
  refine SP.nil ?_
  refine QE.then ?_
  refine CP.have (fun w2 hw => slR.isNil (v := v_b_0) (St.pers 0 rfl see.sub see.dj hw)) (fun hnil => ?_)
  rcases Bool.eq_false_or_eq_true (nilB v_b_0) with hc | hc
  · replace ho := nilOr_t ho (hnil hc)
    refine CP.condT rfl hc ?_
    refine CP.seq ?_
    refine CP.region ?_
    refine SP.val (Val.assign rfl) rfl rfl rfl ?_
    refine SP.nil ?_
    refine QE.then ?_
    refine CP.ret ?_
    refine QE.thru (by intro e; cases e) ?_
    obtain rfl := Option.some.inj ho
    exact QE.rets (rs := [.tmp 2]) (vs := [(.slice none 0 0)]) Try.results64 rfl ⟨RVs.tmp rfl, trivial⟩ (fun w2 h => St.done (fun a b p s => ⟨_, rfl, s⟩) (St.selO [0] rfl rfl (St.addO (slO.nil (kInt .u8) 5) h)))
  · replace ho := nilOr_f ho
    refine CP.condF rfl hc ?_
    refine CP.skip ?_
    refine QE.then ?_
    refine CP.seq ?_
    refine CP.region ?_
    refine SP.lit0 (k := (kInt .u8)) Try.underlying24 inf5 rfl rfl (fun v3 => ?_)
    refine SP.val (Val.move rfl) rfl rfl rfl ?_
    obtain ⟨hb, ho⟩ := must_some ho
    refine SP.append see 0 rfl 0 rfl Try.underlying24 inf5 rfl rfl hb rfl rfl rfl rfl rfl (fun v5 => ?_)
    clear hb
    refine SP.val (Val.assign rfl) rfl rfl rfl ?_
    refine SP.nil ?_
    refine QE.then ?_
    refine CP.ret ?_
    obtain rfl := Option.some.inj ho
    exact QE.rets (rs := [.tmp 2]) (vs := [v5]) Try.results64 rfl ⟨RVs.tmp rfl, trivial⟩ (fun w2 h => St.done (fun a b p s => ⟨_, rfl, s⟩) (St.selO [0] rfl rfl h))
/-! ### capstan/entry.Copy: function 57 -/
def entry_Copy.f (op_0 : api_Op) : Option api_Op :=
  (slices_Clone_api_Value_api_Value.f op_0.Args).bind fun t22 => (bytes_Clone.f op_0.Bytes).bind fun t31 => some (⟨op_0.Kind, op_0.Method, t22, t31⟩ : api_Op)
theorem entry_Copy.ok (op_0 : api_Op) (v_op_0_Args : Value) (v_op_0_Bytes : Value) (r : api_Op) (H : entry_Copy.f op_0 = some r) (w : World) (hV : Hp) (sV : Sub hV (hp w)) (h0 : slR k_api_Value hV v_op_0_Args op_0.Args) (h1 : slR (kInt .u8) hV v_op_0_Bytes op_0.Bytes) :
    Trip Try.prog 57 [.agg #[.int .u8 op_0.Kind, .int .i64 op_0.Method, v_op_0_Args, v_op_0_Bytes]].toArray em hV w (fun v => HO.ex fun u0 : Value => HO.ex fun u1 : Value => HO.pand (v = .agg #[.int .u8 r.Kind, .int .i64 r.Method, u0, u1]) (HO.seps [slO k_api_Value 37 u0 r.Args, slO (kInt .u8) 5 u1 r.Bytes])) := by
  have see : Sees w em hV := ⟨sV, Dj.em_right _⟩
  refine Trip.of (P := Try.prog) (n := ⟨12, []⟩) Try.func57 rfl ⟨rfl, rfl⟩ rfl (St.begin (All.cons (x := slP k_api_Value v_op_0_Args op_0.Args) h0 (All.cons (x := slP (kInt .u8) v_op_0_Bytes op_0.Bytes) h1 (All.nil _)))) ?_
  have ho := H
  refine CP.seq ?_
  refine CP.region ?_
  refine SP.box (cs := [.int .u8 op_0.Kind, .int .i64 op_0.Method, v_op_0_Args, v_op_0_Bytes]) rfl rfl rfl rfl (fun b3 => ?_)
  refine SP.alloc (cs := [.int .u8 0, .int .i64 0, (.slice none 0 0), (.slice none 0 0)]) inf34 rfl rfl (fun b5 => ?_)
  refine SP.nil ?_
  refine QE.then ?_
  refine CP.seq ?_
  refine CP.drawA (by kernel_rfl) (fun w2 k h => h.drawn k) ?_
  refine DA.phase (fun i => Nat.ble 0 i && Nat.blt i 7) (fun w2 => St w em hV [slP k_api_Value v_op_0_Args op_0.Args, slP (kInt .u8) v_op_0_Bytes op_0.Bytes] [boxO b5 [.int .u8 0, .int .i64 0, (.slice none 0 0), (.slice none 0 0)] 34, boxO b3 [.int .u8 op_0.Kind, .int .i64 op_0.Method, v_op_0_Args, v_op_0_Bytes] 34] w2) ?_
  refine DT.take 0 rfl rfl rfl rfl (by kernel_rfl) (fun _ _ _ h => h) (Val.fieldAddr Try.underlying34 rfl sz32 rfl) (fun w2 hw => hw) ?_
  refine DT.take 1 rfl rfl rfl rfl (by kernel_rfl) (fun _ _ _ h => h) (Val.load1 1 rfl Try.underlying32 rfl rfl rfl) (fun w2 hw => hw) ?_
  refine DT.take 3 rfl rfl rfl rfl (by kernel_rfl) (fun _ _ _ h => h) (Val.fieldAddr Try.underlying34 rfl sz24 rfl) (fun w2 hw => hw) ?_
  refine DT.take 4 rfl rfl rfl rfl (by kernel_rfl) (fun _ _ _ h => h) (Val.load1 1 rfl Try.underlying24 rfl rfl rfl) (fun w2 hw => hw) ?_
  refine DT.one 2 rfl (by kernel_rfl) rfl ?_
  obtain ⟨t22, hc, ho⟩ := bind_some ho
  refine SP.callK see (caps := []) _ fn63 rfl rfl rfl rfl (fun w2 hP hs sub ap => slices_Clone_api_Value_api_Value.ok op_0.Args _ _ hc w2 hP sub (ap.get 0 rfl)) (fun vr => ?_)
  refine SP.ex (fun w2 h => St.open h) (fun v23 => ?_)
  refine SP.have (fun w2 h => (St.pand h).1.symm) (fun er => ?_)
  subst er
  refine SP.imp (fun w2 h => St.seps (St.pand h).2) ?_
  clear hc
  refine SP.nil ?_
  refine QE.atT (fun w2 hw => (St.selO [1, 2] rfl rfl hw)) ?_
  refine DT.take 6 rfl rfl rfl rfl (by kernel_rfl) (fun _ _ _ h => h) (Val.fieldAddr Try.underlying34 rfl sz32 rfl) (fun w2 hw => (St.selO [1, 2] rfl rfl hw)) ?_
  refine DT.one 5 rfl (by kernel_rfl) rfl ?_
  obtain ⟨t31, hc, ho⟩ := bind_some ho
  refine SP.callK see (caps := []) _ fn64 rfl rfl rfl rfl (fun w2 hP hs sub ap => bytes_Clone.ok op_0.Bytes _ _ hc w2 hP sub (ap.get 1 rfl)) (fun vr => ?_)
  refine SP.ex (fun w2 h => St.open h) (fun v32 => ?_)
  refine SP.have (fun w2 h => (St.pand h).1.symm) (fun er => ?_)
  subst er
  refine SP.imp (fun w2 h => St.seps (St.pand h).2) ?_
  clear hc
  refine SP.nil ?_
  refine QE.atT (fun w2 hw => (St.selO [2, 3] rfl rfl hw)) ?_
  refine DT.next (by kernel_rfl) ?_
  refine DA.one 7 rfl (by kernel_rfl) ?_
  refine SP.have (fun w2 hw => slO.shape (St.own 1 rfl see.sub see.dj hw)) (fun hs_v23 => ?_)
  refine SP.store (v := v23) (vs := [v23]) 3 (by rfl) sz32 (by rfl) (by rfl) (by rfl) (one_cells hs_v23) (one_cons hs_v23 (rfl)) (by rfl) ?_
  refine SP.nil ?_
  refine QE.atA ?_
  refine DA.one 8 rfl (by kernel_rfl) ?_
  refine SP.val (Val.fieldAddr Try.underlying34 rfl sz24 rfl) rfl rfl rfl ?_
  refine SP.nil ?_
  refine QE.atA ?_
  refine DA.one 9 rfl (by kernel_rfl) ?_
  refine SP.have (fun w2 hw => slO.shape (St.own 0 rfl see.sub see.dj hw)) (fun hs_v32 => ?_)
  refine SP.store (v := v32) (vs := [v32]) 3 (by rfl) sz24 (by rfl) (by rfl) (by rfl) (one_cells hs_v32) (one_cons hs_v32 (rfl)) (by rfl) ?_
  refine SP.nil ?_
  refine QE.atA ?_
  refine DA.done (by kernel_rfl) ?_
  refine QE.then ?_
  refine CP.seq ?_
  refine CP.region ?_
  refine SP.val (Val.loadA 3 rfl Try.underlying34 rfl sz34 rfl rfl rfl) rfl rfl rfl ?_
  refine SP.have (fun w2 hw => slO.shape (St.own 1 rfl see.sub see.dj hw)) (fun hs_v23 => ?_)
  refine SP.have (fun w2 hw => slO.shape (St.own 0 rfl see.sub see.dj hw)) (fun hs_v32 => ?_)
  refine SP.store (v := .agg #[.int .u8 op_0.Kind, .int .i64 op_0.Method, v23, v32]) (vs := [.int .u8 op_0.Kind, .int .i64 op_0.Method, v23, v32]) 2 (by rfl) sz34 (by rfl) (by rfl) (by rfl) (by rfl) (one_cons rfl (one_cons rfl (one_cons hs_v23 (one_cons hs_v32 (rfl))))) (by rfl) ?_
  refine SP.nil ?_
  refine QE.then ?_
  refine CP.ret ?_
  obtain rfl := Option.some.inj ho
  exact QE.rets (rs := [.cell 2 34]) (vs := [.agg #[.int .u8 op_0.Kind, .int .i64 op_0.Method, v23, v32]]) Try.results57 rfl ⟨RVs.cellA 2 rfl rfl Try.underlying34 rfl sz34, trivial⟩ (fun w2 h => St.done (fun a b p s => ⟨_, _, rfl, s⟩) (St.selO [1, 0] rfl rfl h))
/-! ### capstan/history.own: function 42 -/
def history_own.f (c_0 : history_Call) : Option history_Call :=
  (entry_Copy.f c_0.Op).bind fun t7 => some (⟨c_0.Proc, (⟨t7.Kind, t7.Method, t7.Args, t7.Bytes⟩ : api_Op), c_0.Read, (⟨c_0.Reply.Err, (⟨c_0.Reply.Out.Trap, (⟨c_0.Reply.Out.Result.Kind, c_0.Reply.Out.Result.A, c_0.Reply.Out.Result.B⟩ : api_Value)⟩ : api_Outcome)⟩ : api_Reply), c_0.Start, c_0.End⟩ : history_Call)
theorem history_own.ok (c_0 : history_Call) (v_c_0_Op_Args : Value) (v_c_0_Op_Bytes : Value) (r : history_Call) (H : history_own.f c_0 = some r) (w : World) (hV : Hp) (sV : Sub hV (hp w)) (h0 : slR k_api_Value hV v_c_0_Op_Args c_0.Op.Args) (h1 : slR (kInt .u8) hV v_c_0_Op_Bytes c_0.Op.Bytes) :
    Trip Try.prog 42 [.agg #[.int .i64 c_0.Proc, .int .u8 c_0.Op.Kind, .int .i64 c_0.Op.Method, v_c_0_Op_Args, v_c_0_Op_Bytes, .bool c_0.Read, .int .i64 c_0.Reply.Err, .int .i64 c_0.Reply.Out.Trap, .int .u8 c_0.Reply.Out.Result.Kind, .int .i64 c_0.Reply.Out.Result.A, .int .i64 c_0.Reply.Out.Result.B, .int .i64 c_0.Start, .int .i64 c_0.End]].toArray em hV w (fun v => HO.ex fun u0 : Value => HO.ex fun u1 : Value => HO.pand (v = .agg #[.int .i64 r.Proc, .int .u8 r.Op.Kind, .int .i64 r.Op.Method, u0, u1, .bool r.Read, .int .i64 r.Reply.Err, .int .i64 r.Reply.Out.Trap, .int .u8 r.Reply.Out.Result.Kind, .int .i64 r.Reply.Out.Result.A, .int .i64 r.Reply.Out.Result.B, .int .i64 r.Start, .int .i64 r.End]) (HO.seps [slO k_api_Value 37 u0 r.Op.Args, slO (kInt .u8) 5 u1 r.Op.Bytes])) := by
  have see : Sees w em hV := ⟨sV, Dj.em_right _⟩
  refine Trip.of (P := Try.prog) (n := ⟨8, []⟩) Try.func42 rfl ⟨rfl, rfl⟩ rfl (St.begin (All.cons (x := slP k_api_Value v_c_0_Op_Args c_0.Op.Args) h0 (All.cons (x := slP (kInt .u8) v_c_0_Op_Bytes c_0.Op.Bytes) h1 (All.nil _)))) ?_
  have ho := H
  refine CP.seq ?_
  refine CP.region ?_
  refine SP.box (cs := [.int .i64 c_0.Proc, .int .u8 c_0.Op.Kind, .int .i64 c_0.Op.Method, v_c_0_Op_Args, v_c_0_Op_Bytes, .bool c_0.Read, .int .i64 c_0.Reply.Err, .int .i64 c_0.Reply.Out.Trap, .int .u8 c_0.Reply.Out.Result.Kind, .int .i64 c_0.Reply.Out.Result.A, .int .i64 c_0.Reply.Out.Result.B, .int .i64 c_0.Start, .int .i64 c_0.End]) rfl rfl rfl rfl (fun b3 => ?_)
  refine SP.alloc (cs := [.int .i64 0, .int .u8 0, .int .i64 0, (.slice none 0 0), (.slice none 0 0), .bool false, .int .i64 0, .int .i64 0, .int .u8 0, .int .i64 0, .int .i64 0, .int .i64 0, .int .i64 0]) inf48 rfl rfl (fun b5 => ?_)
  refine SP.nil ?_
  refine QE.then ?_
  refine CP.seq ?_
  refine CP.region ?_
  refine SP.val (Val.fieldAddr Try.underlying48 rfl sz34 rfl) rfl rfl rfl ?_
  refine SP.val (Val.loadA 1 rfl Try.underlying34 rfl sz34 rfl rfl rfl) rfl rfl rfl ?_
  obtain ⟨t7, hc, ho⟩ := bind_some ho
  refine SP.callK see (caps := []) _ fn57 rfl rfl rfl rfl (fun w2 hP hs sub ap => entry_Copy.ok c_0.Op _ _ _ hc w2 hP sub (ap.get 0 rfl) (ap.get 1 rfl)) (fun vr => ?_)
  refine SP.ex (fun w2 h => St.open h) (fun v8 => ?_)
  refine SP.ex (fun w2 h => St.open h) (fun v9 => ?_)
  refine SP.have (fun w2 h => (St.pand h).1.symm) (fun er => ?_)
  subst er
  refine SP.imp (fun w2 h => St.seps (St.pand h).2) ?_
  clear hc
  refine SP.val (Val.fieldAddr Try.underlying48 rfl sz34 rfl) rfl rfl rfl ?_
  refine SP.have (fun w2 hw => slO.shape (St.own 0 rfl see.sub see.dj hw)) (fun hs_v8 => ?_)
  refine SP.have (fun w2 hw => slO.shape (St.own 1 rfl see.sub see.dj hw)) (fun hs_v9 => ?_)
  refine SP.store (v := .agg #[.int .u8 t7.Kind, .int .i64 t7.Method, v8, v9]) (vs := [.int .u8 t7.Kind, .int .i64 t7.Method, v8, v9]) 3 (by rfl) sz34 (by rfl) (by rfl) (by rfl) (by rfl) (one_cons rfl (one_cons rfl (one_cons hs_v8 (one_cons hs_v9 (rfl))))) (by rfl) ?_
  refine SP.nil ?_
  refine QE.then ?_
  refine CP.seq ?_
  refine CP.region ?_
  refine SP.val (Val.loadA 3 rfl Try.underlying48 rfl sz48 rfl rfl rfl) rfl rfl rfl ?_
  refine SP.have (fun w2 hw => slO.shape (St.own 0 rfl see.sub see.dj hw)) (fun hs_v8 => ?_)
  refine SP.have (fun w2 hw => slO.shape (St.own 1 rfl see.sub see.dj hw)) (fun hs_v9 => ?_)
  refine SP.store (v := .agg #[.int .i64 c_0.Proc, .int .u8 t7.Kind, .int .i64 t7.Method, v8, v9, .bool c_0.Read, .int .i64 c_0.Reply.Err, .int .i64 c_0.Reply.Out.Trap, .int .u8 c_0.Reply.Out.Result.Kind, .int .i64 c_0.Reply.Out.Result.A, .int .i64 c_0.Reply.Out.Result.B, .int .i64 c_0.Start, .int .i64 c_0.End]) (vs := [.int .i64 c_0.Proc, .int .u8 t7.Kind, .int .i64 t7.Method, v8, v9, .bool c_0.Read, .int .i64 c_0.Reply.Err, .int .i64 c_0.Reply.Out.Trap, .int .u8 c_0.Reply.Out.Result.Kind, .int .i64 c_0.Reply.Out.Result.A, .int .i64 c_0.Reply.Out.Result.B, .int .i64 c_0.Start, .int .i64 c_0.End]) 2 (by rfl) sz48 (by rfl) (by rfl) (by rfl) (by rfl) (one_cons rfl (one_cons rfl (one_cons rfl (one_cons hs_v8 (one_cons hs_v9 (one_cons rfl (one_cons rfl (one_cons rfl (one_cons rfl (one_cons rfl (one_cons rfl (one_cons rfl (one_cons rfl (rfl)))))))))))))) (by rfl) ?_
  refine SP.nil ?_
  refine QE.then ?_
  refine CP.ret ?_
  obtain rfl := Option.some.inj ho
  exact QE.rets (rs := [.cell 2 48]) (vs := [.agg #[.int .i64 c_0.Proc, .int .u8 t7.Kind, .int .i64 t7.Method, v8, v9, .bool c_0.Read, .int .i64 c_0.Reply.Err, .int .i64 c_0.Reply.Out.Trap, .int .u8 c_0.Reply.Out.Result.Kind, .int .i64 c_0.Reply.Out.Result.A, .int .i64 c_0.Reply.Out.Result.B, .int .i64 c_0.Start, .int .i64 c_0.End]]) Try.results42 rfl ⟨RVs.cellA 2 rfl rfl Try.underlying48 rfl sz48, trivial⟩ (fun w2 h => St.done (fun a b p s => ⟨_, _, rfl, s⟩) (St.selO [0, 1] rfl rfl h))
/-! ### capstan/history.kept[capstan/history.Call,capstan/history.Call]: function 50 -/
inductive history_kept_history_Call_history_Call_s1.S where
  | start
  | l1 (l30 : List history_Call) (x32 : Int)

def history_kept_history_Call_history_Call_s1.j1 (l_0 : (List history_Call)) (x32 : Int) (l54 : List history_Call) : Option (history_kept_history_Call_history_Call_s1.S ⊕ (List history_Call)) :=
  some (.inl (.l1 l54 (IntKind.i64.wrap (x32 + 1))))

def history_kept_history_Call_history_Call_s1.F (l_0 : (List history_Call)) : history_kept_history_Call_history_Call_s1.S → Option (history_kept_history_Call_history_Call_s1.S ⊕ (List history_Call))
  | .start => some (.inl (.l1 [] 0))
  | .l1 l30 x32 => if x32 < (l_0.length : Int) then ((elt l_0 x32).bind fun x36 => (history_Call_pending.f x36).bind fun t43 => if t43 = true then ((history_own.f x36).bind fun t44 => if (l30.length + [t44].length) * 136 ≤ 140737488355328 then (history_kept_history_Call_history_Call_s1.j1 l_0 x32 (l30 ++ [t44])) else none) else (history_kept_history_Call_history_Call_s1.j1 l_0 x32 l30)) else (some (.inr l30))

def history_kept_history_Call_history_Call_s1.f (l_0 : (List history_Call)) : Option (List history_Call) := runF (history_kept_history_Call_history_Call_s1.F l_0) .start
theorem history_kept_history_Call_history_Call_s1.ok (l_0 : (List history_Call)) (v_l_0 : Value) (r : (List history_Call)) (H : history_kept_history_Call_history_Call_s1.f l_0 = some r) (w : World) (hV : Hp) (sV : Sub hV (hp w)) (h0 : slR k_history_Call hV v_l_0 l_0) :
    Trip Try.prog 50 [v_l_0, .func (.func 48) #[] #[], .func (.func 42) #[] #[]].toArray em hV w (fun v => HO.ex fun u0 : Value => HO.pand (v = u0) (HO.seps [slD o_history_Call 48 u0 r])) := by
  have see : Sees w em hV := ⟨sV, Dj.em_right _⟩
  refine Trip.of (P := Try.prog) (n := ⟨27, []⟩) Try.func50 rfl ⟨rfl, rfl⟩ rfl (St.begin (All.cons (x := slP k_history_Call v_l_0 l_0) h0 (All.nil _))) ?_
  obtain ⟨n0, hi⟩ := runF_iff.1 H
  obtain ⟨m0, o, hm0, ho, hr⟩ := iter_some hi
  clear hi
  refine CP.seq ?_
  refine CP.region ?_
  refine SP.val (Val.assign rfl) rfl rfl rfl ?_
  refine SP.nil ?_
  refine QE.then ?_
  refine CP.seq ?_
  refine CP.region ?_
  refine SP.val (Val.assign rfl) rfl rfl rfl ?_
  refine SP.nil ?_
  refine QE.then ?_
  refine CP.seq ?_
  refine CP.seq ?_
  refine CP.region ?_
  refine SP.val (Val.move rfl) rfl rfl rfl ?_
  refine SP.val (Val.lenP see 0 rfl Try.underlying44 rfl) rfl rfl rfl ?_
  refine SP.val (Val.move rfl) rfl rfl rfl ?_
  refine SP.nil ?_
  refine QE.then ?_
  refine CP.block ?_
  obtain rfl := Option.some.inj ho
  refine CP.loop (fun cl1 a w2 => ∃ l30 : List history_Call, ∃ x32 : Int, ∃ v31 : Value, cl1 ≤ m0 ∧ iter (history_kept_history_Call_history_Call_s1.F l_0) cl1 (.l1 l30 x32) = some r ∧ Env ⟨27, []⟩ [(1, .func (.func 48) #[] #[]), (2, .func (.func 42) #[] #[]), (7, v31), (10, v_l_0), (11, .int .i64 (l_0.length : Int)), (12, .int .i64 x32)] a ∧ St w em hV [slP k_history_Call v_l_0 l_0] [slD o_history_Call 48 v31 l30] w2) m0 (fun a w2 ha hw => ⟨[], 0, (.slice none 0 0), Nat.le_refl _, hr, ha.sub ⟨rfl, rfl, rfl, rfl, rfl, rfl, trivial⟩, (St.addO (slD.nil o_history_Call 48) hw)⟩) ?_
  clear hr
  rintro cl1 a w2 ⟨l30, x32, v31, hc_l1, hi, ha, hw⟩
  obtain ⟨m33, o, hm_m33, ho, hr⟩ := iter_some hi
  refine CP.app ha hw ?_
  clear ha hw a w2 hi
  refine CP.seq ?_
  refine CP.region ?_
  refine SP.val (Val.lss rfl rfl) rfl rfl rfl ?_
  refine SP.nil ?_
  refine QE.then ?_
  refine CP.seq ?_
  rcases if_some ho with ⟨hc, ho⟩ | ⟨hc, ho⟩
  · refine CP.condT rfl (decide_eq_true hc) ?_
    refine CP.skip ?_
    refine QE.then ?_
    refine CP.join (fun a w2 => ∃ l54 : List history_Call, ∃ v55 : Value, ∃ (m56 : Nat) (o : (history_kept_history_Call_history_Call_s1.S ⊕ (List history_Call))), m56 ≤ m33 ∧ history_kept_history_Call_history_Call_s1.j1 l_0 x32 l54 = some o ∧ next (history_kept_history_Call_history_Call_s1.F l_0) m56 o = some r ∧ Env ⟨27, []⟩ [(1, .func (.func 48) #[] #[]), (2, .func (.func 42) #[] #[]), (7, v55), (10, v_l_0), (11, .int .i64 (l_0.length : Int)), (12, .int .i64 x32)] a ∧ St w em hV [slP k_history_Call v_l_0 l_0] [slD o_history_Call 48 v55 l54] w2) ?_ ?_
    · rintro a w2 ⟨l54, v55, m56, o, hm_m56, ho, hr, ha, hw⟩
      refine CP.app ha hw ?_
      clear ha hw a w2
      refine CP.region ?_
      refine SP.val (Val.add rfl rfl) rfl rfl rfl ?_
      refine SP.val (Val.move rfl) rfl rfl rfl ?_
      refine SP.nil ?_
      obtain rfl := Option.some.inj ho
      exact QE.lower m56 (by omega) fun a w2 ha hw => ⟨l54, (IntKind.i64.wrap (x32 + 1)), v55, (by omega), hr, ha.sub ⟨rfl, rfl, rfl, rfl, rfl, rfl, trivial⟩, hw⟩
    · refine CP.block ?_
      refine CP.seq ?_
      refine CP.region ?_
      obtain ⟨x36, hx, ho⟩ := bind_some ho
      have hx := elt_some hx
      refine SP.indexP see 0 rfl Try.underlying44 sz48 hx.1 hx.2 rfl rfl rfl rfl (fun p34 => ?_)
      clear hx
      refine k_history_Call.load see 0 rfl Try.underlying48 rfl sz48 rfl rfl rfl (fun v37 v39 => ?_)
      refine SP.alloc (cs := [.int .i64 0, .int .u8 0, .int .i64 0, (.slice none 0 0), (.slice none 0 0), .bool false, .int .i64 0, .int .i64 0, .int .u8 0, .int .i64 0, .int .i64 0, .int .i64 0, .int .i64 0]) inf48 rfl rfl (fun b41 => ?_)
      refine SP.have (fun w2 hw => slR.shape (St.pers 0 rfl see.sub see.dj hw)) (fun hs_v37 => ?_)
      refine SP.have (fun w2 hw => slR.shape (St.pers 1 rfl see.sub see.dj hw)) (fun hs_v39 => ?_)
      refine SP.store (v := .agg #[.int .i64 x36.Proc, .int .u8 x36.Op.Kind, .int .i64 x36.Op.Method, v37, v39, .bool x36.Read, .int .i64 x36.Reply.Err, .int .i64 x36.Reply.Out.Trap, .int .u8 x36.Reply.Out.Result.Kind, .int .i64 x36.Reply.Out.Result.A, .int .i64 x36.Reply.Out.Result.B, .int .i64 x36.Start, .int .i64 x36.End]) (vs := [.int .i64 x36.Proc, .int .u8 x36.Op.Kind, .int .i64 x36.Op.Method, v37, v39, .bool x36.Read, .int .i64 x36.Reply.Err, .int .i64 x36.Reply.Out.Trap, .int .u8 x36.Reply.Out.Result.Kind, .int .i64 x36.Reply.Out.Result.A, .int .i64 x36.Reply.Out.Result.B, .int .i64 x36.Start, .int .i64 x36.End]) 0 (by rfl) sz48 (by rfl) (by rfl) (by rfl) (by rfl) (one_cons rfl (one_cons rfl (one_cons rfl (one_cons hs_v37 (one_cons hs_v39 (one_cons rfl (one_cons rfl (one_cons rfl (one_cons rfl (one_cons rfl (one_cons rfl (one_cons rfl (one_cons rfl (rfl)))))))))))))) (by rfl) ?_
      refine SP.nil ?_
      refine QE.then ?_
      refine CP.seq ?_
      refine CP.region ?_
      refine SP.val (Val.move rfl) rfl rfl rfl ?_
      refine SP.val (Val.loadA 0 rfl Try.underlying48 rfl sz48 rfl rfl rfl) rfl rfl rfl ?_
      obtain ⟨t43, hc, ho⟩ := bind_some ho
      refine SP.callV see (caps := []) (.bool t43) fn48 rfl rfl rfl rfl (fun w2 hP hs sub ap => history_Call_pending.ok x36 _ _ _ hc w2 hP sub (ap.get 0 rfl) (ap.get 1 rfl)) ?_
      clear hc
      refine SP.nil ?_
      refine QE.then ?_
      rcases if_some ho with ⟨hc, ho⟩ | ⟨hc, ho⟩
      · refine CP.condT rfl hc ?_
        refine CP.region ?_
        refine SP.val (Val.move rfl) rfl rfl rfl ?_
        refine SP.val (Val.move rfl) rfl rfl rfl ?_
        refine SP.val (Val.loadA 0 rfl Try.underlying48 rfl sz48 rfl rfl rfl) rfl rfl rfl ?_
        obtain ⟨t44, hc, ho⟩ := bind_some ho
        refine SP.callK see (caps := []) _ fn42 rfl rfl rfl rfl (fun w2 hP hs sub ap => history_own.ok x36 _ _ _ hc w2 hP sub (ap.get 0 rfl) (ap.get 1 rfl)) (fun vr => ?_)
        refine SP.ex (fun w2 h => St.open h) (fun v45 => ?_)
        refine SP.ex (fun w2 h => St.open h) (fun v46 => ?_)
        refine SP.have (fun w2 h => (St.pand h).1.symm) (fun er => ?_)
        subst er
        refine SP.imp (fun w2 h => St.seps (St.pand h).2) ?_
        clear hc
        refine SP.have (fun w2 hw => slO.shape (St.own 0 rfl see.sub see.dj hw)) (fun hs_v45 => ?_)
        refine SP.have (fun w2 hw => slO.shape (St.own 1 rfl see.sub see.dj hw)) (fun hs_v46 => ?_)
        refine SP.lit (k := kRaw 13) (xs := [[.int .i64 t44.Proc, .int .u8 t44.Op.Kind, .int .i64 t44.Op.Method, v45, v46, .bool t44.Read, .int .i64 t44.Reply.Err, .int .i64 t44.Reply.Out.Trap, .int .u8 t44.Reply.Out.Result.Kind, .int .i64 t44.Reply.Out.Result.A, .int .i64 t44.Reply.Out.Result.B, .int .i64 t44.Start, .int .i64 t44.End]]) (vs := [.agg #[.int .i64 t44.Proc, .int .u8 t44.Op.Kind, .int .i64 t44.Op.Method, v45, v46, .bool t44.Read, .int .i64 t44.Reply.Err, .int .i64 t44.Reply.Out.Trap, .int .u8 t44.Reply.Out.Result.Kind, .int .i64 t44.Reply.Out.Result.A, .int .i64 t44.Reply.Out.Result.B, .int .i64 t44.Start, .int .i64 t44.End]]) (cells := [.int .i64 t44.Proc, .int .u8 t44.Op.Kind, .int .i64 t44.Op.Method, v45, v46, .bool t44.Read, .int .i64 t44.Reply.Err, .int .i64 t44.Reply.Out.Trap, .int .u8 t44.Reply.Out.Result.Kind, .int .i64 t44.Reply.Out.Result.A, .int .i64 t44.Reply.Out.Result.B, .int .i64 t44.Start, .int .i64 t44.End]) Try.underlying44 inf48 rfl rfl rfl rfl rfl rfl rfl rfl (fun _ ap => ⟨[.int .i64 t44.Proc, .int .u8 t44.Op.Kind, .int .i64 t44.Op.Method, v45, v46, .bool t44.Read, .int .i64 t44.Reply.Err, .int .i64 t44.Reply.Out.Trap, .int .u8 t44.Reply.Out.Result.Kind, .int .i64 t44.Reply.Out.Result.A, .int .i64 t44.Reply.Out.Result.B, .int .i64 t44.Start, .int .i64 t44.End], _, rfl, ⟨rfl, rfl, one_cons rfl (one_cons rfl (one_cons rfl (one_cons hs_v45 (one_cons hs_v46 (one_cons rfl (one_cons rfl (one_cons rfl (one_cons rfl (one_cons rfl (one_cons rfl (one_cons rfl (one_cons rfl (rfl)))))))))))))⟩, rfl⟩) rfl rfl rfl (fun v49 => ?_)
        refine SP.imp (fun w2 hw => St.litD (k := o_history_Call) [slO k_api_Value 37 v45 t44.Op.Args, slO (kInt .u8) 5 v46 t44.Op.Bytes] (St.selO [0, 1, 2, 3, 4] rfl rfl hw) (fun a b q => ⟨_, _, rfl, q⟩)) ?_
        refine SP.imp (fun w2 hw => St.selO [2, 0, 1] rfl rfl hw) ?_
        obtain ⟨hb, ho⟩ := must_some ho
        refine SP.appendD see Try.underlying44 inf48 rfl rfl hb rfl rfl rfl rfl rfl (fun v51 => ?_)
        clear hb
        refine SP.val (Val.assign rfl) rfl rfl rfl ?_
        refine SP.nil ?_
        refine QE.blockN ?_
        exact QE.meet fun a w2 ha hw => ⟨(l30 ++ [t44]), v51, m33, _, (by omega), ho, hr, ha.sub ⟨rfl, rfl, rfl, rfl, rfl, rfl, trivial⟩, (St.selP [3] rfl (St.selO [0] rfl rfl hw))⟩
      · refine CP.condF rfl (bf hc) ?_
        refine CP.skip ?_
        refine QE.blockN ?_
        exact QE.meet fun a w2 ha hw => ⟨l30, v31, m33, _, (by omega), ho, hr, ha.sub ⟨rfl, rfl, rfl, rfl, rfl, rfl, trivial⟩, (St.selP [3] rfl (St.selO [1] rfl rfl hw))⟩
  · refine CP.condF rfl (decide_eq_false hc) ?_
    refine CP.exit ?_
    refine QE.thru (by intro e; cases e) ?_
    refine QE.thru (by intro e; cases e) ?_
    refine QE.blockE ?_
    refine QE.then ?_
    refine CP.seq ?_
    refine CP.region ?_
    refine SP.val (Val.move rfl) rfl rfl rfl ?_
    refine SP.val (Val.assign rfl) rfl rfl rfl ?_
    refine SP.nil ?_
    refine QE.then ?_
    refine CP.ret ?_
    obtain rfl := Option.some.inj ho
    obtain rfl := Option.some.inj hr
    exact QE.rets (rs := [.tmp 6]) (vs := [v31]) Try.results50 rfl ⟨RVs.tmp rfl, trivial⟩ (fun w2 h => St.done (fun a b p s => ⟨_, rfl, s⟩) (St.selO [0] rfl rfl h))
/-! ### capstan/history.Pending: function 27 -/
def history_Pending.f (l_0 : (List history_Call)) : Option Int :=
  (history_kept_history_Call_history_Call_s1.f l_0).bind fun t2 => some (t2.length : Int)
theorem history_Pending.ok (l_0 : (List history_Call)) (v_l_0 : Value) (r : Int) (H : history_Pending.f l_0 = some r) (w : World) (hV : Hp) (sV : Sub hV (hp w)) (h0 : slR k_history_Call hV v_l_0 l_0) :
    Trip Try.prog 27 [v_l_0].toArray em hV w (fun v => HO.pure (v = .int .i64 r)) := by
  have see : Sees w em hV := ⟨sV, Dj.em_right _⟩
  refine Trip.of (P := Try.prog) (n := ⟨6, []⟩) Try.func27 rfl ⟨rfl, rfl⟩ rfl (St.begin (All.cons (x := slP k_history_Call v_l_0 l_0) h0 (All.nil _))) ?_
  have ho := H
  refine CP.seq ?_
  refine CP.region ?_
  refine SP.val (Val.assign rfl) rfl rfl rfl ?_
  refine SP.nil ?_
  refine QE.then ?_
  refine CP.seq ?_
  refine CP.region ?_
  refine SP.val (Val.move rfl) rfl rfl rfl ?_
  obtain ⟨t2, hc, ho⟩ := bind_some ho
  refine SP.callK see (caps := []) _ fn50 rfl rfl rfl rfl (fun w2 hP hs sub ap => history_kept_history_Call_history_Call_s1.ok l_0 _ _ hc w2 hP sub (ap.get 0 rfl)) (fun vr => ?_)
  refine SP.ex (fun w2 h => St.open h) (fun v3 => ?_)
  refine SP.have (fun w2 h => (St.pand h).1.symm) (fun er => ?_)
  subst er
  refine SP.imp (fun w2 h => St.seps (St.pand h).2) ?_
  clear hc
  refine SP.val (Val.lenW (fun w2 hw => slD.flat (St.own 0 rfl see.sub see.dj hw) (Sub.refl _) (Sub.refl _)) Try.underlying44 rfl) rfl rfl rfl ?_
  refine SP.val (Val.assign rfl) rfl rfl rfl ?_
  refine SP.nil ?_
  refine QE.then ?_
  refine CP.ret ?_
  obtain rfl := Option.some.inj ho
  exact QE.rets (rs := [.tmp 2]) (vs := [.int .i64 (t2.length : Int)]) Try.results27 rfl ⟨RVs.tmp rfl, trivial⟩ (fun w2 h => St.done (fun a b p s => rfl) h)
/-! ### capstan/capstanref30.Pending: function 28 -/
inductive capstanref30_Pending.S where
  | start
  | l1 (x10 : Int) (x11 : Int)

def capstanref30_Pending.j1 (l_0 : (List history_Call)) (x11 : Int) (x18 : Int) : Option (capstanref30_Pending.S ⊕ Int) :=
  some (.inl (.l1 x18 (IntKind.i64.wrap (x11 + 1))))

def capstanref30_Pending.F (l_0 : (List history_Call)) : capstanref30_Pending.S → Option (capstanref30_Pending.S ⊕ Int)
  | .start => some (.inl (.l1 0 0))
  | .l1 x10 x11 => if x11 < (l_0.length : Int) then ((elt l_0 x11).bind fun x15 => if x15.End = 0 then (capstanref30_Pending.j1 l_0 x11 (IntKind.i64.wrap (x10 + 1))) else (capstanref30_Pending.j1 l_0 x11 x10)) else (some (.inr x10))

def capstanref30_Pending.f (l_0 : (List history_Call)) : Option Int := runF (capstanref30_Pending.F l_0) .start
theorem capstanref30_Pending.ok (l_0 : (List history_Call)) (v_l_0 : Value) (r : Int) (H : capstanref30_Pending.f l_0 = some r) (w : World) (hV : Hp) (sV : Sub hV (hp w)) (h0 : slR k_history_Call hV v_l_0 l_0) :
    Trip Try.prog 28 [v_l_0].toArray em hV w (fun v => HO.pure (v = .int .i64 r)) := by
  have see : Sees w em hV := ⟨sV, Dj.em_right _⟩
  refine Trip.of (P := Try.prog) (n := ⟨20, []⟩) Try.func28 rfl ⟨rfl, rfl⟩ rfl (St.begin (All.cons (x := slP k_history_Call v_l_0 l_0) h0 (All.nil _))) ?_
  obtain ⟨n0, hi⟩ := runF_iff.1 H
  obtain ⟨m0, o, hm0, ho, hr⟩ := iter_some hi
  clear hi
  refine CP.seq ?_
  refine CP.region ?_
  refine SP.val (Val.assign rfl) rfl rfl rfl ?_
  refine SP.nil ?_
  refine QE.then ?_
  refine CP.seq ?_
  refine CP.region ?_
  refine SP.val (Val.assign rfl) rfl rfl rfl ?_
  refine SP.nil ?_
  refine QE.then ?_
  refine CP.seq ?_
  refine CP.seq ?_
  refine CP.region ?_
  refine SP.val (Val.assign rfl) rfl rfl rfl ?_
  refine SP.nil ?_
  refine QE.then ?_
  refine CP.block ?_
  obtain rfl := Option.some.inj ho
  refine CP.loop (fun cl1 a w2 => ∃ x10 : Int, ∃ x11 : Int, cl1 ≤ m0 ∧ iter (capstanref30_Pending.F l_0) cl1 (.l1 x10 x11) = some r ∧ Env ⟨20, []⟩ [(0, v_l_0), (3, .int .i64 x10), (4, .int .i64 x11)] a ∧ St w em hV [slP k_history_Call v_l_0 l_0] [] w2) m0 (fun a w2 ha hw => ⟨0, 0, Nat.le_refl _, hr, ha.sub ⟨rfl, rfl, rfl, trivial⟩, hw⟩) ?_
  clear hr
  rintro cl1 a w2 ⟨x10, x11, hc_l1, hi, ha, hw⟩
  obtain ⟨m12, o, hm_m12, ho, hr⟩ := iter_some hi
  refine CP.app ha hw ?_
  clear ha hw a w2 hi
  refine CP.seq ?_
  refine CP.seq ?_
  refine CP.region ?_
  refine SP.val (Val.move rfl) rfl rfl rfl ?_
  refine SP.val (Val.move rfl) rfl rfl rfl ?_
  refine SP.val (Val.lenP see 0 rfl Try.underlying44 rfl) rfl rfl rfl ?_
  refine SP.val (Val.lss rfl rfl) rfl rfl rfl ?_
  refine SP.nil ?_
  refine QE.then ?_
  rcases if_some ho with ⟨hc, ho⟩ | ⟨hc, ho⟩
  · refine CP.condT rfl (decide_eq_true hc) ?_
    refine CP.skip ?_
    refine QE.then ?_
    refine CP.join (fun a w2 => ∃ x18 : Int, ∃ (m19 : Nat) (o : (capstanref30_Pending.S ⊕ Int)), m19 ≤ m12 ∧ capstanref30_Pending.j1 l_0 x11 x18 = some o ∧ next (capstanref30_Pending.F l_0) m19 o = some r ∧ Env ⟨20, []⟩ [(0, v_l_0), (3, .int .i64 x18), (4, .int .i64 x11)] a ∧ St w em hV [slP k_history_Call v_l_0 l_0] [] w2) ?_ ?_
    · rintro a w2 ⟨x18, m19, o, hm_m19, ho, hr, ha, hw⟩
      refine CP.app ha hw ?_
      clear ha hw a w2
      refine CP.region ?_
      refine SP.val (Val.move rfl) rfl rfl rfl ?_
      refine SP.val (Val.add rfl rfl) rfl rfl rfl ?_
      refine SP.val (Val.assign rfl) rfl rfl rfl ?_
      refine SP.nil ?_
      obtain rfl := Option.some.inj ho
      exact QE.lower m19 (by omega) fun a w2 ha hw => ⟨x18, (IntKind.i64.wrap (x11 + 1)), (by omega), hr, ha.sub ⟨rfl, rfl, rfl, trivial⟩, hw⟩
    · refine CP.block ?_
      refine CP.seq ?_
      refine CP.region ?_
      refine SP.val (Val.move rfl) rfl rfl rfl ?_
      refine SP.val (Val.move rfl) rfl rfl rfl ?_
      obtain ⟨x15, hx, ho⟩ := bind_some ho
      have hx := elt_some hx
      refine SP.indexP see 0 rfl Try.underlying44 sz48 hx.1 hx.2 rfl rfl rfl rfl (fun p13 => ?_)
      clear hx
      refine SP.fieldP see 0 rfl Try.underlying48 rfl sz3 k_history_Call.part_End rfl rfl rfl (fun p16 => ?_)
      refine SP.val (Val.loadP1 see 0 rfl (fun _ _ e => e) Try.underlying3 rfl rfl) rfl rfl rfl ?_
      refine SP.val (Val.eql rfl rfl) rfl rfl rfl ?_
      refine SP.nil ?_
      refine QE.then ?_
      rcases if_some ho with ⟨hc, ho⟩ | ⟨hc, ho⟩
      · refine CP.condT rfl (decide_eq_true hc) ?_
        refine CP.region ?_
        refine SP.val (Val.move rfl) rfl rfl rfl ?_
        refine SP.val (Val.add rfl rfl) rfl rfl rfl ?_
        refine SP.val (Val.assign rfl) rfl rfl rfl ?_
        refine SP.nil ?_
        refine QE.blockN ?_
        exact QE.meet fun a w2 ha hw => ⟨(IntKind.i64.wrap (x10 + 1)), m12, _, (by omega), ho, hr, ha.sub ⟨rfl, rfl, rfl, trivial⟩, (St.selP [2] rfl hw)⟩
      · refine CP.condF rfl (decide_eq_false hc) ?_
        refine CP.skip ?_
        refine QE.blockN ?_
        exact QE.meet fun a w2 ha hw => ⟨x10, m12, _, (by omega), ho, hr, ha.sub ⟨rfl, rfl, rfl, trivial⟩, (St.selP [2] rfl hw)⟩
  · refine CP.condF rfl (decide_eq_false hc) ?_
    refine CP.exit ?_
    refine QE.thru (by intro e; cases e) ?_
    refine QE.thru (by intro e; cases e) ?_
    refine QE.blockE ?_
    refine QE.then ?_
    refine CP.seq ?_
    refine CP.region ?_
    refine SP.val (Val.move rfl) rfl rfl rfl ?_
    refine SP.val (Val.assign rfl) rfl rfl rfl ?_
    refine SP.nil ?_
    refine QE.then ?_
    refine CP.ret ?_
    obtain rfl := Option.some.inj ho
    obtain rfl := Option.some.inj hr
    exact QE.rets (rs := [.tmp 2]) (vs := [.int .i64 x10]) Try.results28 rfl ⟨RVs.tmp rfl, trivial⟩ (fun w2 h => St.done (fun a b p s => rfl) h)
/-! ### capstan/history.Width$1: function 51 -/
def history_Width_1_s1.f (c_0 : history_Call) (c0_3 : Int) (c0_4 : Int) (c0_5 : Int) (c0_6 : List api_Value) (c0_8 : List Int) (c0_10 : Bool) (c0_11 : Int) (c0_12 : Int) (c0_13 : Int) (c0_14 : Int) (c0_15 : Int) (c0_16 : Int) (c0_17 : Int) : Option Bool :=
  (if c_0.Start ≤ c0_16 then ((history_Call_pending.f c_0).bind fun t24 => some (t24 || (decide (c_0.End ≥ c0_16)))) else (some false)).bind fun t27 => some t27
theorem history_Width_1_s1.ok (c_0 : history_Call) (c0_3 : Int) (c0_4 : Int) (c0_5 : Int) (c0_6 : List api_Value) (c0_8 : List Int) (c0_10 : Bool) (c0_11 : Int) (c0_12 : Int) (c0_13 : Int) (c0_14 : Int) (c0_15 : Int) (c0_16 : Int) (c0_17 : Int) (v_c_0_Op_Args : Value) (v_c_0_Op_Bytes : Value) (v_c0_6 : Value) (v_c0_8 : Value) (b18 : Nat) (r : Bool) (H : history_Width_1_s1.f c_0 c0_3 c0_4 c0_5 c0_6 c0_8 c0_10 c0_11 c0_12 c0_13 c0_14 c0_15 c0_16 c0_17 = some r) (w : World) (hV : Hp) (sV : Sub hV (hp w)) (h0 : slR k_api_Value hV v_c_0_Op_Args c_0.Op.Args) (h1 : slR (kInt .u8) hV v_c_0_Op_Bytes c_0.Op.Bytes) (h2 : slR k_api_Value hV v_c0_6 c0_6) (h3 : slR (kInt .u8) hV v_c0_8 c0_8) (h4 : (boxP b18 [.int .i64 c0_3, .int .u8 c0_4, .int .i64 c0_5, v_c0_6, v_c0_8, .bool c0_10, .int .i64 c0_11, .int .i64 c0_12, .int .u8 c0_13, .int .i64 c0_14, .int .i64 c0_15, .int .i64 c0_16, .int .i64 c0_17] 48).p hV) :
    Trip Try.prog 51 [.agg #[.int .i64 c_0.Proc, .int .u8 c_0.Op.Kind, .int .i64 c_0.Op.Method, v_c_0_Op_Args, v_c_0_Op_Bytes, .bool c_0.Read, .int .i64 c_0.Reply.Err, .int .i64 c_0.Reply.Out.Trap, .int .u8 c_0.Reply.Out.Result.Kind, .int .i64 c_0.Reply.Out.Result.A, .int .i64 c_0.Reply.Out.Result.B, .int .i64 c_0.Start, .int .i64 c_0.End], .pointer (some ⟨b18, 0, none⟩)].toArray em hV w (fun v => HO.pure (v = .bool r)) := by
  have see : Sees w em hV := ⟨sV, Dj.em_right _⟩
  refine Trip.of (P := Try.prog) (n := ⟨20, []⟩) Try.func51 rfl ⟨rfl, rfl⟩ rfl (St.begin (All.cons (x := slP k_api_Value v_c_0_Op_Args c_0.Op.Args) h0 (All.cons (x := slP (kInt .u8) v_c_0_Op_Bytes c_0.Op.Bytes) h1 (All.cons (x := slP k_api_Value v_c0_6 c0_6) h2 (All.cons (x := slP (kInt .u8) v_c0_8 c0_8) h3 (All.cons (x := boxP b18 [.int .i64 c0_3, .int .u8 c0_4, .int .i64 c0_5, v_c0_6, v_c0_8, .bool c0_10, .int .i64 c0_11, .int .i64 c0_12, .int .u8 c0_13, .int .i64 c0_14, .int .i64 c0_15, .int .i64 c0_16, .int .i64 c0_17] 48) h4 (All.nil _))))))) ?_
  have ho := H
  refine CP.seq ?_
  refine CP.region ?_
  refine SP.box (cs := [.int .i64 c_0.Proc, .int .u8 c_0.Op.Kind, .int .i64 c_0.Op.Method, v_c_0_Op_Args, v_c_0_Op_Bytes, .bool c_0.Read, .int .i64 c_0.Reply.Err, .int .i64 c_0.Reply.Out.Trap, .int .u8 c_0.Reply.Out.Result.Kind, .int .i64 c_0.Reply.Out.Result.A, .int .i64 c_0.Reply.Out.Result.B, .int .i64 c_0.Start, .int .i64 c_0.End]) rfl rfl rfl rfl (fun b20 => ?_)
  refine SP.val (Val.assign rfl) rfl rfl rfl ?_
  refine SP.nil ?_
  refine QE.then ?_
  refine CP.seq ?_
  refine CP.region ?_
  refine SP.val (Val.fieldAddr Try.underlying48 rfl sz3 rfl) rfl rfl rfl ?_
  refine SP.val (Val.load1 0 rfl Try.underlying3 rfl rfl rfl) rfl rfl rfl ?_
  refine SP.val (Val.fieldAddr Try.underlying48 rfl sz3 rfl) rfl rfl rfl ?_
  refine SP.val (Val.loadB1 see 4 rfl Try.underlying3 rfl rfl rfl) rfl rfl rfl ?_
  refine SP.val (Val.leq rfl rfl) rfl rfl rfl ?_
  refine SP.val (Val.move rfl) rfl rfl rfl ?_
  obtain ⟨t27, hg_t27, ho⟩ := bind_some ho
  refine SP.join 10 (fun a w2 => Env ⟨20, []⟩ [(19, .bool t27)] a ∧ St w em hV [slP k_api_Value v_c_0_Op_Args c_0.Op.Args, slP (kInt .u8) v_c_0_Op_Bytes c_0.Op.Bytes, slP k_api_Value v_c0_6 c0_6, slP (kInt .u8) v_c0_8 c0_8, boxP b18 [.int .i64 c0_3, .int .u8 c0_4, .int .i64 c0_5, v_c0_6, v_c0_8, .bool c0_10, .int .i64 c0_11, .int .i64 c0_12, .int .u8 c0_13, .int .i64 c0_14, .int .i64 c0_15, .int .i64 c0_16, .int .i64 c0_17] 48] [boxO b20 [.int .i64 c_0.Proc, .int .u8 c_0.Op.Kind, .int .i64 c_0.Op.Method, v_c_0_Op_Args, v_c_0_Op_Bytes, .bool c_0.Read, .int .i64 c_0.Reply.Err, .int .i64 c_0.Reply.Out.Trap, .int .u8 c_0.Reply.Out.Result.Kind, .int .i64 c_0.Reply.Out.Result.A, .int .i64 c_0.Reply.Out.Result.B, .int .i64 c_0.Start, .int .i64 c_0.End] 48] w2) ?_ ?_
  · rintro a w2 ⟨ha, hw⟩
    refine SP.app ha hw ?_
    clear ha hw a w2 hg_t27
    refine SP.val (Val.assign rfl) rfl rfl rfl ?_
    refine SP.nil ?_
    refine QE.then ?_
    refine CP.ret ?_
    obtain rfl := Option.some.inj ho
    exact QE.rets (rs := [.tmp 3]) (vs := [.bool t27]) Try.results51 rfl ⟨RVs.tmp rfl, trivial⟩ (fun w2 h => St.done (fun a b p s => rfl) h)
  · intro J
    clear ho
    have ho := hg_t27
    clear hg_t27
    rcases if_some ho with ⟨hc, ho⟩ | ⟨hc, ho⟩
    · have hq23 := (decide_eq_true hc)
      refine SP.isT (d := 9) rfl hq23 ?_
      refine SP.val (Val.loadA 0 rfl Try.underlying48 rfl sz48 rfl rfl rfl) rfl rfl rfl ?_
      obtain ⟨t24, hc, ho⟩ := bind_some ho
      refine SP.callV see (caps := []) (.bool t24) fn48 rfl rfl rfl rfl (fun w2 hP hs sub ap => history_Call_pending.ok c_0 _ _ _ hc w2 hP sub (ap.get 0 rfl) (ap.get 1 rfl)) ?_
      clear hc
      refine SP.val (Val.move rfl) rfl rfl rfl ?_
      refine SP.join 6 (fun a w2 => Env ⟨20, []⟩ [(9, .bool true), (18, .bool (t24 || (decide (c_0.End ≥ c0_16))))] a ∧ St w em hV [slP k_api_Value v_c_0_Op_Args c_0.Op.Args, slP (kInt .u8) v_c_0_Op_Bytes c_0.Op.Bytes, slP k_api_Value v_c0_6 c0_6, slP (kInt .u8) v_c0_8 c0_8, boxP b18 [.int .i64 c0_3, .int .u8 c0_4, .int .i64 c0_5, v_c0_6, v_c0_8, .bool c0_10, .int .i64 c0_11, .int .i64 c0_12, .int .u8 c0_13, .int .i64 c0_14, .int .i64 c0_15, .int .i64 c0_16, .int .i64 c0_17] 48] [boxO b20 [.int .i64 c_0.Proc, .int .u8 c_0.Op.Kind, .int .i64 c_0.Op.Method, v_c_0_Op_Args, v_c_0_Op_Bytes, .bool c_0.Read, .int .i64 c_0.Reply.Err, .int .i64 c_0.Reply.Out.Trap, .int .u8 c_0.Reply.Out.Result.Kind, .int .i64 c_0.Reply.Out.Result.A, .int .i64 c_0.Reply.Out.Result.B, .int .i64 c_0.Start, .int .i64 c_0.End] 48] w2) ?_ ?_
      · rintro a w2 ⟨ha, hw⟩
        refine SP.app ha hw ?_
        clear ha hw a w2
        refine SP.val (Val.pickT rfl rfl) rfl rfl rfl ?_
        obtain rfl := Option.some.inj ho
        exact J fun a w2 ha hw => ⟨ha.sub ⟨rfl, trivial⟩, hw⟩
      · intro J
        by_cases hc : t24 = true
        · have hq26 := hc
          refine SP.isT (d := 12) rfl hq26 ?_
          refine SP.not rfl rfl rfl ?_
          refine SP.not rfl rfl rfl ?_
          refine SP.not rfl rfl rfl ?_
          refine SP.not rfl rfl rfl ?_
          refine SP.not rfl rfl rfl ?_
          refine SP.val (Val.pickT rfl rfl) rfl rfl rfl ?_
          exact J fun a w2 ha hw => ⟨ha.sub ⟨rfl, congrArg (fun z => some (Value.bool z)) (or_t hq26), trivial⟩, hw⟩
        · have hq26 := (bf hc)
          refine SP.isF (d := 12) rfl hq26 ?_
          refine SP.val (Val.fieldAddr Try.underlying48 rfl sz3 rfl) rfl rfl rfl ?_
          refine SP.val (Val.load1 0 rfl Try.underlying3 rfl rfl rfl) rfl rfl rfl ?_
          refine SP.val (Val.fieldAddr Try.underlying48 rfl sz3 rfl) rfl rfl rfl ?_
          refine SP.val (Val.loadB1 see 4 rfl Try.underlying3 rfl rfl rfl) rfl rfl rfl ?_
          refine SP.val (Val.geq rfl rfl) rfl rfl rfl ?_
          refine SP.val (Val.pickF rfl rfl) rfl rfl rfl ?_
          exact J fun a w2 ha hw => ⟨ha.sub ⟨rfl, congrArg (fun z => some (Value.bool z)) (or_f hq26 rfl), trivial⟩, hw⟩
    · have hq23 := (decide_eq_false hc)
      refine SP.isF (d := 9) rfl hq23 ?_
      refine SP.not rfl rfl rfl ?_
      refine SP.not rfl rfl rfl ?_
      refine SP.not rfl rfl rfl ?_
      refine SP.not rfl rfl rfl ?_
      refine SP.not rfl rfl rfl ?_
      refine SP.not rfl rfl rfl ?_
      refine SP.not rfl rfl rfl ?_
      refine SP.not rfl rfl rfl ?_
      refine SP.not rfl rfl rfl ?_
      refine SP.val (Val.pickF rfl rfl) rfl rfl rfl ?_
      obtain rfl := Option.some.inj ho
      exact J fun a w2 ha hw => ⟨ha.sub ⟨rfl, trivial⟩, hw⟩
/-! ### capstan/history.Width$2: function 53 -/
inductive history_Width_2_s1.S (S_ : Type) where
  | start
  | l1 (s39 : S_) (x40 : Int)

def history_Width_2_s1.F {S_ : Type} (Y : S_ → history_Call → Option (S_ × Bool)) (y0 : S_) (c0_1 : List history_Call) (c1_5 : Int) (c1_6 : Int) (c1_7 : Int) (c1_8 : List api_Value) (c1_10 : List Int) (c1_12 : Bool) (c1_13 : Int) (c1_14 : Int) (c1_15 : Int) (c1_16 : Int) (c1_17 : Int) (c1_18 : Int) (c1_19 : Int) : history_Width_2_s1.S S_ → Option (history_Width_2_s1.S S_ ⊕ S_)
  | .start => some (.inl (.l1 y0 0))
  | .l1 s39 x40 => if x40 < (c0_1.length : Int) then ((elt c0_1 x40).bind fun x44 => (history_Width_1_s1.f x44 c1_5 c1_6 c1_7 c1_8 c1_10 c1_12 c1_13 c1_14 c1_15 c1_16 c1_17 c1_18 c1_19).bind fun t51 => (if t51 = true then ((Y s39 x44).bind fun y54 => some (!y54.2, y54.1)) else (some (false, s39))).bind fun t55 => if t55.1 = true then (some (.inr t55.2)) else (some (.inl (.l1 t55.2 (IntKind.i64.wrap (x40 + 1)))))) else (some (.inr s39))

def history_Width_2_s1.f {S_ : Type} (Y : S_ → history_Call → Option (S_ × Bool)) (y0 : S_) (c0_1 : List history_Call) (c1_5 : Int) (c1_6 : Int) (c1_7 : Int) (c1_8 : List api_Value) (c1_10 : List Int) (c1_12 : Bool) (c1_13 : Int) (c1_14 : Int) (c1_15 : Int) (c1_16 : Int) (c1_17 : Int) (c1_18 : Int) (c1_19 : Int) : Option S_ := runF (history_Width_2_s1.F Y y0 c0_1 c1_5 c1_6 c1_7 c1_8 c1_10 c1_12 c1_13 c1_14 c1_15 c1_16 c1_17 c1_18 c1_19) .start
theorem history_Width_2_s1.ok {S_ : Type} (Y : S_ → history_Call → Option (S_ × Bool)) (y0 : S_) (c0_1 : List history_Call) (c1_5 : Int) (c1_6 : Int) (c1_7 : Int) (c1_8 : List api_Value) (c1_10 : List Int) (c1_12 : Bool) (c1_13 : Int) (c1_14 : Int) (c1_15 : Int) (c1_16 : Int) (c1_17 : Int) (c1_18 : Int) (c1_19 : Int) (v_c0_1 : Value) (b3 : Nat) (v_c1_8 : Value) (v_c1_10 : Value) (b20 : Nat) (b22 : Nat) (r : S_) (H : history_Width_2_s1.f Y y0 c0_1 c1_5 c1_6 c1_7 c1_8 c1_10 c1_12 c1_13 c1_14 c1_15 c1_16 c1_17 c1_18 c1_19 = some r) (w : World) (hV : Hp) (sV : Sub hV (hp w)) (h0 : slR k_history_Call hV v_c0_1 c0_1) (h1 : (boxP b3 [v_c0_1] 44).p hV) (h2 : slR k_api_Value hV v_c1_8 c1_8) (h3 : slR (kInt .u8) hV v_c1_10 c1_10) (h4 : (boxP b20 [.int .i64 c1_5, .int .u8 c1_6, .int .i64 c1_7, v_c1_8, v_c1_10, .bool c1_12, .int .i64 c1_13, .int .i64 c1_14, .int .u8 c1_15, .int .i64 c1_16, .int .i64 c1_17, .int .i64 c1_18, .int .i64 c1_19] 48).p hV) (h5 : (boxP b22 [.func (.func 51) #[] #[.pointer (some ⟨b20, 0, none⟩)]] 76).p hV) (lY : Nat) (I : S_ → HO) (hA : Hp) (sA : Sub hA (hp w)) (dA : Dj hV hA) (hI : (I y0).p hV hA) (hY : Go.Q.Yields Try.prog lY hV Y I (E1 k_history_Call true)) :
    Trip Try.prog 53 [.func (.yield lY) #[] #[], .pointer (some ⟨b3, 0, none⟩), .pointer (some ⟨b22, 0, none⟩)].toArray hA hV w (fun v => HO.pand (v = .tuple #[]) (HO.seps [I r])) := by
  have see : Sees w hA hV := ⟨sV, dA⟩
  refine Trip.of (P := Try.prog) (n := ⟨22, []⟩) Try.func53 rfl ⟨rfl, rfl⟩ rfl (St.beginA (os := [I y0]) sA (All.cons (x := slP k_history_Call v_c0_1 c0_1) h0 (All.cons (x := boxP b3 [v_c0_1] 44) h1 (All.cons (x := slP k_api_Value v_c1_8 c1_8) h2 (All.cons (x := slP (kInt .u8) v_c1_10 c1_10) h3 (All.cons (x := boxP b20 [.int .i64 c1_5, .int .u8 c1_6, .int .i64 c1_7, v_c1_8, v_c1_10, .bool c1_12, .int .i64 c1_13, .int .i64 c1_14, .int .u8 c1_15, .int .i64 c1_16, .int .i64 c1_17, .int .i64 c1_18, .int .i64 c1_19] 48) h4 (All.cons (x := boxP b22 [.func (.func 51) #[] #[.pointer (some ⟨b20, 0, none⟩)]] 76) h5 (All.nil _))))))) ⟨hA, em, Dj.em_right _, Sub.refl _, Sub.em _, hI, trivial⟩) ?_
  obtain ⟨n0, hi⟩ := runF_iff.1 H
  obtain ⟨m0, o, hm0, ho, hr⟩ := iter_some hi
  clear hi
  refine CP.seq ?_
  refine CP.region ?_
  refine SP.val (Val.loadB1 see 1 rfl Try.underlying44 rfl rfl rfl) rfl rfl rfl ?_
  refine SP.val (Val.lenP see 0 rfl Try.underlying44 rfl) rfl rfl rfl ?_
  refine SP.val (Val.move rfl) rfl rfl rfl ?_
  refine SP.nil ?_
  refine QE.then ?_
  refine CP.block ?_
  obtain rfl := Option.some.inj ho
  refine CP.loop (fun cl1 a w2 => ∃ s39 : S_, ∃ x40 : Int, cl1 ≤ m0 ∧ iter (history_Width_2_s1.F Y y0 c0_1 c1_5 c1_6 c1_7 c1_8 c1_10 c1_12 c1_13 c1_14 c1_15 c1_16 c1_17 c1_18 c1_19) cl1 (.l1 s39 x40) = some r ∧ Env ⟨22, []⟩ [(0, .func (.yield lY) #[] #[]), (2, .pointer (some ⟨b22, 0, none⟩)), (6, v_c0_1), (7, .int .i64 (c0_1.length : Int)), (8, .int .i64 x40)] a ∧ St w hA hV [slP k_history_Call v_c0_1 c0_1, slP k_api_Value v_c1_8 c1_8, slP (kInt .u8) v_c1_10 c1_10, boxP b20 [.int .i64 c1_5, .int .u8 c1_6, .int .i64 c1_7, v_c1_8, v_c1_10, .bool c1_12, .int .i64 c1_13, .int .i64 c1_14, .int .u8 c1_15, .int .i64 c1_16, .int .i64 c1_17, .int .i64 c1_18, .int .i64 c1_19] 48, boxP b22 [.func (.func 51) #[] #[.pointer (some ⟨b20, 0, none⟩)]] 76] [I s39] w2) m0 (fun a w2 ha hw => ⟨y0, 0, Nat.le_refl _, hr, ha.sub ⟨rfl, rfl, rfl, rfl, rfl, trivial⟩, (St.selP [0, 2, 3, 4, 5] rfl hw)⟩) ?_
  clear hr
  rintro cl1 a w2 ⟨s39, x40, hc_l1, hi, ha, hw⟩
  obtain ⟨m41, o, hm_m41, ho, hr⟩ := iter_some hi
  refine CP.app ha hw ?_
  clear ha hw a w2 hi
  refine CP.seq ?_
  refine CP.region ?_
  refine SP.val (Val.lss rfl rfl) rfl rfl rfl ?_
  refine SP.nil ?_
  refine QE.then ?_
  refine CP.seq ?_
  rcases if_some ho with ⟨hc, ho⟩ | ⟨hc, ho⟩
  · refine CP.condT rfl (decide_eq_true hc) ?_
    refine CP.skip ?_
    refine QE.then ?_
    refine CP.seq ?_
    refine CP.block ?_
    refine CP.seq ?_
    refine CP.region ?_
    obtain ⟨x44, hx, ho⟩ := bind_some ho
    have hx := elt_some hx
    refine SP.indexP see 0 rfl Try.underlying44 sz48 hx.1 hx.2 rfl rfl rfl rfl (fun p42 => ?_)
    clear hx
    refine k_history_Call.load see 0 rfl Try.underlying48 rfl sz48 rfl rfl rfl (fun v45 v47 => ?_)
    refine SP.alloc (cs := [.int .i64 0, .int .u8 0, .int .i64 0, (.slice none 0 0), (.slice none 0 0), .bool false, .int .i64 0, .int .i64 0, .int .u8 0, .int .i64 0, .int .i64 0, .int .i64 0, .int .i64 0]) inf48 rfl rfl (fun b49 => ?_)
    refine SP.have (fun w2 hw => slR.shape (St.pers 0 rfl see.sub see.dj hw)) (fun hs_v45 => ?_)
    refine SP.have (fun w2 hw => slR.shape (St.pers 1 rfl see.sub see.dj hw)) (fun hs_v47 => ?_)
    refine SP.store (v := .agg #[.int .i64 x44.Proc, .int .u8 x44.Op.Kind, .int .i64 x44.Op.Method, v45, v47, .bool x44.Read, .int .i64 x44.Reply.Err, .int .i64 x44.Reply.Out.Trap, .int .u8 x44.Reply.Out.Result.Kind, .int .i64 x44.Reply.Out.Result.A, .int .i64 x44.Reply.Out.Result.B, .int .i64 x44.Start, .int .i64 x44.End]) (vs := [.int .i64 x44.Proc, .int .u8 x44.Op.Kind, .int .i64 x44.Op.Method, v45, v47, .bool x44.Read, .int .i64 x44.Reply.Err, .int .i64 x44.Reply.Out.Trap, .int .u8 x44.Reply.Out.Result.Kind, .int .i64 x44.Reply.Out.Result.A, .int .i64 x44.Reply.Out.Result.B, .int .i64 x44.Start, .int .i64 x44.End]) 0 (by rfl) sz48 (by rfl) (by rfl) (by rfl) (by rfl) (one_cons rfl (one_cons rfl (one_cons rfl (one_cons hs_v45 (one_cons hs_v47 (one_cons rfl (one_cons rfl (one_cons rfl (one_cons rfl (one_cons rfl (one_cons rfl (one_cons rfl (one_cons rfl (rfl)))))))))))))) (by rfl) ?_
    refine SP.nil ?_
    refine QE.then ?_
    refine CP.seq ?_
    refine CP.region ?_
    refine SP.val (Val.loadB1 see 7 rfl Try.underlying76 rfl rfl rfl) rfl rfl rfl ?_
    refine SP.val (Val.loadA 0 rfl Try.underlying48 rfl sz48 rfl rfl rfl) rfl rfl rfl ?_
    obtain ⟨t51, hc, ho⟩ := bind_some ho
    refine SP.callV see (caps := [.pointer (some ⟨b20, 0, none⟩)]) (.bool t51) fn51 rfl rfl rfl rfl (fun w2 hP hs sub ap => history_Width_1_s1.ok x44 c1_5 c1_6 c1_7 c1_8 c1_10 c1_12 c1_13 c1_14 c1_15 c1_16 c1_17 c1_18 c1_19 _ _ _ _ _ _ hc w2 hP sub (ap.get 0 rfl) (ap.get 1 rfl) (ap.get 4 rfl) (ap.get 5 rfl) (ap.get 6 rfl)) ?_
    clear hc
    refine SP.val (Val.move rfl) rfl rfl rfl ?_
    obtain ⟨t55, hg_t55, ho⟩ := bind_some ho
    refine SP.join 5 (fun a w2 => Env ⟨22, []⟩ [(0, .func (.yield lY) #[] #[]), (2, .pointer (some ⟨b22, 0, none⟩)), (6, v_c0_1), (7, .int .i64 (c0_1.length : Int)), (8, .int .i64 x40), (20, .bool t55.1)] a ∧ St w hA hV [slP k_api_Value v45 x44.Op.Args, slP (kInt .u8) v47 x44.Op.Bytes, elP k_history_Call p42 x44, slP k_history_Call v_c0_1 c0_1, slP k_api_Value v_c1_8 c1_8, slP (kInt .u8) v_c1_10 c1_10, boxP b20 [.int .i64 c1_5, .int .u8 c1_6, .int .i64 c1_7, v_c1_8, v_c1_10, .bool c1_12, .int .i64 c1_13, .int .i64 c1_14, .int .u8 c1_15, .int .i64 c1_16, .int .i64 c1_17, .int .i64 c1_18, .int .i64 c1_19] 48, boxP b22 [.func (.func 51) #[] #[.pointer (some ⟨b20, 0, none⟩)]] 76] [boxO b49 [.int .i64 x44.Proc, .int .u8 x44.Op.Kind, .int .i64 x44.Op.Method, v45, v47, .bool x44.Read, .int .i64 x44.Reply.Err, .int .i64 x44.Reply.Out.Trap, .int .u8 x44.Reply.Out.Result.Kind, .int .i64 x44.Reply.Out.Result.A, .int .i64 x44.Reply.Out.Result.B, .int .i64 x44.Start, .int .i64 x44.End] 48, I t55.2] w2) ?_ ?_
    · rintro a w2 ⟨ha, hw⟩
      refine SP.app ha hw ?_
      clear ha hw a w2 hg_t55
      refine SP.nil ?_
      refine QE.then ?_
      rcases if_some ho with ⟨hc, ho⟩ | ⟨hc, ho⟩
      · refine CP.condT rfl hc ?_
        refine CP.ret ?_
        refine QE.blockR ?_
        refine QE.thru (by intro e; cases e) ?_
        refine QE.thru (by intro e; cases e) ?_
        refine QE.blockR ?_
        obtain rfl := Option.some.inj ho
        obtain rfl := Option.some.inj hr
        exact QE.rets (rs := []) (vs := []) Try.results53 rfl trivial (fun w2 h => St.done (fun a b p s => ⟨rfl, s⟩) (St.selO [1] rfl rfl h))
      · refine CP.condF rfl (bf hc) ?_
        refine CP.skip ?_
        refine QE.blockN ?_
        refine QE.then ?_
        refine CP.region ?_
        refine SP.val (Val.add rfl rfl) rfl rfl rfl ?_
        refine SP.val (Val.move rfl) rfl rfl rfl ?_
        refine SP.nil ?_
        obtain rfl := Option.some.inj ho
        exact QE.lower m41 (by omega) fun a w2 ha hw => ⟨t55.2, (IntKind.i64.wrap (x40 + 1)), (by omega), hr, ha.sub ⟨rfl, rfl, rfl, rfl, rfl, trivial⟩, (St.selP [3, 4, 5, 6, 7] rfl (St.selO [1] rfl rfl hw))⟩
    · intro J
      clear ho
      have ho := hg_t55
      clear hg_t55
      rcases if_some ho with ⟨hc, ho⟩ | ⟨hc, ho⟩
      · have hq53 := hc
        refine SP.isT (d := 15) rfl hq53 ?_
        refine SP.val (Val.move rfl) rfl rfl rfl ?_
        refine SP.val (Val.loadA 0 rfl Try.underlying48 rfl sz48 rfl rfl rfl) rfl rfl rfl ?_
        refine SP.imp (fun w2 hw => St.selO [1, 0] rfl rfl hw) ?_
        obtain ⟨y54, hc, ho⟩ := bind_some ho
        refine SP.callY see hY (t := y54.1) (b := y54.2) hc rfl rfl rfl rfl (fun hP ap => ⟨_, rfl, ⟨_, ⟨_, _, rfl, ap.get 0 rfl, ap.get 1 rfl⟩, rfl⟩⟩) ?_
        clear hc
        refine SP.val (Val.notB rfl) rfl rfl rfl ?_
        refine SP.val (Val.pickT rfl rfl) rfl rfl rfl ?_
        obtain rfl := Option.some.inj ho
        exact J fun a w2 ha hw => ⟨ha.sub ⟨rfl, rfl, rfl, rfl, rfl, rfl, trivial⟩, (St.selO [1, 0] rfl rfl hw)⟩
      · have hq53 := (bf hc)
        refine SP.isF (d := 15) rfl hq53 ?_
        refine SP.not rfl rfl rfl ?_
        refine SP.not rfl rfl rfl ?_
        refine SP.not rfl rfl rfl ?_
        refine SP.not rfl rfl rfl ?_
        refine SP.val (Val.pickF rfl rfl) rfl rfl rfl ?_
        obtain rfl := Option.some.inj ho
        exact J fun a w2 ha hw => ⟨ha.sub ⟨rfl, rfl, rfl, rfl, rfl, rfl, trivial⟩, hw⟩
  · refine CP.condF rfl (decide_eq_false hc) ?_
    refine CP.exit ?_
    refine QE.thru (by intro e; cases e) ?_
    refine QE.thru (by intro e; cases e) ?_
    refine QE.blockE ?_
    obtain rfl := Option.some.inj ho
    obtain rfl := Option.some.inj hr
    exact QE.over (rs := []) (vs := []) Try.results53 rfl trivial (fun w2 h => St.done (fun a b p s => ⟨rfl, s⟩) (St.selO [0] rfl rfl h))
/-! ### slices.AppendSeq[[]capstan/history.Call,capstan/history.Call]: function 62 -/
def slices_AppendSeq_history_Call_history_Call_s1.y1 (seq_1_1 : List history_Call) (seq_1_5 : Int) (seq_1_6 : Int) (seq_1_7 : Int) (seq_1_8 : List api_Value) (seq_1_10 : List Int) (seq_1_12 : Bool) (seq_1_13 : Int) (seq_1_14 : Int) (seq_1_15 : Int) (seq_1_16 : Int) (seq_1_17 : Int) (seq_1_18 : Int) (seq_1_19 : Int) (l42 : List history_Call) (x44 : history_Call) : Option ((List history_Call) × Bool) :=
  if (l42.length + [x44].length) * 136 ≤ 140737488355328 then (some (l42 ++ [x44], true)) else none

def slices_AppendSeq_history_Call_history_Call_s1.f (seq_1_1 : List history_Call) (seq_1_5 : Int) (seq_1_6 : Int) (seq_1_7 : Int) (seq_1_8 : List api_Value) (seq_1_10 : List Int) (seq_1_12 : Bool) (seq_1_13 : Int) (seq_1_14 : Int) (seq_1_15 : Int) (seq_1_16 : Int) (seq_1_17 : Int) (seq_1_18 : Int) (seq_1_19 : Int) : Option (List history_Call) :=
  (history_Width_2_s1.f (fun s x => slices_AppendSeq_history_Call_history_Call_s1.y1 seq_1_1 seq_1_5 seq_1_6 seq_1_7 seq_1_8 seq_1_10 seq_1_12 seq_1_13 seq_1_14 seq_1_15 seq_1_16 seq_1_17 seq_1_18 seq_1_19 s x) [] seq_1_1 seq_1_5 seq_1_6 seq_1_7 seq_1_8 seq_1_10 seq_1_12 seq_1_13 seq_1_14 seq_1_15 seq_1_16 seq_1_17 seq_1_18 seq_1_19).bind fun l42 => some l42
theorem slices_AppendSeq_history_Call_history_Call_s1.ok (seq_1_1 : List history_Call) (seq_1_5 : Int) (seq_1_6 : Int) (seq_1_7 : Int) (seq_1_8 : List api_Value) (seq_1_10 : List Int) (seq_1_12 : Bool) (seq_1_13 : Int) (seq_1_14 : Int) (seq_1_15 : Int) (seq_1_16 : Int) (seq_1_17 : Int) (seq_1_18 : Int) (seq_1_19 : Int) (v_seq_1_1 : Value) (b3 : Nat) (v_seq_1_8 : Value) (v_seq_1_10 : Value) (b20 : Nat) (b22 : Nat) (r : (List history_Call)) (H : slices_AppendSeq_history_Call_history_Call_s1.f seq_1_1 seq_1_5 seq_1_6 seq_1_7 seq_1_8 seq_1_10 seq_1_12 seq_1_13 seq_1_14 seq_1_15 seq_1_16 seq_1_17 seq_1_18 seq_1_19 = some r) (w : World) (hV : Hp) (sV : Sub hV (hp w)) (h0 : slR k_history_Call hV v_seq_1_1 seq_1_1) (h1 : (boxP b3 [v_seq_1_1] 44).p hV) (h2 : slR k_api_Value hV v_seq_1_8 seq_1_8) (h3 : slR (kInt .u8) hV v_seq_1_10 seq_1_10) (h4 : (boxP b20 [.int .i64 seq_1_5, .int .u8 seq_1_6, .int .i64 seq_1_7, v_seq_1_8, v_seq_1_10, .bool seq_1_12, .int .i64 seq_1_13, .int .i64 seq_1_14, .int .u8 seq_1_15, .int .i64 seq_1_16, .int .i64 seq_1_17, .int .i64 seq_1_18, .int .i64 seq_1_19] 48).p hV) (h5 : (boxP b22 [.func (.func 51) #[] #[.pointer (some ⟨b20, 0, none⟩)]] 76).p hV) :
    Trip Try.prog 62 [(.slice none 0 0), .func (.func 53) #[] #[.pointer (some ⟨b3, 0, none⟩), .pointer (some ⟨b22, 0, none⟩)]].toArray em hV w (fun v => HO.ex fun u0 : Value => HO.pand (v = u0) (HO.seps [slO k_history_Call 48 u0 r])) := by
  have see : Sees w em hV := ⟨sV, Dj.em_right _⟩
  refine Trip.ofM (P := Try.prog) (n := ⟨13, []⟩) Try.func62 rfl ⟨rfl, rfl⟩ rfl (St.begin (All.cons (x := slP k_history_Call v_seq_1_1 seq_1_1) h0 (All.cons (x := boxP b3 [v_seq_1_1] 44) h1 (All.cons (x := slP k_api_Value v_seq_1_8 seq_1_8) h2 (All.cons (x := slP (kInt .u8) v_seq_1_10 seq_1_10) h3 (All.cons (x := boxP b20 [.int .i64 seq_1_5, .int .u8 seq_1_6, .int .i64 seq_1_7, v_seq_1_8, v_seq_1_10, .bool seq_1_12, .int .i64 seq_1_13, .int .i64 seq_1_14, .int .u8 seq_1_15, .int .i64 seq_1_16, .int .i64 seq_1_17, .int .i64 seq_1_18, .int .i64 seq_1_19] 48) h4 (All.cons (x := boxP b22 [.func (.func 51) #[] #[.pointer (some ⟨b20, 0, none⟩)]] 76) h5 (All.nil _)))))))) ?_
  have ho := H
  refine CP.seq ?_
  refine CP.region ?_
  refine SP.box (cs := [(.slice none 0 0)]) rfl rfl rfl rfl (fun b24 => ?_)
  refine SP.val (Val.assign rfl) rfl rfl rfl ?_
  refine SP.nil ?_
  refine QE.then ?_
  refine CP.seq ?_
  refine CP.seq ?_
  refine CP.region ?_
  refine SP.val (Val.move rfl) rfl rfl rfl ?_
  refine SP.nil ?_
  refine QE.then ?_
  refine CP.block ?_
  obtain ⟨l42, hc, ho⟩ := bind_some ho
  refine CP.imp (A' := fun w2 => St w em hV [slP k_history_Call v_seq_1_1 seq_1_1, boxP b3 [v_seq_1_1] 44, slP k_api_Value v_seq_1_8 seq_1_8, slP (kInt .u8) v_seq_1_10 seq_1_10, boxP b20 [.int .i64 seq_1_5, .int .u8 seq_1_6, .int .i64 seq_1_7, v_seq_1_8, v_seq_1_10, .bool seq_1_12, .int .i64 seq_1_13, .int .i64 seq_1_14, .int .u8 seq_1_15, .int .i64 seq_1_16, .int .i64 seq_1_17, .int .i64 seq_1_18, .int .i64 seq_1_19] 48, boxP b22 [.func (.func 51) #[] #[.pointer (some ⟨b20, 0, none⟩)]] 76] [(fun s : (List history_Call) => (fun (l42 : List history_Call) => HO.ex fun v43 : Value => HO.seps [slO k_history_Call 48 v43 l42, boxO b24 [v43] 44]) s) [], marksO []] w2) (fun w2 hw => St.shut (.slice none 0 0) (St.group _ (St.addO (slO.nil k_history_Call 48) hw))) ?_
  refine CP.rangeY see (J := fun s : (List history_Call) => (fun (l42 : List history_Call) => HO.ex fun v43 : Value => HO.seps [slO k_history_Call 48 v43 l42, boxO b24 [v43] 44]) s) (Y := fun s x => slices_AppendSeq_history_Call_history_Call_s1.y1 seq_1_1 seq_1_5 seq_1_6 seq_1_7 seq_1_8 seq_1_10 seq_1_12 seq_1_13 seq_1_14 seq_1_15 seq_1_16 seq_1_17 seq_1_18 seq_1_19 s x) (s0 := []) (sf := l42) (E := (E1 k_history_Call true)) (caps := [.pointer (some ⟨b3, 0, none⟩), .pointer (some ⟨b22, 0, none⟩)]) fn53 rfl (σ1 := [(2, .pointer (some ⟨b24, 0, none⟩))]) ⟨rfl, trivial⟩ rfl (E1.len rfl) (fun lY I w2 hP h1 sub s1 d1 ap hI hY => history_Width_2_s1.ok (fun s x => slices_AppendSeq_history_Call_history_Call_s1.y1 seq_1_1 seq_1_5 seq_1_6 seq_1_7 seq_1_8 seq_1_10 seq_1_12 seq_1_13 seq_1_14 seq_1_15 seq_1_16 seq_1_17 seq_1_18 seq_1_19 s x) [] seq_1_1 seq_1_5 seq_1_6 seq_1_7 seq_1_8 seq_1_10 seq_1_12 seq_1_13 seq_1_14 seq_1_15 seq_1_16 seq_1_17 seq_1_18 seq_1_19 _ _ _ _ _ _ _ hc w2 hP sub (ap.get 0 rfl) (ap.get 1 rfl) (ap.get 2 rfl) (ap.get 3 rfl) (ap.get 4 rfl) (ap.get 5 rfl) lY I h1 s1 d1 hI hY) ?_ (fun D62 => ?_)
  · rintro lY LO hLO l42 x44 t b vals ho w3 hP3 h3 sub3 s3 d3 ap3 hE
    obtain ⟨q45, rfl, cs0, hk0, e0⟩ := hE
    replace e0 : q45 = .agg cs0.toArray := e0
    subst e0
    obtain ⟨v46, v49, rfl, hf48, hf51⟩ := hk0
    have see : Sees w3 h3 hP3 := ⟨sub3, d3⟩
    refine CP.weak (σ' := [(2, .pointer (some ⟨b24, 0, none⟩)), (7, .agg #[.int .i64 x44.Proc, .int .u8 x44.Op.Kind, .int .i64 x44.Op.Method, v46, v49, .bool x44.Read, .int .i64 x44.Reply.Err, .int .i64 x44.Reply.Out.Trap, .int .u8 x44.Reply.Out.Result.Kind, .int .i64 x44.Reply.Out.Result.A, .int .i64 x44.Reply.Out.Result.B, .int .i64 x44.Start, .int .i64 x44.End])]) ⟨rfl, rfl, trivial⟩ (fun _ h => h) ?_
    refine CP.ex (fun w2 h => St.open h) (fun v43 => ?_)
    refine CP.imp (fun w2 h => St.seps h) ?_
    refine CP.imp (fun w2 h => St.seen (z := slP (kInt .u8) v49 x44.Op.Bytes) hf51 h) ?_
    refine CP.imp (fun w2 h => St.seen (z := slP k_api_Value v46 x44.Op.Args) hf48 h) ?_
    refine CP.region ?_
    refine SP.alloc (cs := [.int .i64 0, .int .u8 0, .int .i64 0, (.slice none 0 0), (.slice none 0 0), .bool false, .int .i64 0, .int .i64 0, .int .u8 0, .int .i64 0, .int .i64 0, .int .i64 0, .int .i64 0]) inf48 rfl rfl (fun b52 => ?_)
    refine SP.have (fun w2 hw => slR.shape (St.pers 0 rfl see.sub see.dj hw)) (fun hs_v46 => ?_)
    refine SP.have (fun w2 hw => slR.shape (St.pers 1 rfl see.sub see.dj hw)) (fun hs_v49 => ?_)
    refine SP.store (v := .agg #[.int .i64 x44.Proc, .int .u8 x44.Op.Kind, .int .i64 x44.Op.Method, v46, v49, .bool x44.Read, .int .i64 x44.Reply.Err, .int .i64 x44.Reply.Out.Trap, .int .u8 x44.Reply.Out.Result.Kind, .int .i64 x44.Reply.Out.Result.A, .int .i64 x44.Reply.Out.Result.B, .int .i64 x44.Start, .int .i64 x44.End]) (vs := [.int .i64 x44.Proc, .int .u8 x44.Op.Kind, .int .i64 x44.Op.Method, v46, v49, .bool x44.Read, .int .i64 x44.Reply.Err, .int .i64 x44.Reply.Out.Trap, .int .u8 x44.Reply.Out.Result.Kind, .int .i64 x44.Reply.Out.Result.A, .int .i64 x44.Reply.Out.Result.B, .int .i64 x44.Start, .int .i64 x44.End]) 0 (by rfl) sz48 (by rfl) (by rfl) (by rfl) (by rfl) (one_cons rfl (one_cons rfl (one_cons rfl (one_cons hs_v46 (one_cons hs_v49 (one_cons rfl (one_cons rfl (one_cons rfl (one_cons rfl (one_cons rfl (one_cons rfl (one_cons rfl (one_cons rfl (rfl)))))))))))))) (by rfl) ?_
    refine SP.nil ?_
    refine QE.beginL hLO 3 rfl ?_
    refine CP.block ?_
    refine CP.region ?_
    refine SP.val (Val.load1 2 rfl Try.underlying44 rfl rfl rfl) rfl rfl rfl ?_
    refine SP.val (Val.loadA 0 rfl Try.underlying48 rfl sz48 rfl rfl rfl) rfl rfl rfl ?_
    refine SP.lit (k := k_history_Call) (xs := [x44]) (vs := [.agg #[.int .i64 x44.Proc, .int .u8 x44.Op.Kind, .int .i64 x44.Op.Method, v46, v49, .bool x44.Read, .int .i64 x44.Reply.Err, .int .i64 x44.Reply.Out.Trap, .int .u8 x44.Reply.Out.Result.Kind, .int .i64 x44.Reply.Out.Result.A, .int .i64 x44.Reply.Out.Result.B, .int .i64 x44.Start, .int .i64 x44.End]]) (cells := [.int .i64 x44.Proc, .int .u8 x44.Op.Kind, .int .i64 x44.Op.Method, v46, v49, .bool x44.Read, .int .i64 x44.Reply.Err, .int .i64 x44.Reply.Out.Trap, .int .u8 x44.Reply.Out.Result.Kind, .int .i64 x44.Reply.Out.Result.A, .int .i64 x44.Reply.Out.Result.B, .int .i64 x44.Start, .int .i64 x44.End]) Try.underlying44 inf48 rfl rfl rfl rfl rfl rfl rfl rfl (fun _ ap => ⟨[.int .i64 x44.Proc, .int .u8 x44.Op.Kind, .int .i64 x44.Op.Method, v46, v49, .bool x44.Read, .int .i64 x44.Reply.Err, .int .i64 x44.Reply.Out.Trap, .int .u8 x44.Reply.Out.Result.Kind, .int .i64 x44.Reply.Out.Result.A, .int .i64 x44.Reply.Out.Result.B, .int .i64 x44.Start, .int .i64 x44.End], _, rfl, ⟨_, _, rfl, ap.get 0 rfl, ap.get 1 rfl⟩, rfl⟩) rfl rfl rfl (fun v54 => ?_)
    refine SP.freezeS see 0 rfl ?_
    obtain ⟨hb, ho⟩ := must_some ho
    refine SP.append see 1 rfl 0 rfl Try.underlying44 inf48 rfl rfl hb rfl rfl rfl rfl rfl (fun v56 => ?_)
    clear hb
    refine SP.have (fun w2 hw => slO.shape (St.own 1 rfl see.sub see.dj hw)) (fun hs_v56 => ?_)
    refine SP.store (v := v56) (vs := [v56]) 2 (by rfl) sz44 (by rfl) (by rfl) (by rfl) (one_cells hs_v56) (one_cons hs_v56 (rfl)) (by rfl) ?_
    refine SP.nil ?_
    refine QE.blockN ?_
    obtain ⟨rfl, rfl⟩ := Prod.mk.inj (Option.some.inj ho)
    exact QE.endL hLO 3 rfl fun w2 hw => St.shut v56 (St.group _ (St.selP [] rfl (St.selO [1, 2, 3] rfl rfl hw)))
  refine QE.ex (fun w2 h => St.open h) (fun v43 => ?_)
  refine QE.imp (fun w2 h => St.seps h) ?_
  refine QE.blockN ?_
  refine QE.then ?_
  refine CP.seq ?_
  refine CP.region ?_
  refine SP.val (Val.load1 1 rfl Try.underlying44 rfl rfl rfl) rfl rfl rfl ?_
  refine SP.val (Val.assign rfl) rfl rfl rfl ?_
  refine SP.nil ?_
  refine QE.then ?_
  refine CP.ret ?_
  obtain rfl := Option.some.inj ho
  exact QE.retsM 2 rfl (rs := [.tmp 4]) (vs := [v43]) Try.results62 ⟨RVs.tmp rfl, trivial⟩ (fun w2 h => St.done (fun a b p s => ⟨_, rfl, s⟩) (St.selO [0] rfl rfl h))
/-! ### slices.Collect[capstan/history.Call]: function 52 -/
def slices_Collect_history_Call_s1.f (seq_0_1 : List history_Call) (seq_0_5 : Int) (seq_0_6 : Int) (seq_0_7 : Int) (seq_0_8 : List api_Value) (seq_0_10 : List Int) (seq_0_12 : Bool) (seq_0_13 : Int) (seq_0_14 : Int) (seq_0_15 : Int) (seq_0_16 : Int) (seq_0_17 : Int) (seq_0_18 : Int) (seq_0_19 : Int) : Option (List history_Call) :=
  (slices_AppendSeq_history_Call_history_Call_s1.f seq_0_1 seq_0_5 seq_0_6 seq_0_7 seq_0_8 seq_0_10 seq_0_12 seq_0_13 seq_0_14 seq_0_15 seq_0_16 seq_0_17 seq_0_18 seq_0_19).bind fun t24 => some t24
theorem slices_Collect_history_Call_s1.ok (seq_0_1 : List history_Call) (seq_0_5 : Int) (seq_0_6 : Int) (seq_0_7 : Int) (seq_0_8 : List api_Value) (seq_0_10 : List Int) (seq_0_12 : Bool) (seq_0_13 : Int) (seq_0_14 : Int) (seq_0_15 : Int) (seq_0_16 : Int) (seq_0_17 : Int) (seq_0_18 : Int) (seq_0_19 : Int) (v_seq_0_1 : Value) (b3 : Nat) (v_seq_0_8 : Value) (v_seq_0_10 : Value) (b20 : Nat) (b22 : Nat) (r : (List history_Call)) (H : slices_Collect_history_Call_s1.f seq_0_1 seq_0_5 seq_0_6 seq_0_7 seq_0_8 seq_0_10 seq_0_12 seq_0_13 seq_0_14 seq_0_15 seq_0_16 seq_0_17 seq_0_18 seq_0_19 = some r) (w : World) (hV : Hp) (sV : Sub hV (hp w)) (h0 : slR k_history_Call hV v_seq_0_1 seq_0_1) (h1 : (boxP b3 [v_seq_0_1] 44).p hV) (h2 : slR k_api_Value hV v_seq_0_8 seq_0_8) (h3 : slR (kInt .u8) hV v_seq_0_10 seq_0_10) (h4 : (boxP b20 [.int .i64 seq_0_5, .int .u8 seq_0_6, .int .i64 seq_0_7, v_seq_0_8, v_seq_0_10, .bool seq_0_12, .int .i64 seq_0_13, .int .i64 seq_0_14, .int .u8 seq_0_15, .int .i64 seq_0_16, .int .i64 seq_0_17, .int .i64 seq_0_18, .int .i64 seq_0_19] 48).p hV) (h5 : (boxP b22 [.func (.func 51) #[] #[.pointer (some ⟨b20, 0, none⟩)]] 76).p hV) :
    Trip Try.prog 52 [.func (.func 53) #[] #[.pointer (some ⟨b3, 0, none⟩), .pointer (some ⟨b22, 0, none⟩)]].toArray em hV w (fun v => HO.ex fun u0 : Value => HO.pand (v = u0) (HO.seps [slO k_history_Call 48 u0 r])) := by
  have see : Sees w em hV := ⟨sV, Dj.em_right _⟩
  refine Trip.of (P := Try.prog) (n := ⟨5, []⟩) Try.func52 rfl ⟨rfl, rfl⟩ rfl (St.begin (All.cons (x := slP k_history_Call v_seq_0_1 seq_0_1) h0 (All.cons (x := boxP b3 [v_seq_0_1] 44) h1 (All.cons (x := slP k_api_Value v_seq_0_8 seq_0_8) h2 (All.cons (x := slP (kInt .u8) v_seq_0_10 seq_0_10) h3 (All.cons (x := boxP b20 [.int .i64 seq_0_5, .int .u8 seq_0_6, .int .i64 seq_0_7, v_seq_0_8, v_seq_0_10, .bool seq_0_12, .int .i64 seq_0_13, .int .i64 seq_0_14, .int .u8 seq_0_15, .int .i64 seq_0_16, .int .i64 seq_0_17, .int .i64 seq_0_18, .int .i64 seq_0_19] 48) h4 (All.cons (x := boxP b22 [.func (.func 51) #[] #[.pointer (some ⟨b20, 0, none⟩)]] 76) h5 (All.nil _)))))))) ?_
  have ho := H
  refine CP.seq ?_
  refine CP.region ?_
  refine SP.val (Val.assign rfl) rfl rfl rfl ?_
  refine SP.nil ?_
  refine QE.then ?_
  refine CP.seq ?_
  refine CP.region ?_
  refine SP.val (Val.move rfl) rfl rfl rfl ?_
  obtain ⟨t24, hc, ho⟩ := bind_some ho
  refine SP.callK see (caps := []) _ fn62 rfl rfl rfl rfl (fun w2 hP hs sub ap => slices_AppendSeq_history_Call_history_Call_s1.ok seq_0_1 seq_0_5 seq_0_6 seq_0_7 seq_0_8 seq_0_10 seq_0_12 seq_0_13 seq_0_14 seq_0_15 seq_0_16 seq_0_17 seq_0_18 seq_0_19 _ _ _ _ _ _ _ hc w2 hP sub (ap.get 0 rfl) (ap.get 1 rfl) (ap.get 2 rfl) (ap.get 3 rfl) (ap.get 4 rfl) (ap.get 5 rfl)) (fun vr => ?_)
  refine SP.ex (fun w2 h => St.open h) (fun v25 => ?_)
  refine SP.have (fun w2 h => (St.pand h).1.symm) (fun er => ?_)
  subst er
  refine SP.imp (fun w2 h => St.seps (St.pand h).2) ?_
  clear hc
  refine SP.val (Val.assign rfl) rfl rfl rfl ?_
  refine SP.nil ?_
  refine QE.then ?_
  refine CP.ret ?_
  obtain rfl := Option.some.inj ho
  exact QE.rets (rs := [.tmp 2]) (vs := [v25]) Try.results52 rfl ⟨RVs.tmp rfl, trivial⟩ (fun w2 h => St.done (fun a b p s => ⟨_, rfl, s⟩) (St.selO [0] rfl rfl h))
/-! ### capstan/history.Width: function 29 -/
inductive history_Width.S where
  | start
  | l1 (x40 : Int) (x41 : Int)

def history_Width.F (l_0 : (List history_Call)) : history_Width.S → Option (history_Width.S ⊕ Int)
  | .start => some (.inl (.l1 0 0))
  | .l1 x40 x41 => if x41 < (l_0.length : Int) then ((elt l_0 x41).bind fun x45 => (slices_Collect_history_Call_s1.f l_0 x45.Proc x45.Op.Kind x45.Op.Method x45.Op.Args x45.Op.Bytes x45.Read x45.Reply.Err x45.Reply.Out.Trap x45.Reply.Out.Result.Kind x45.Reply.Out.Result.A x45.Reply.Out.Result.B x45.Start x45.End).bind fun t54 => some (.inl (.l1 (if (t54.length : Int) > x40 then (t54.length : Int) else x40) (IntKind.i64.wrap (x41 + 1))))) else (some (.inr x40))

def history_Width.f (l_0 : (List history_Call)) : Option Int := runF (history_Width.F l_0) .start
theorem history_Width.ok (l_0 : (List history_Call)) (v_l_0 : Value) (r : Int) (H : history_Width.f l_0 = some r) (w : World) (hV : Hp) (sV : Sub hV (hp w)) (h0 : slR k_history_Call hV v_l_0 l_0) :
    Trip Try.prog 29 [v_l_0].toArray em hV w (fun v => HO.pure (v = .int .i64 r)) := by
  have see : Sees w em hV := ⟨sV, Dj.em_right _⟩
  refine Trip.of (P := Try.prog) (n := ⟨21, []⟩) Try.func29 rfl ⟨rfl, rfl⟩ rfl (St.begin (All.cons (x := slP k_history_Call v_l_0 l_0) h0 (All.nil _))) ?_
  obtain ⟨n0, hi⟩ := runF_iff.1 H
  obtain ⟨m0, o, hm0, ho, hr⟩ := iter_some hi
  clear hi
  refine CP.seq ?_
  refine CP.region ?_
  refine SP.have (fun w2 hw => slR.shape (St.pers 0 rfl see.sub see.dj hw)) (fun hs_v_l_0 => ?_)
  refine SP.box (cs := [v_l_0]) rfl rfl rfl (one_cells hs_v_l_0) (fun b2 => ?_)
  refine SP.val (Val.assign rfl) rfl rfl rfl ?_
  refine SP.nil ?_
  refine QE.then ?_
  refine CP.seq ?_
  refine CP.region ?_
  refine SP.val (Val.assign rfl) rfl rfl rfl ?_
  refine SP.nil ?_
  refine QE.then ?_
  refine CP.seq ?_
  refine CP.seq ?_
  refine CP.region ?_
  refine SP.val (Val.load1 0 rfl Try.underlying44 rfl rfl rfl) rfl rfl rfl ?_
  refine SP.val (Val.lenP see 0 rfl Try.underlying44 rfl) rfl rfl rfl ?_
  refine SP.val (Val.move rfl) rfl rfl rfl ?_
  refine SP.nil ?_
  refine QE.then ?_
  refine CP.block ?_
  refine CP.freezeB see 0 rfl ?_
  obtain rfl := Option.some.inj ho
  refine CP.loop (fun cl1 a w2 => ∃ x40 : Int, ∃ x41 : Int, cl1 ≤ m0 ∧ iter (history_Width.F l_0) cl1 (.l1 x40 x41) = some r ∧ Env ⟨21, []⟩ [(1, .pointer (some ⟨b2, 0, none⟩)), (3, .int .i64 x40), (7, v_l_0), (8, .int .i64 (l_0.length : Int)), (9, .int .i64 x41)] a ∧ St w em hV [boxP b2 [v_l_0] 44, slP k_history_Call v_l_0 l_0] [] w2) m0 (fun a w2 ha hw => ⟨0, 0, Nat.le_refl _, hr, ha.sub ⟨rfl, rfl, rfl, rfl, rfl, trivial⟩, hw⟩) ?_
  clear hr
  rintro cl1 a w2 ⟨x40, x41, hc_l1, hi, ha, hw⟩
  obtain ⟨m42, o, hm_m42, ho, hr⟩ := iter_some hi
  refine CP.app ha hw ?_
  clear ha hw a w2 hi
  refine CP.seq ?_
  refine CP.region ?_
  refine SP.val (Val.lss rfl rfl) rfl rfl rfl ?_
  refine SP.nil ?_
  refine QE.then ?_
  refine CP.seq ?_
  rcases if_some ho with ⟨hc, ho⟩ | ⟨hc, ho⟩
  · refine CP.condT rfl (decide_eq_true hc) ?_
    refine CP.skip ?_
    refine QE.then ?_
    refine CP.seq ?_
    refine CP.block ?_
    refine CP.seq ?_
    refine CP.region ?_
    obtain ⟨x45, hx, ho⟩ := bind_some ho
    have hx := elt_some hx
    refine SP.indexP see 1 rfl Try.underlying44 sz48 hx.1 hx.2 rfl rfl rfl rfl (fun p43 => ?_)
    clear hx
    refine k_history_Call.load see 0 rfl Try.underlying48 rfl sz48 rfl rfl rfl (fun v46 v48 => ?_)
    refine SP.alloc (cs := [.int .i64 0, .int .u8 0, .int .i64 0, (.slice none 0 0), (.slice none 0 0), .bool false, .int .i64 0, .int .i64 0, .int .u8 0, .int .i64 0, .int .i64 0, .int .i64 0, .int .i64 0]) inf48 rfl rfl (fun b50 => ?_)
    refine SP.have (fun w2 hw => slR.shape (St.pers 0 rfl see.sub see.dj hw)) (fun hs_v46 => ?_)
    refine SP.have (fun w2 hw => slR.shape (St.pers 1 rfl see.sub see.dj hw)) (fun hs_v48 => ?_)
    refine SP.store (v := .agg #[.int .i64 x45.Proc, .int .u8 x45.Op.Kind, .int .i64 x45.Op.Method, v46, v48, .bool x45.Read, .int .i64 x45.Reply.Err, .int .i64 x45.Reply.Out.Trap, .int .u8 x45.Reply.Out.Result.Kind, .int .i64 x45.Reply.Out.Result.A, .int .i64 x45.Reply.Out.Result.B, .int .i64 x45.Start, .int .i64 x45.End]) (vs := [.int .i64 x45.Proc, .int .u8 x45.Op.Kind, .int .i64 x45.Op.Method, v46, v48, .bool x45.Read, .int .i64 x45.Reply.Err, .int .i64 x45.Reply.Out.Trap, .int .u8 x45.Reply.Out.Result.Kind, .int .i64 x45.Reply.Out.Result.A, .int .i64 x45.Reply.Out.Result.B, .int .i64 x45.Start, .int .i64 x45.End]) 0 (by rfl) sz48 (by rfl) (by rfl) (by rfl) (by rfl) (one_cons rfl (one_cons rfl (one_cons rfl (one_cons hs_v46 (one_cons hs_v48 (one_cons rfl (one_cons rfl (one_cons rfl (one_cons rfl (one_cons rfl (one_cons rfl (one_cons rfl (one_cons rfl (rfl)))))))))))))) (by rfl) ?_
    refine SP.nil ?_
    refine QE.then ?_
    refine CP.seq ?_
    refine CP.region ?_
    refine SP.val (Val.makeFunc (us := []) (vs := [.pointer (some ⟨b50, 0, none⟩)]) rfl rfl) rfl rfl rfl ?_
    refine SP.alloc (cs := [.nilFunc]) inf76 rfl rfl (fun b52 => ?_)
    refine SP.store (v := .func (.func 51) #[] #[.pointer (some ⟨b50, 0, none⟩)]) (vs := [.func (.func 51) #[] #[.pointer (some ⟨b50, 0, none⟩)]]) 0 (by rfl) sz76 (by rfl) (by rfl) (by rfl) (by rfl) (by rfl) (by rfl) ?_
    refine SP.nil ?_
    refine QE.then ?_
    refine CP.region ?_
    refine SP.val (Val.move rfl) rfl rfl rfl ?_
    refine SP.val (Val.makeFunc (us := []) (vs := [.pointer (some ⟨b2, 0, none⟩), .pointer (some ⟨b52, 0, none⟩)]) rfl rfl) rfl rfl rfl ?_
    refine SP.freezeB see 0 rfl ?_
    refine SP.freezeB see 0 rfl ?_
    obtain ⟨t54, hc, ho⟩ := bind_some ho
    refine SP.callK see (caps := []) _ fn52 rfl rfl rfl rfl (fun w2 hP hs sub ap => slices_Collect_history_Call_s1.ok l_0 x45.Proc x45.Op.Kind x45.Op.Method x45.Op.Args x45.Op.Bytes x45.Read x45.Reply.Err x45.Reply.Out.Trap x45.Reply.Out.Result.Kind x45.Reply.Out.Result.A x45.Reply.Out.Result.B x45.Start x45.End _ _ _ _ _ _ _ hc w2 hP sub (ap.get 6 rfl) (ap.get 5 rfl) (ap.get 2 rfl) (ap.get 3 rfl) (ap.get 0 rfl) (ap.get 1 rfl)) (fun vr => ?_)
    refine SP.ex (fun w2 h => St.open h) (fun v57 => ?_)
    refine SP.have (fun w2 h => (St.pand h).1.symm) (fun er => ?_)
    subst er
    refine SP.imp (fun w2 h => St.seps (St.pand h).2) ?_
    clear hc
    refine SP.val (Val.lenW (fun w2 hw => slO.whole (St.own 0 rfl see.sub see.dj hw)) Try.underlying44 rfl) rfl rfl rfl ?_
    refine SP.val (Val.max2 rfl rfl) rfl rfl rfl ?_
    refine SP.val (Val.assign rfl) rfl rfl rfl ?_
    refine SP.nil ?_
    refine QE.blockN ?_
    refine QE.then ?_
    refine CP.region ?_
    refine SP.val (Val.add rfl rfl) rfl rfl rfl ?_
    refine SP.val (Val.move rfl) rfl rfl rfl ?_
    refine SP.nil ?_
    obtain rfl := Option.some.inj ho
    exact QE.lower m42 (by omega) fun a w2 ha hw => ⟨(if (t54.length : Int) > x40 then (t54.length : Int) else x40), (IntKind.i64.wrap (x41 + 1)), (by omega), hr, ha.sub ⟨rfl, rfl, rfl, rfl, rfl, trivial⟩, (St.selP [5, 6] rfl (St.selO [] rfl rfl hw))⟩
  · refine CP.condF rfl (decide_eq_false hc) ?_
    refine CP.exit ?_
    refine QE.thru (by intro e; cases e) ?_
    refine QE.thru (by intro e; cases e) ?_
    refine QE.blockE ?_
    refine QE.then ?_
    refine CP.seq ?_
    refine CP.region ?_
    refine SP.val (Val.move rfl) rfl rfl rfl ?_
    refine SP.val (Val.assign rfl) rfl rfl rfl ?_
    refine SP.nil ?_
    refine QE.then ?_
    refine CP.ret ?_
    obtain rfl := Option.some.inj ho
    obtain rfl := Option.some.inj hr
    exact QE.rets (rs := [.tmp 2]) (vs := [.int .i64 x40]) Try.results29 rfl ⟨RVs.tmp rfl, trivial⟩ (fun w2 h => St.done (fun a b p s => rfl) h)
/-! ### capstan/capstanref30.on: function 54 -/
inductive capstanref30_on.S where
  | start
  | l1 (x26 : Int) (x27 : Int)

def capstanref30_on.j1 (l_0 : (List history_Call)) (time_1 : Int) (x27 : Int) (x50 : Int) : Option (capstanref30_on.S ⊕ Int) :=
  some (.inl (.l1 x50 (IntKind.i64.wrap (x27 + 1))))

def capstanref30_on.F (l_0 : (List history_Call)) (time_1 : Int) : capstanref30_on.S → Option (capstanref30_on.S ⊕ Int)
  | .start => some (.inl (.l1 0 0))
  | .l1 x26 x27 => if x27 < (l_0.length : Int) then ((elt l_0 x27).bind fun x31 => (if x31.Start ≤ time_1 then ((elt l_0 x27).bind fun x38 => (if x38.End = 0 then (some true) else ((elt l_0 x27).bind fun x45 => some (decide (x45.End ≥ time_1)))).bind fun t48 => some t48) else (some false)).bind fun t49 => if t49 = true then (capstanref30_on.j1 l_0 time_1 x27 (IntKind.i64.wrap (x26 + 1))) else (capstanref30_on.j1 l_0 time_1 x27 x26)) else (some (.inr x26))

def capstanref30_on.f (l_0 : (List history_Call)) (time_1 : Int) : Option Int := runF (capstanref30_on.F l_0 time_1) .start
theorem capstanref30_on.ok (l_0 : (List history_Call)) (time_1 : Int) (v_l_0 : Value) (r : Int) (H : capstanref30_on.f l_0 time_1 = some r) (w : World) (hV : Hp) (sV : Sub hV (hp w)) (h0 : slR k_history_Call hV v_l_0 l_0) :
    Trip Try.prog 54 [v_l_0, .int .i64 time_1].toArray em hV w (fun v => HO.pure (v = .int .i64 r)) := by
  have see : Sees w em hV := ⟨sV, Dj.em_right _⟩
  refine Trip.of (P := Try.prog) (n := ⟨40, []⟩) Try.func54 rfl ⟨rfl, rfl⟩ rfl (St.begin (All.cons (x := slP k_history_Call v_l_0 l_0) h0 (All.nil _))) ?_
  obtain ⟨n0, hi⟩ := runF_iff.1 H
  obtain ⟨m0, o, hm0, ho, hr⟩ := iter_some hi
  clear hi
  refine CP.seq ?_
  refine CP.region ?_
  refine SP.val (Val.assign rfl) rfl rfl rfl ?_
  refine SP.nil ?_
  refine QE.then ?_
  refine CP.seq ?_
  refine CP.region ?_
  refine SP.val (Val.assign rfl) rfl rfl rfl ?_
  refine SP.nil ?_
  refine QE.then ?_
  refine CP.seq ?_
  refine CP.seq ?_
  refine CP.region ?_
  refine SP.val (Val.assign rfl) rfl rfl rfl ?_
  refine SP.nil ?_
  refine QE.then ?_
  refine CP.block ?_
  obtain rfl := Option.some.inj ho
  refine CP.loop (fun cl1 a w2 => ∃ x26 : Int, ∃ x27 : Int, cl1 ≤ m0 ∧ iter (capstanref30_on.F l_0 time_1) cl1 (.l1 x26 x27) = some r ∧ Env ⟨40, []⟩ [(0, v_l_0), (1, .int .i64 time_1), (5, .int .i64 x26), (6, .int .i64 x27)] a ∧ St w em hV [slP k_history_Call v_l_0 l_0] [] w2) m0 (fun a w2 ha hw => ⟨0, 0, Nat.le_refl _, hr, ha.sub ⟨rfl, rfl, rfl, rfl, trivial⟩, hw⟩) ?_
  clear hr
  rintro cl1 a w2 ⟨x26, x27, hc_l1, hi, ha, hw⟩
  obtain ⟨m28, o, hm_m28, ho, hr⟩ := iter_some hi
  refine CP.app ha hw ?_
  clear ha hw a w2 hi
  refine CP.seq ?_
  refine CP.seq ?_
  refine CP.region ?_
  refine SP.val (Val.move rfl) rfl rfl rfl ?_
  refine SP.val (Val.move rfl) rfl rfl rfl ?_
  refine SP.val (Val.lenP see 0 rfl Try.underlying44 rfl) rfl rfl rfl ?_
  refine SP.val (Val.lss rfl rfl) rfl rfl rfl ?_
  refine SP.nil ?_
  refine QE.then ?_
  rcases if_some ho with ⟨hc, ho⟩ | ⟨hc, ho⟩
  · refine CP.condT rfl (decide_eq_true hc) ?_
    refine CP.skip ?_
    refine QE.then ?_
    refine CP.join (fun a w2 => ∃ x50 : Int, ∃ (m51 : Nat) (o : (capstanref30_on.S ⊕ Int)), m51 ≤ m28 ∧ capstanref30_on.j1 l_0 time_1 x27 x50 = some o ∧ next (capstanref30_on.F l_0 time_1) m51 o = some r ∧ Env ⟨40, []⟩ [(0, v_l_0), (1, .int .i64 time_1), (5, .int .i64 x50), (6, .int .i64 x27)] a ∧ St w em hV [slP k_history_Call v_l_0 l_0] [] w2) ?_ ?_
    · rintro a w2 ⟨x50, m51, o, hm_m51, ho, hr, ha, hw⟩
      refine CP.app ha hw ?_
      clear ha hw a w2
      refine CP.region ?_
      refine SP.val (Val.move rfl) rfl rfl rfl ?_
      refine SP.val (Val.add rfl rfl) rfl rfl rfl ?_
      refine SP.val (Val.assign rfl) rfl rfl rfl ?_
      refine SP.nil ?_
      obtain rfl := Option.some.inj ho
      exact QE.lower m51 (by omega) fun a w2 ha hw => ⟨x50, (IntKind.i64.wrap (x27 + 1)), (by omega), hr, ha.sub ⟨rfl, rfl, rfl, rfl, trivial⟩, hw⟩
    · refine CP.block ?_
      refine CP.seq ?_
      refine CP.region ?_
      refine SP.val (Val.move rfl) rfl rfl rfl ?_
      refine SP.val (Val.move rfl) rfl rfl rfl ?_
      obtain ⟨x31, hx, ho⟩ := bind_some ho
      have hx := elt_some hx
      refine SP.indexP see 0 rfl Try.underlying44 sz48 hx.1 hx.2 rfl rfl rfl rfl (fun p29 => ?_)
      clear hx
      refine SP.fieldP see 0 rfl Try.underlying48 rfl sz3 k_history_Call.part_Start rfl rfl rfl (fun p32 => ?_)
      refine SP.val (Val.loadP1 see 0 rfl (fun _ _ e => e) Try.underlying3 rfl rfl) rfl rfl rfl ?_
      refine SP.val (Val.move rfl) rfl rfl rfl ?_
      refine SP.val (Val.leq rfl rfl) rfl rfl rfl ?_
      refine SP.val (Val.move rfl) rfl rfl rfl ?_
      obtain ⟨t49, hg_t49, ho⟩ := bind_some ho
      refine SP.join 16 (fun a w2 => Env ⟨40, []⟩ [(0, v_l_0), (1, .int .i64 time_1), (5, .int .i64 x26), (6, .int .i64 x27), (36, .bool t49)] a ∧ St w em hV [elP (kInt .i64) p32 x31.Start, elP k_history_Call p29 x31, slP k_history_Call v_l_0 l_0] [] w2) ?_ ?_
      · rintro a w2 ⟨ha, hw⟩
        refine SP.app ha hw ?_
        clear ha hw a w2 hg_t49
        refine SP.nil ?_
        refine QE.then ?_
        rcases if_some ho with ⟨hc, ho⟩ | ⟨hc, ho⟩
        · refine CP.condT rfl hc ?_
          refine CP.region ?_
          refine SP.val (Val.move rfl) rfl rfl rfl ?_
          refine SP.val (Val.add rfl rfl) rfl rfl rfl ?_
          refine SP.val (Val.assign rfl) rfl rfl rfl ?_
          refine SP.nil ?_
          refine QE.blockN ?_
          exact QE.meet fun a w2 ha hw => ⟨(IntKind.i64.wrap (x26 + 1)), m28, _, (by omega), ho, hr, ha.sub ⟨rfl, rfl, rfl, rfl, trivial⟩, (St.selP [2] rfl hw)⟩
        · refine CP.condF rfl (bf hc) ?_
          refine CP.skip ?_
          refine QE.blockN ?_
          exact QE.meet fun a w2 ha hw => ⟨x26, m28, _, (by omega), ho, hr, ha.sub ⟨rfl, rfl, rfl, rfl, trivial⟩, (St.selP [2] rfl hw)⟩
      · intro J
        clear ho
        have ho := hg_t49
        clear hg_t49
        rcases if_some ho with ⟨hc, ho⟩ | ⟨hc, ho⟩
        · have hq35 := (decide_eq_true hc)
          refine SP.isT (d := 20) rfl hq35 ?_
          refine SP.val (Val.move rfl) rfl rfl rfl ?_
          refine SP.val (Val.move rfl) rfl rfl rfl ?_
          obtain ⟨x38, hx, ho⟩ := bind_some ho
          have hx := elt_some hx
          refine SP.indexP see 2 rfl Try.underlying44 sz48 hx.1 hx.2 rfl rfl rfl rfl (fun p36 => ?_)
          clear hx
          refine SP.fieldP see 0 rfl Try.underlying48 rfl sz3 k_history_Call.part_End rfl rfl rfl (fun p39 => ?_)
          refine SP.val (Val.loadP1 see 0 rfl (fun _ _ e => e) Try.underlying3 rfl rfl) rfl rfl rfl ?_
          refine SP.val (Val.eql rfl rfl) rfl rfl rfl ?_
          refine SP.val (Val.move rfl) rfl rfl rfl ?_
          obtain ⟨t48, hg_t48, ho⟩ := bind_some ho
          refine SP.join 8 (fun a w2 => Env ⟨40, []⟩ [(0, v_l_0), (1, .int .i64 time_1), (5, .int .i64 x26), (6, .int .i64 x27), (20, .bool true), (21, v_l_0), (22, .int .i64 x27), (23, p36), (24, p39), (25, .int .i64 x38.End), (26, .bool (decide (x38.End = 0))), (27, .bool (decide (x38.End = 0))), (35, .bool t48)] a ∧ St w em hV [elP (kInt .i64) p39 x38.End, elP k_history_Call p36 x38, elP (kInt .i64) p32 x31.Start, elP k_history_Call p29 x31, slP k_history_Call v_l_0 l_0] [] w2) ?_ ?_
          · rintro a w2 ⟨ha, hw⟩
            refine SP.app ha hw ?_
            clear ha hw a w2 hg_t48
            refine SP.val (Val.pickT rfl rfl) rfl rfl rfl ?_
            obtain rfl := Option.some.inj ho
            exact J fun a w2 ha hw => ⟨ha.sub ⟨rfl, rfl, rfl, rfl, rfl, trivial⟩, (St.selP [2, 3, 4] rfl hw)⟩
          · intro J
            clear ho
            have ho := hg_t48
            clear hg_t48
            rcases if_some ho with ⟨hc, ho⟩ | ⟨hc, ho⟩
            · have hq42 := (decide_eq_true hc)
              refine SP.isT (d := 27) rfl hq42 ?_
              refine SP.not rfl rfl rfl ?_
              refine SP.not rfl rfl rfl ?_
              refine SP.not rfl rfl rfl ?_
              refine SP.not rfl rfl rfl ?_
              refine SP.not rfl rfl rfl ?_
              refine SP.not rfl rfl rfl ?_
              refine SP.not rfl rfl rfl ?_
              refine SP.val (Val.pickT rfl rfl) rfl rfl rfl ?_
              obtain rfl := Option.some.inj ho
              exact J fun a w2 ha hw => ⟨ha.sub ⟨rfl, rfl, rfl, rfl, rfl, rfl, rfl, rfl, rfl, rfl, rfl, congrArg (fun z => some (Value.bool z)) hq42.symm, rfl, trivial⟩, hw⟩
            · have hq42 := (decide_eq_false hc)
              refine SP.isF (d := 27) rfl hq42 ?_
              refine SP.val (Val.move rfl) rfl rfl rfl ?_
              refine SP.val (Val.move rfl) rfl rfl rfl ?_
              obtain ⟨x45, hx, ho⟩ := bind_some ho
              have hx := elt_some hx
              refine SP.indexP see 4 rfl Try.underlying44 sz48 hx.1 hx.2 rfl rfl rfl rfl (fun p43 => ?_)
              clear hx
              refine SP.fieldP see 0 rfl Try.underlying48 rfl sz3 k_history_Call.part_End rfl rfl rfl (fun p46 => ?_)
              refine SP.val (Val.loadP1 see 0 rfl (fun _ _ e => e) Try.underlying3 rfl rfl) rfl rfl rfl ?_
              refine SP.val (Val.move rfl) rfl rfl rfl ?_
              refine SP.val (Val.geq rfl rfl) rfl rfl rfl ?_
              refine SP.val (Val.pickF rfl rfl) rfl rfl rfl ?_
              obtain rfl := Option.some.inj ho
              exact J fun a w2 ha hw => ⟨ha.sub ⟨rfl, rfl, rfl, rfl, rfl, rfl, rfl, rfl, rfl, rfl, rfl, congrArg (fun z => some (Value.bool z)) hq42.symm, rfl, trivial⟩, (St.selP [2, 3, 4, 5, 6] rfl hw)⟩
        · have hq35 := (decide_eq_false hc)
          refine SP.isF (d := 20) rfl hq35 ?_
          refine SP.not rfl rfl rfl ?_
          refine SP.not rfl rfl rfl ?_
          refine SP.not rfl rfl rfl ?_
          refine SP.not rfl rfl rfl ?_
          refine SP.not rfl rfl rfl ?_
          refine SP.not rfl rfl rfl ?_
          refine SP.not rfl rfl rfl ?_
          refine SP.not rfl rfl rfl ?_
          refine SP.not rfl rfl rfl ?_
          refine SP.not rfl rfl rfl ?_
          refine SP.not rfl rfl rfl ?_
          refine SP.not rfl rfl rfl ?_
          refine SP.not rfl rfl rfl ?_
          refine SP.not rfl rfl rfl ?_
          refine SP.not rfl rfl rfl ?_
          refine SP.val (Val.pickF rfl rfl) rfl rfl rfl ?_
          obtain rfl := Option.some.inj ho
          exact J fun a w2 ha hw => ⟨ha.sub ⟨rfl, rfl, rfl, rfl, rfl, trivial⟩, hw⟩
  · refine CP.condF rfl (decide_eq_false hc) ?_
    refine CP.exit ?_
    refine QE.thru (by intro e; cases e) ?_
    refine QE.thru (by intro e; cases e) ?_
    refine QE.blockE ?_
    refine QE.then ?_
    refine CP.seq ?_
    refine CP.region ?_
    refine SP.val (Val.move rfl) rfl rfl rfl ?_
    refine SP.val (Val.assign rfl) rfl rfl rfl ?_
    refine SP.nil ?_
    refine QE.then ?_
    refine CP.ret ?_
    obtain rfl := Option.some.inj ho
    obtain rfl := Option.some.inj hr
    exact QE.rets (rs := [.tmp 4]) (vs := [.int .i64 x26]) Try.results54 rfl ⟨RVs.tmp rfl, trivial⟩ (fun w2 h => St.done (fun a b p s => rfl) h)
/-! ### capstan/capstanref30.Width: function 30 -/
inductive capstanref30_Width.S where
  | start
  | l1 (x9 : Int) (x10 : Int)

def capstanref30_Width.F (l_0 : (List history_Call)) : capstanref30_Width.S → Option (capstanref30_Width.S ⊕ Int)
  | .start => some (.inl (.l1 0 0))
  | .l1 x9 x10 => if x10 < (l_0.length : Int) then ((elt l_0 x10).bind fun x14 => (capstanref30_on.f l_0 x14.Start).bind fun t17 => some (.inl (.l1 (if t17 > x9 then t17 else x9) (IntKind.i64.wrap (x10 + 1))))) else (some (.inr x9))

def capstanref30_Width.f (l_0 : (List history_Call)) : Option Int := runF (capstanref30_Width.F l_0) .start
theorem capstanref30_Width.ok (l_0 : (List history_Call)) (v_l_0 : Value) (r : Int) (H : capstanref30_Width.f l_0 = some r) (w : World) (hV : Hp) (sV : Sub hV (hp w)) (h0 : slR k_history_Call hV v_l_0 l_0) :
    Trip Try.prog 30 [v_l_0].toArray em hV w (fun v => HO.pure (v = .int .i64 r)) := by
  have see : Sees w em hV := ⟨sV, Dj.em_right _⟩
  refine Trip.of (P := Try.prog) (n := ⟨21, []⟩) Try.func30 rfl ⟨rfl, rfl⟩ rfl (St.begin (All.cons (x := slP k_history_Call v_l_0 l_0) h0 (All.nil _))) ?_
  obtain ⟨n0, hi⟩ := runF_iff.1 H
  obtain ⟨m0, o, hm0, ho, hr⟩ := iter_some hi
  clear hi
  refine CP.seq ?_
  refine CP.region ?_
  refine SP.val (Val.assign rfl) rfl rfl rfl ?_
  refine SP.nil ?_
  refine QE.then ?_
  refine CP.seq ?_
  refine CP.region ?_
  refine SP.val (Val.assign rfl) rfl rfl rfl ?_
  refine SP.nil ?_
  refine QE.then ?_
  refine CP.seq ?_
  refine CP.seq ?_
  refine CP.region ?_
  refine SP.val (Val.assign rfl) rfl rfl rfl ?_
  refine SP.nil ?_
  refine QE.then ?_
  refine CP.block ?_
  obtain rfl := Option.some.inj ho
  refine CP.loop (fun cl1 a w2 => ∃ x9 : Int, ∃ x10 : Int, cl1 ≤ m0 ∧ iter (capstanref30_Width.F l_0) cl1 (.l1 x9 x10) = some r ∧ Env ⟨21, []⟩ [(0, v_l_0), (3, .int .i64 x9), (4, .int .i64 x10)] a ∧ St w em hV [slP k_history_Call v_l_0 l_0] [] w2) m0 (fun a w2 ha hw => ⟨0, 0, Nat.le_refl _, hr, ha.sub ⟨rfl, rfl, rfl, trivial⟩, hw⟩) ?_
  clear hr
  rintro cl1 a w2 ⟨x9, x10, hc_l1, hi, ha, hw⟩
  obtain ⟨m11, o, hm_m11, ho, hr⟩ := iter_some hi
  refine CP.app ha hw ?_
  clear ha hw a w2 hi
  refine CP.seq ?_
  refine CP.seq ?_
  refine CP.region ?_
  refine SP.val (Val.move rfl) rfl rfl rfl ?_
  refine SP.val (Val.move rfl) rfl rfl rfl ?_
  refine SP.val (Val.lenP see 0 rfl Try.underlying44 rfl) rfl rfl rfl ?_
  refine SP.val (Val.lss rfl rfl) rfl rfl rfl ?_
  refine SP.nil ?_
  refine QE.then ?_
  rcases if_some ho with ⟨hc, ho⟩ | ⟨hc, ho⟩
  · refine CP.condT rfl (decide_eq_true hc) ?_
    refine CP.skip ?_
    refine QE.then ?_
    refine CP.seq ?_
    refine CP.block ?_
    refine CP.region ?_
    refine SP.val (Val.move rfl) rfl rfl rfl ?_
    refine SP.val (Val.move rfl) rfl rfl rfl ?_
    refine SP.val (Val.move rfl) rfl rfl rfl ?_
    refine SP.val (Val.move rfl) rfl rfl rfl ?_
    obtain ⟨x14, hx, ho⟩ := bind_some ho
    have hx := elt_some hx
    refine SP.indexP see 0 rfl Try.underlying44 sz48 hx.1 hx.2 rfl rfl rfl rfl (fun p12 => ?_)
    clear hx
    refine SP.fieldP see 0 rfl Try.underlying48 rfl sz3 k_history_Call.part_Start rfl rfl rfl (fun p15 => ?_)
    refine SP.val (Val.loadP1 see 0 rfl (fun _ _ e => e) Try.underlying3 rfl rfl) rfl rfl rfl ?_
    obtain ⟨t17, hc, ho⟩ := bind_some ho
    refine SP.callV see (caps := []) (.int .i64 t17) fn54 rfl rfl rfl rfl (fun w2 hP hs sub ap => capstanref30_on.ok l_0 x14.Start _ _ hc w2 hP sub (ap.get 2 rfl)) ?_
    clear hc
    refine SP.val (Val.max2 rfl rfl) rfl rfl rfl ?_
    refine SP.val (Val.assign rfl) rfl rfl rfl ?_
    refine SP.nil ?_
    refine QE.blockN ?_
    refine QE.then ?_
    refine CP.region ?_
    refine SP.val (Val.move rfl) rfl rfl rfl ?_
    refine SP.val (Val.add rfl rfl) rfl rfl rfl ?_
    refine SP.val (Val.assign rfl) rfl rfl rfl ?_
    refine SP.nil ?_
    obtain rfl := Option.some.inj ho
    exact QE.lower m11 (by omega) fun a w2 ha hw => ⟨(if t17 > x9 then t17 else x9), (IntKind.i64.wrap (x10 + 1)), (by omega), hr, ha.sub ⟨rfl, rfl, rfl, trivial⟩, (St.selP [2] rfl hw)⟩
  · refine CP.condF rfl (decide_eq_false hc) ?_
    refine CP.exit ?_
    refine QE.thru (by intro e; cases e) ?_
    refine QE.thru (by intro e; cases e) ?_
    refine QE.blockE ?_
    refine QE.then ?_
    refine CP.seq ?_
    refine CP.region ?_
    refine SP.val (Val.move rfl) rfl rfl rfl ?_
    refine SP.val (Val.assign rfl) rfl rfl rfl ?_
    refine SP.nil ?_
    refine QE.then ?_
    refine CP.ret ?_
    obtain rfl := Option.some.inj ho
    obtain rfl := Option.some.inj hr
    exact QE.rets (rs := [.tmp 2]) (vs := [.int .i64 x9]) Try.results30 rfl ⟨RVs.tmp rfl, trivial⟩ (fun w2 h => St.done (fun a b p s => rfl) h)
/-! ### capstan/history.Nothing: function 31 -/
def history_Nothing.f (c_0 : history_Call) : Option Bool :=
  if c_0.Read = true then ((history_Call_pending.f c_0).bind fun t5 => some t5) else (some (decide (c_0.Reply.Err = 4)))
theorem history_Nothing.ok (c_0 : history_Call) (v_c_0_Op_Args : Value) (v_c_0_Op_Bytes : Value) (r : Bool) (H : history_Nothing.f c_0 = some r) (w : World) (hV : Hp) (sV : Sub hV (hp w)) (h0 : slR k_api_Value hV v_c_0_Op_Args c_0.Op.Args) (h1 : slR (kInt .u8) hV v_c_0_Op_Bytes c_0.Op.Bytes) :
    Trip Try.prog 31 [.agg #[.int .i64 c_0.Proc, .int .u8 c_0.Op.Kind, .int .i64 c_0.Op.Method, v_c_0_Op_Args, v_c_0_Op_Bytes, .bool c_0.Read, .int .i64 c_0.Reply.Err, .int .i64 c_0.Reply.Out.Trap, .int .u8 c_0.Reply.Out.Result.Kind, .int .i64 c_0.Reply.Out.Result.A, .int .i64 c_0.Reply.Out.Result.B, .int .i64 c_0.Start, .int .i64 c_0.End]].toArray em hV w (fun v => HO.pure (v = .bool r)) := by
  have see : Sees w em hV := ⟨sV, Dj.em_right _⟩
  refine Trip.of (P := Try.prog) (n := ⟨11, []⟩) Try.func31 rfl ⟨rfl, rfl⟩ rfl (St.begin (All.cons (x := slP k_api_Value v_c_0_Op_Args c_0.Op.Args) h0 (All.cons (x := slP (kInt .u8) v_c_0_Op_Bytes c_0.Op.Bytes) h1 (All.nil _)))) ?_
  have ho := H
  refine CP.seq ?_
  refine CP.region ?_
  refine SP.box (cs := [.int .i64 c_0.Proc, .int .u8 c_0.Op.Kind, .int .i64 c_0.Op.Method, v_c_0_Op_Args, v_c_0_Op_Bytes, .bool c_0.Read, .int .i64 c_0.Reply.Err, .int .i64 c_0.Reply.Out.Trap, .int .u8 c_0.Reply.Out.Result.Kind, .int .i64 c_0.Reply.Out.Result.A, .int .i64 c_0.Reply.Out.Result.B, .int .i64 c_0.Start, .int .i64 c_0.End]) rfl rfl rfl rfl (fun b3 => ?_)
  refine SP.val (Val.assign rfl) rfl rfl rfl ?_
  refine SP.nil ?_
  refine QE.then ?_
  refine CP.seq ?_
  refine CP.seq ?_
  refine CP.region ?_
  refine SP.val (Val.fieldAddr Try.underlying48 rfl sz4 rfl) rfl rfl rfl ?_
  refine SP.val (Val.load1 0 rfl Try.underlying4 rfl rfl rfl) rfl rfl rfl ?_
  refine SP.nil ?_
  refine QE.then ?_
  rcases if_some ho with ⟨hc, ho⟩ | ⟨hc, ho⟩
  · refine CP.condT rfl hc ?_
    refine CP.seq ?_
    refine CP.region ?_
    refine SP.val (Val.loadA 0 rfl Try.underlying48 rfl sz48 rfl rfl rfl) rfl rfl rfl ?_
    obtain ⟨t5, hc, ho⟩ := bind_some ho
    refine SP.callV see (caps := []) (.bool t5) fn48 rfl rfl rfl rfl (fun w2 hP hs sub ap => history_Call_pending.ok c_0 _ _ _ hc w2 hP sub (ap.get 0 rfl) (ap.get 1 rfl)) ?_
    clear hc
    refine SP.val (Val.assign rfl) rfl rfl rfl ?_
    refine SP.nil ?_
    refine QE.then ?_
    refine CP.ret ?_
    refine QE.thru (by intro e; cases e) ?_
    obtain rfl := Option.some.inj ho
    exact QE.rets (rs := [.tmp 2]) (vs := [.bool t5]) Try.results31 rfl ⟨RVs.tmp rfl, trivial⟩ (fun w2 h => St.done (fun a b p s => rfl) h)
  · refine CP.condF rfl (bf hc) ?_
    refine CP.skip ?_
    refine QE.then ?_
    refine CP.seq ?_
    refine CP.region ?_
    refine SP.val (Val.fieldAddr Try.underlying48 rfl sz41 rfl) rfl rfl rfl ?_
    refine SP.val (Val.fieldAddr Try.underlying41 rfl sz35 rfl) rfl rfl rfl ?_
    refine SP.val (Val.load1 0 rfl Try.underlying35 rfl rfl rfl) rfl rfl rfl ?_
    refine SP.val (Val.eql rfl rfl) rfl rfl rfl ?_
    refine SP.val (Val.assign rfl) rfl rfl rfl ?_
    refine SP.nil ?_
    refine QE.then ?_
    refine CP.ret ?_
    obtain rfl := Option.some.inj ho
    exact QE.rets (rs := [.tmp 2]) (vs := [.bool (decide (c_0.Reply.Err = 4))]) Try.results31 rfl ⟨RVs.tmp rfl, trivial⟩ (fun w2 h => St.done (fun a b p s => rfl) h)
/-! ### capstan/capstanref30.Nothing: function 32 -/
def capstanref30_Nothing.f (c_0 : history_Call) : Option Bool :=
  some (((!c_0.Read) && (decide (c_0.Reply.Err = 4))) || (c_0.Read && (decide (c_0.End = 0))))
theorem capstanref30_Nothing.ok (c_0 : history_Call) (v_c_0_Op_Args : Value) (v_c_0_Op_Bytes : Value) (r : Bool) (H : capstanref30_Nothing.f c_0 = some r) (w : World) (hV : Hp) (sV : Sub hV (hp w)) (h0 : slR k_api_Value hV v_c_0_Op_Args c_0.Op.Args) (h1 : slR (kInt .u8) hV v_c_0_Op_Bytes c_0.Op.Bytes) :
    Trip Try.prog 32 [.agg #[.int .i64 c_0.Proc, .int .u8 c_0.Op.Kind, .int .i64 c_0.Op.Method, v_c_0_Op_Args, v_c_0_Op_Bytes, .bool c_0.Read, .int .i64 c_0.Reply.Err, .int .i64 c_0.Reply.Out.Trap, .int .u8 c_0.Reply.Out.Result.Kind, .int .i64 c_0.Reply.Out.Result.A, .int .i64 c_0.Reply.Out.Result.B, .int .i64 c_0.Start, .int .i64 c_0.End]].toArray em hV w (fun v => HO.pure (v = .bool r)) := by
  have see : Sees w em hV := ⟨sV, Dj.em_right _⟩
  refine Trip.of (P := Try.prog) (n := ⟨21, []⟩) Try.func32 rfl ⟨rfl, rfl⟩ rfl (St.begin (All.cons (x := slP k_api_Value v_c_0_Op_Args c_0.Op.Args) h0 (All.cons (x := slP (kInt .u8) v_c_0_Op_Bytes c_0.Op.Bytes) h1 (All.nil _)))) ?_
  have ho := H
  refine CP.seq ?_
  refine CP.region ?_
  refine SP.box (cs := [.int .i64 c_0.Proc, .int .u8 c_0.Op.Kind, .int .i64 c_0.Op.Method, v_c_0_Op_Args, v_c_0_Op_Bytes, .bool c_0.Read, .int .i64 c_0.Reply.Err, .int .i64 c_0.Reply.Out.Trap, .int .u8 c_0.Reply.Out.Result.Kind, .int .i64 c_0.Reply.Out.Result.A, .int .i64 c_0.Reply.Out.Result.B, .int .i64 c_0.Start, .int .i64 c_0.End]) rfl rfl rfl rfl (fun b3 => ?_)
  refine SP.val (Val.assign rfl) rfl rfl rfl ?_
  refine SP.nil ?_
  refine QE.then ?_
  refine CP.seq ?_
  refine CP.region ?_
  refine SP.val (Val.fieldAddr Try.underlying48 rfl sz4 rfl) rfl rfl rfl ?_
  refine SP.val (Val.load1 0 rfl Try.underlying4 rfl rfl rfl) rfl rfl rfl ?_
  refine SP.val (Val.notB rfl) rfl rfl rfl ?_
  refine SP.val (Val.move rfl) rfl rfl rfl ?_
  refine SP.join 5 (fun a w2 => Env ⟨21, []⟩ [(1, .pointer (some ⟨b3, 0, none⟩)), (11, .bool ((!c_0.Read) && (decide (c_0.Reply.Err = 4))))] a ∧ St w em hV [slP k_api_Value v_c_0_Op_Args c_0.Op.Args, slP (kInt .u8) v_c_0_Op_Bytes c_0.Op.Bytes] [boxO b3 [.int .i64 c_0.Proc, .int .u8 c_0.Op.Kind, .int .i64 c_0.Op.Method, v_c_0_Op_Args, v_c_0_Op_Bytes, .bool c_0.Read, .int .i64 c_0.Reply.Err, .int .i64 c_0.Reply.Out.Trap, .int .u8 c_0.Reply.Out.Result.Kind, .int .i64 c_0.Reply.Out.Result.A, .int .i64 c_0.Reply.Out.Result.B, .int .i64 c_0.Start, .int .i64 c_0.End] 48] w2) ?_ ?_
  · rintro a w2 ⟨ha, hw⟩
    refine SP.app ha hw ?_
    clear ha hw a w2
    refine SP.val (Val.move rfl) rfl rfl rfl ?_
    refine SP.join 8 (fun a w2 => Env ⟨21, []⟩ [(20, .bool (((!c_0.Read) && (decide (c_0.Reply.Err = 4))) || (c_0.Read && (decide (c_0.End = 0)))))] a ∧ St w em hV [slP k_api_Value v_c_0_Op_Args c_0.Op.Args, slP (kInt .u8) v_c_0_Op_Bytes c_0.Op.Bytes] [boxO b3 [.int .i64 c_0.Proc, .int .u8 c_0.Op.Kind, .int .i64 c_0.Op.Method, v_c_0_Op_Args, v_c_0_Op_Bytes, .bool c_0.Read, .int .i64 c_0.Reply.Err, .int .i64 c_0.Reply.Out.Trap, .int .u8 c_0.Reply.Out.Result.Kind, .int .i64 c_0.Reply.Out.Result.A, .int .i64 c_0.Reply.Out.Result.B, .int .i64 c_0.Start, .int .i64 c_0.End] 48] w2) ?_ ?_
    · rintro a w2 ⟨ha, hw⟩
      refine SP.app ha hw ?_
      clear ha hw a w2
      refine SP.val (Val.assign rfl) rfl rfl rfl ?_
      refine SP.nil ?_
      refine QE.then ?_
      refine CP.ret ?_
      obtain rfl := Option.some.inj ho
      exact QE.rets (rs := [.tmp 2]) (vs := [.bool (((!c_0.Read) && (decide (c_0.Reply.Err = 4))) || (c_0.Read && (decide (c_0.End = 0))))]) Try.results32 rfl ⟨RVs.tmp rfl, trivial⟩ (fun w2 h => St.done (fun a b p s => rfl) h)
    · intro J
      by_cases hc : ((!c_0.Read) && (decide (c_0.Reply.Err = 4))) = true
      · have hq8 := hc
        refine SP.isT (d := 12) rfl hq8 ?_
        refine SP.not rfl rfl rfl ?_
        refine SP.not rfl rfl rfl ?_
        refine SP.not rfl rfl rfl ?_
        refine SP.not rfl rfl rfl ?_
        refine SP.not rfl rfl rfl ?_
        refine SP.not rfl rfl rfl ?_
        refine SP.not rfl rfl rfl ?_
        refine SP.val (Val.pickT rfl rfl) rfl rfl rfl ?_
        exact J fun a w2 ha hw => ⟨ha.sub ⟨congrArg (fun z => some (Value.bool z)) (or_t hq8), trivial⟩, hw⟩
      · have hq8 := (bf hc)
        refine SP.isF (d := 12) rfl hq8 ?_
        refine SP.val (Val.fieldAddr Try.underlying48 rfl sz4 rfl) rfl rfl rfl ?_
        refine SP.val (Val.load1 0 rfl Try.underlying4 rfl rfl rfl) rfl rfl rfl ?_
        refine SP.val (Val.move rfl) rfl rfl rfl ?_
        refine SP.join 4 (fun a w2 => Env ⟨21, []⟩ [(12, .bool false), (19, .bool (c_0.Read && (decide (c_0.End = 0))))] a ∧ St w em hV [slP k_api_Value v_c_0_Op_Args c_0.Op.Args, slP (kInt .u8) v_c_0_Op_Bytes c_0.Op.Bytes] [boxO b3 [.int .i64 c_0.Proc, .int .u8 c_0.Op.Kind, .int .i64 c_0.Op.Method, v_c_0_Op_Args, v_c_0_Op_Bytes, .bool c_0.Read, .int .i64 c_0.Reply.Err, .int .i64 c_0.Reply.Out.Trap, .int .u8 c_0.Reply.Out.Result.Kind, .int .i64 c_0.Reply.Out.Result.A, .int .i64 c_0.Reply.Out.Result.B, .int .i64 c_0.Start, .int .i64 c_0.End] 48] w2) ?_ ?_
        · rintro a w2 ⟨ha, hw⟩
          refine SP.app ha hw ?_
          clear ha hw a w2
          refine SP.val (Val.pickF rfl rfl) rfl rfl rfl ?_
          exact J fun a w2 ha hw => ⟨ha.sub ⟨congrArg (fun z => some (Value.bool z)) (or_f hq8 rfl), trivial⟩, hw⟩
        · intro J
          by_cases hc : c_0.Read = true
          · have hq10 := hc
            refine SP.isT (d := 15) rfl hq10 ?_
            refine SP.val (Val.fieldAddr Try.underlying48 rfl sz3 rfl) rfl rfl rfl ?_
            refine SP.val (Val.load1 0 rfl Try.underlying3 rfl rfl rfl) rfl rfl rfl ?_
            refine SP.val (Val.eql rfl rfl) rfl rfl rfl ?_
            refine SP.val (Val.pickT rfl rfl) rfl rfl rfl ?_
            exact J fun a w2 ha hw => ⟨ha.sub ⟨rfl, congrArg (fun z => some (Value.bool z)) (and_t hq10 rfl), trivial⟩, hw⟩
          · have hq10 := (bf hc)
            refine SP.isF (d := 15) rfl hq10 ?_
            refine SP.not rfl rfl rfl ?_
            refine SP.not rfl rfl rfl ?_
            refine SP.not rfl rfl rfl ?_
            refine SP.val (Val.pickF rfl rfl) rfl rfl rfl ?_
            exact J fun a w2 ha hw => ⟨ha.sub ⟨rfl, congrArg (fun z => some (Value.bool z)) (and_f hq10), trivial⟩, hw⟩
  · intro J
    by_cases hc : (!c_0.Read) = true
    · have hq6 := hc
      refine SP.isT (d := 6) rfl hq6 ?_
      refine SP.val (Val.fieldAddr Try.underlying48 rfl sz41 rfl) rfl rfl rfl ?_
      refine SP.val (Val.fieldAddr Try.underlying41 rfl sz35 rfl) rfl rfl rfl ?_
      refine SP.val (Val.load1 0 rfl Try.underlying35 rfl rfl rfl) rfl rfl rfl ?_
      refine SP.val (Val.eql rfl rfl) rfl rfl rfl ?_
      refine SP.val (Val.pickT rfl rfl) rfl rfl rfl ?_
      exact J fun a w2 ha hw => ⟨ha.sub ⟨rfl, congrArg (fun z => some (Value.bool z)) (and_t hq6 rfl), trivial⟩, hw⟩
    · have hq6 := (bf hc)
      refine SP.isF (d := 6) rfl hq6 ?_
      refine SP.not rfl rfl rfl ?_
      refine SP.not rfl rfl rfl ?_
      refine SP.not rfl rfl rfl ?_
      refine SP.not rfl rfl rfl ?_
      refine SP.val (Val.pickF rfl rfl) rfl rfl rfl ?_
      exact J fun a w2 ha hw => ⟨ha.sub ⟨rfl, congrArg (fun z => some (Value.bool z)) (and_f hq6), trivial⟩, hw⟩
/-! ### capstan/capstanref30.Some: function 35 -/
inductive capstanref30_Some.S where
  | start
  | l1 (l30 : List history_Call) (x32 : Int)

def capstanref30_Some.j1 (l_0 : (List history_Call)) (x32 : Int) (l54 : List history_Call) : Option (capstanref30_Some.S ⊕ (List history_Call)) :=
  some (.inl (.l1 l54 (IntKind.i64.wrap (x32 + 1))))

def capstanref30_Some.F (l_0 : (List history_Call)) : capstanref30_Some.S → Option (capstanref30_Some.S ⊕ (List history_Call))
  | .start => some (.inl (.l1 [] 0))
  | .l1 l30 x32 => if x32 < (l_0.length : Int) then ((elt l_0 x32).bind fun x36 => (capstanref30_Nothing.f x36).bind fun t41 => if (!t41) = true then ((elt l_0 x32).bind fun x44 => if (l30.length + [x44].length) * 136 ≤ 140737488355328 then (capstanref30_Some.j1 l_0 x32 (l30 ++ [x44])) else none) else (capstanref30_Some.j1 l_0 x32 l30)) else (some (.inr l30))

def capstanref30_Some.f (l_0 : (List history_Call)) : Option (List history_Call) := runF (capstanref30_Some.F l_0) .start
theorem capstanref30_Some.ok (l_0 : (List history_Call)) (v_l_0 : Value) (r : (List history_Call)) (H : capstanref30_Some.f l_0 = some r) (w : World) (hV : Hp) (sV : Sub hV (hp w)) (h0 : slR k_history_Call hV v_l_0 l_0) :
    Trip Try.prog 35 [v_l_0].toArray em hV w (fun v => HO.ex fun u0 : Value => HO.pand (v = u0) (HO.seps [slO k_history_Call 48 u0 r])) := by
  have see : Sees w em hV := ⟨sV, Dj.em_right _⟩
  refine Trip.of (P := Try.prog) (n := ⟨25, []⟩) Try.func35 rfl ⟨rfl, rfl⟩ rfl (St.begin (All.cons (x := slP k_history_Call v_l_0 l_0) h0 (All.nil _))) ?_
  obtain ⟨n0, hi⟩ := runF_iff.1 H
  obtain ⟨m0, o, hm0, ho, hr⟩ := iter_some hi
  clear hi
  refine CP.seq ?_
  refine CP.region ?_
  refine SP.val (Val.assign rfl) rfl rfl rfl ?_
  refine SP.nil ?_
  refine QE.then ?_
  refine CP.seq ?_
  refine CP.region ?_
  refine SP.val (Val.assign rfl) rfl rfl rfl ?_
  refine SP.nil ?_
  refine QE.then ?_
  refine CP.seq ?_
  refine CP.seq ?_
  refine CP.region ?_
  refine SP.val (Val.assign rfl) rfl rfl rfl ?_
  refine SP.nil ?_
  refine QE.then ?_
  refine CP.block ?_
  obtain rfl := Option.some.inj ho
  refine CP.loop (fun cl1 a w2 => ∃ l30 : List history_Call, ∃ x32 : Int, ∃ v31 : Value, cl1 ≤ m0 ∧ iter (capstanref30_Some.F l_0) cl1 (.l1 l30 x32) = some r ∧ Env ⟨25, []⟩ [(0, v_l_0), (3, v31), (4, .int .i64 x32)] a ∧ St w em hV [slP k_history_Call v_l_0 l_0] [slO k_history_Call 48 v31 l30] w2) m0 (fun a w2 ha hw => ⟨[], 0, (.slice none 0 0), Nat.le_refl _, hr, ha.sub ⟨rfl, rfl, rfl, trivial⟩, (St.addO (slO.nil k_history_Call 48) hw)⟩) ?_
  clear hr
  rintro cl1 a w2 ⟨l30, x32, v31, hc_l1, hi, ha, hw⟩
  obtain ⟨m33, o, hm_m33, ho, hr⟩ := iter_some hi
  refine CP.app ha hw ?_
  clear ha hw a w2 hi
  refine CP.seq ?_
  refine CP.seq ?_
  refine CP.region ?_
  refine SP.val (Val.move rfl) rfl rfl rfl ?_
  refine SP.val (Val.move rfl) rfl rfl rfl ?_
  refine SP.val (Val.lenP see 0 rfl Try.underlying44 rfl) rfl rfl rfl ?_
  refine SP.val (Val.lss rfl rfl) rfl rfl rfl ?_
  refine SP.nil ?_
  refine QE.then ?_
  rcases if_some ho with ⟨hc, ho⟩ | ⟨hc, ho⟩
  · refine CP.condT rfl (decide_eq_true hc) ?_
    refine CP.skip ?_
    refine QE.then ?_
    refine CP.join (fun a w2 => ∃ l54 : List history_Call, ∃ v55 : Value, ∃ (m56 : Nat) (o : (capstanref30_Some.S ⊕ (List history_Call))), m56 ≤ m33 ∧ capstanref30_Some.j1 l_0 x32 l54 = some o ∧ next (capstanref30_Some.F l_0) m56 o = some r ∧ Env ⟨25, []⟩ [(0, v_l_0), (3, v55), (4, .int .i64 x32)] a ∧ St w em hV [slP k_history_Call v_l_0 l_0] [slO k_history_Call 48 v55 l54] w2) ?_ ?_
    · rintro a w2 ⟨l54, v55, m56, o, hm_m56, ho, hr, ha, hw⟩
      refine CP.app ha hw ?_
      clear ha hw a w2
      refine CP.region ?_
      refine SP.val (Val.move rfl) rfl rfl rfl ?_
      refine SP.val (Val.add rfl rfl) rfl rfl rfl ?_
      refine SP.val (Val.assign rfl) rfl rfl rfl ?_
      refine SP.nil ?_
      obtain rfl := Option.some.inj ho
      exact QE.lower m56 (by omega) fun a w2 ha hw => ⟨l54, (IntKind.i64.wrap (x32 + 1)), v55, (by omega), hr, ha.sub ⟨rfl, rfl, rfl, trivial⟩, hw⟩
    · refine CP.block ?_
      refine CP.seq ?_
      refine CP.region ?_
      refine SP.val (Val.move rfl) rfl rfl rfl ?_
      refine SP.val (Val.move rfl) rfl rfl rfl ?_
      obtain ⟨x36, hx, ho⟩ := bind_some ho
      have hx := elt_some hx
      refine SP.indexP see 0 rfl Try.underlying44 sz48 hx.1 hx.2 rfl rfl rfl rfl (fun p34 => ?_)
      clear hx
      refine k_history_Call.load see 0 rfl Try.underlying48 rfl sz48 rfl rfl rfl (fun v37 v39 => ?_)
      obtain ⟨t41, hc, ho⟩ := bind_some ho
      refine SP.callV see (caps := []) (.bool t41) fn32 rfl rfl rfl rfl (fun w2 hP hs sub ap => capstanref30_Nothing.ok x36 _ _ _ hc w2 hP sub (ap.get 0 rfl) (ap.get 1 rfl)) ?_
      clear hc
      refine SP.val (Val.notB rfl) rfl rfl rfl ?_
      refine SP.nil ?_
      refine QE.then ?_
      rcases if_some ho with ⟨hc, ho⟩ | ⟨hc, ho⟩
      · refine CP.condT rfl hc ?_
        refine CP.region ?_
        refine SP.val (Val.move rfl) rfl rfl rfl ?_
        refine SP.val (Val.move rfl) rfl rfl rfl ?_
        refine SP.val (Val.move rfl) rfl rfl rfl ?_
        obtain ⟨x44, hx, ho⟩ := bind_some ho
        have hx := elt_some hx
        refine SP.indexP see 3 rfl Try.underlying44 sz48 hx.1 hx.2 rfl rfl rfl rfl (fun p42 => ?_)
        clear hx
        refine k_history_Call.load see 0 rfl Try.underlying48 rfl sz48 rfl rfl rfl (fun v45 v47 => ?_)
        refine SP.lit (k := k_history_Call) (xs := [x44]) (vs := [.agg #[.int .i64 x44.Proc, .int .u8 x44.Op.Kind, .int .i64 x44.Op.Method, v45, v47, .bool x44.Read, .int .i64 x44.Reply.Err, .int .i64 x44.Reply.Out.Trap, .int .u8 x44.Reply.Out.Result.Kind, .int .i64 x44.Reply.Out.Result.A, .int .i64 x44.Reply.Out.Result.B, .int .i64 x44.Start, .int .i64 x44.End]]) (cells := [.int .i64 x44.Proc, .int .u8 x44.Op.Kind, .int .i64 x44.Op.Method, v45, v47, .bool x44.Read, .int .i64 x44.Reply.Err, .int .i64 x44.Reply.Out.Trap, .int .u8 x44.Reply.Out.Result.Kind, .int .i64 x44.Reply.Out.Result.A, .int .i64 x44.Reply.Out.Result.B, .int .i64 x44.Start, .int .i64 x44.End]) Try.underlying44 inf48 rfl rfl rfl rfl rfl rfl rfl rfl (fun _ ap => ⟨[.int .i64 x44.Proc, .int .u8 x44.Op.Kind, .int .i64 x44.Op.Method, v45, v47, .bool x44.Read, .int .i64 x44.Reply.Err, .int .i64 x44.Reply.Out.Trap, .int .u8 x44.Reply.Out.Result.Kind, .int .i64 x44.Reply.Out.Result.A, .int .i64 x44.Reply.Out.Result.B, .int .i64 x44.Start, .int .i64 x44.End], _, rfl, ⟨_, _, rfl, ap.get 0 rfl, ap.get 1 rfl⟩, rfl⟩) rfl rfl rfl (fun v49 => ?_)
        refine SP.freezeS see 0 rfl ?_
        obtain ⟨hb, ho⟩ := must_some ho
        refine SP.append see 0 rfl 0 rfl Try.underlying44 inf48 rfl rfl hb rfl rfl rfl rfl rfl (fun v51 => ?_)
        clear hb
        refine SP.val (Val.assign rfl) rfl rfl rfl ?_
        refine SP.nil ?_
        refine QE.blockN ?_
        exact QE.meet fun a w2 ha hw => ⟨(l30 ++ [x44]), v51, m33, _, (by omega), ho, hr, ha.sub ⟨rfl, rfl, rfl, trivial⟩, (St.selP [7] rfl hw)⟩
      · refine CP.condF rfl (bf hc) ?_
        refine CP.skip ?_
        refine QE.blockN ?_
        exact QE.meet fun a w2 ha hw => ⟨l30, v31, m33, _, (by omega), ho, hr, ha.sub ⟨rfl, rfl, rfl, trivial⟩, (St.selP [3] rfl hw)⟩
  · refine CP.condF rfl (decide_eq_false hc) ?_
    refine CP.exit ?_
    refine QE.thru (by intro e; cases e) ?_
    refine QE.thru (by intro e; cases e) ?_
    refine QE.blockE ?_
    refine QE.then ?_
    refine CP.seq ?_
    refine CP.region ?_
    refine SP.val (Val.move rfl) rfl rfl rfl ?_
    refine SP.val (Val.assign rfl) rfl rfl rfl ?_
    refine SP.nil ?_
    refine QE.then ?_
    refine CP.ret ?_
    obtain rfl := Option.some.inj ho
    obtain rfl := Option.some.inj hr
    exact QE.rets (rs := [.tmp 2]) (vs := [v31]) Try.results35 rfl ⟨RVs.tmp rfl, trivial⟩ (fun w2 h => St.done (fun a b p s => ⟨_, rfl, s⟩) (St.selO [0] rfl rfl h))
/-! ### (capstan/history.Call).some: function 55 -/
def history_Call_some.f (c_0 : history_Call) : Option Bool :=
  (history_Nothing.f c_0).bind fun t5 => some (!t5)
theorem history_Call_some.ok (c_0 : history_Call) (v_c_0_Op_Args : Value) (v_c_0_Op_Bytes : Value) (r : Bool) (H : history_Call_some.f c_0 = some r) (w : World) (hV : Hp) (sV : Sub hV (hp w)) (h0 : slR k_api_Value hV v_c_0_Op_Args c_0.Op.Args) (h1 : slR (kInt .u8) hV v_c_0_Op_Bytes c_0.Op.Bytes) :
    Trip Try.prog 55 [.agg #[.int .i64 c_0.Proc, .int .u8 c_0.Op.Kind, .int .i64 c_0.Op.Method, v_c_0_Op_Args, v_c_0_Op_Bytes, .bool c_0.Read, .int .i64 c_0.Reply.Err, .int .i64 c_0.Reply.Out.Trap, .int .u8 c_0.Reply.Out.Result.Kind, .int .i64 c_0.Reply.Out.Result.A, .int .i64 c_0.Reply.Out.Result.B, .int .i64 c_0.Start, .int .i64 c_0.End]].toArray em hV w (fun v => HO.pure (v = .bool r)) := by
  have see : Sees w em hV := ⟨sV, Dj.em_right _⟩
  refine Trip.of (P := Try.prog) (n := ⟨6, []⟩) Try.func55 rfl ⟨rfl, rfl⟩ rfl (St.begin (All.cons (x := slP k_api_Value v_c_0_Op_Args c_0.Op.Args) h0 (All.cons (x := slP (kInt .u8) v_c_0_Op_Bytes c_0.Op.Bytes) h1 (All.nil _)))) ?_
  have ho := H
  refine CP.seq ?_
  refine CP.region ?_
  refine SP.box (cs := [.int .i64 c_0.Proc, .int .u8 c_0.Op.Kind, .int .i64 c_0.Op.Method, v_c_0_Op_Args, v_c_0_Op_Bytes, .bool c_0.Read, .int .i64 c_0.Reply.Err, .int .i64 c_0.Reply.Out.Trap, .int .u8 c_0.Reply.Out.Result.Kind, .int .i64 c_0.Reply.Out.Result.A, .int .i64 c_0.Reply.Out.Result.B, .int .i64 c_0.Start, .int .i64 c_0.End]) rfl rfl rfl rfl (fun b3 => ?_)
  refine SP.val (Val.assign rfl) rfl rfl rfl ?_
  refine SP.nil ?_
  refine QE.then ?_
  refine CP.seq ?_
  refine CP.region ?_
  refine SP.val (Val.loadA 0 rfl Try.underlying48 rfl sz48 rfl rfl rfl) rfl rfl rfl ?_
  obtain ⟨t5, hc, ho⟩ := bind_some ho
  refine SP.callV see (caps := []) (.bool t5) fn31 rfl rfl rfl rfl (fun w2 hP hs sub ap => history_Nothing.ok c_0 _ _ _ hc w2 hP sub (ap.get 0 rfl) (ap.get 1 rfl)) ?_
  clear hc
  refine SP.val (Val.notB rfl) rfl rfl rfl ?_
  refine SP.val (Val.assign rfl) rfl rfl rfl ?_
  refine SP.nil ?_
  refine QE.then ?_
  refine CP.ret ?_
  obtain rfl := Option.some.inj ho
  exact QE.rets (rs := [.tmp 2]) (vs := [.bool (!t5)]) Try.results55 rfl ⟨RVs.tmp rfl, trivial⟩ (fun w2 h => St.done (fun a b p s => rfl) h)
/-! ### capstan/history.kept[capstan/history.Call,capstan/history.Call]: function 50 -/
inductive history_kept_history_Call_history_Call_s2.S where
  | start
  | l1 (l30 : List history_Call) (x32 : Int)

def history_kept_history_Call_history_Call_s2.j1 (l_0 : (List history_Call)) (x32 : Int) (l54 : List history_Call) : Option (history_kept_history_Call_history_Call_s2.S ⊕ (List history_Call)) :=
  some (.inl (.l1 l54 (IntKind.i64.wrap (x32 + 1))))

def history_kept_history_Call_history_Call_s2.F (l_0 : (List history_Call)) : history_kept_history_Call_history_Call_s2.S → Option (history_kept_history_Call_history_Call_s2.S ⊕ (List history_Call))
  | .start => some (.inl (.l1 [] 0))
  | .l1 l30 x32 => if x32 < (l_0.length : Int) then ((elt l_0 x32).bind fun x36 => (history_Call_some.f x36).bind fun t43 => if t43 = true then ((history_own.f x36).bind fun t44 => if (l30.length + [t44].length) * 136 ≤ 140737488355328 then (history_kept_history_Call_history_Call_s2.j1 l_0 x32 (l30 ++ [t44])) else none) else (history_kept_history_Call_history_Call_s2.j1 l_0 x32 l30)) else (some (.inr l30))

def history_kept_history_Call_history_Call_s2.f (l_0 : (List history_Call)) : Option (List history_Call) := runF (history_kept_history_Call_history_Call_s2.F l_0) .start
theorem history_kept_history_Call_history_Call_s2.ok (l_0 : (List history_Call)) (v_l_0 : Value) (r : (List history_Call)) (H : history_kept_history_Call_history_Call_s2.f l_0 = some r) (w : World) (hV : Hp) (sV : Sub hV (hp w)) (h0 : slR k_history_Call hV v_l_0 l_0) :
    Trip Try.prog 50 [v_l_0, .func (.func 55) #[] #[], .func (.func 42) #[] #[]].toArray em hV w (fun v => HO.ex fun u0 : Value => HO.pand (v = u0) (HO.seps [slD o_history_Call 48 u0 r])) := by
  have see : Sees w em hV := ⟨sV, Dj.em_right _⟩
  refine Trip.of (P := Try.prog) (n := ⟨27, []⟩) Try.func50 rfl ⟨rfl, rfl⟩ rfl (St.begin (All.cons (x := slP k_history_Call v_l_0 l_0) h0 (All.nil _))) ?_
  obtain ⟨n0, hi⟩ := runF_iff.1 H
  obtain ⟨m0, o, hm0, ho, hr⟩ := iter_some hi
  clear hi
  refine CP.seq ?_
  refine CP.region ?_
  refine SP.val (Val.assign rfl) rfl rfl rfl ?_
  refine SP.nil ?_
  refine QE.then ?_
  refine CP.seq ?_
  refine CP.region ?_
  refine SP.val (Val.assign rfl) rfl rfl rfl ?_
  refine SP.nil ?_
  refine QE.then ?_
  refine CP.seq ?_
  refine CP.seq ?_
  refine CP.region ?_
  refine SP.val (Val.move rfl) rfl rfl rfl ?_
  refine SP.val (Val.lenP see 0 rfl Try.underlying44 rfl) rfl rfl rfl ?_
  refine SP.val (Val.move rfl) rfl rfl rfl ?_
  refine SP.nil ?_
  refine QE.then ?_
  refine CP.block ?_
  obtain rfl := Option.some.inj ho
  refine CP.loop (fun cl1 a w2 => ∃ l30 : List history_Call, ∃ x32 : Int, ∃ v31 : Value, cl1 ≤ m0 ∧ iter (history_kept_history_Call_history_Call_s2.F l_0) cl1 (.l1 l30 x32) = some r ∧ Env ⟨27, []⟩ [(1, .func (.func 55) #[] #[]), (2, .func (.func 42) #[] #[]), (7, v31), (10, v_l_0), (11, .int .i64 (l_0.length : Int)), (12, .int .i64 x32)] a ∧ St w em hV [slP k_history_Call v_l_0 l_0] [slD o_history_Call 48 v31 l30] w2) m0 (fun a w2 ha hw => ⟨[], 0, (.slice none 0 0), Nat.le_refl _, hr, ha.sub ⟨rfl, rfl, rfl, rfl, rfl, rfl, trivial⟩, (St.addO (slD.nil o_history_Call 48) hw)⟩) ?_
  clear hr
  rintro cl1 a w2 ⟨l30, x32, v31, hc_l1, hi, ha, hw⟩
  obtain ⟨m33, o, hm_m33, ho, hr⟩ := iter_some hi
  refine CP.app ha hw ?_
  clear ha hw a w2 hi
  refine CP.seq ?_
  refine CP.region ?_
  refine SP.val (Val.lss rfl rfl) rfl rfl rfl ?_
  refine SP.nil ?_
  refine QE.then ?_
  refine CP.seq ?_
  rcases if_some ho with ⟨hc, ho⟩ | ⟨hc, ho⟩
  · refine CP.condT rfl (decide_eq_true hc) ?_
    refine CP.skip ?_
    refine QE.then ?_
    refine CP.join (fun a w2 => ∃ l54 : List history_Call, ∃ v55 : Value, ∃ (m56 : Nat) (o : (history_kept_history_Call_history_Call_s2.S ⊕ (List history_Call))), m56 ≤ m33 ∧ history_kept_history_Call_history_Call_s2.j1 l_0 x32 l54 = some o ∧ next (history_kept_history_Call_history_Call_s2.F l_0) m56 o = some r ∧ Env ⟨27, []⟩ [(1, .func (.func 55) #[] #[]), (2, .func (.func 42) #[] #[]), (7, v55), (10, v_l_0), (11, .int .i64 (l_0.length : Int)), (12, .int .i64 x32)] a ∧ St w em hV [slP k_history_Call v_l_0 l_0] [slD o_history_Call 48 v55 l54] w2) ?_ ?_
    · rintro a w2 ⟨l54, v55, m56, o, hm_m56, ho, hr, ha, hw⟩
      refine CP.app ha hw ?_
      clear ha hw a w2
      refine CP.region ?_
      refine SP.val (Val.add rfl rfl) rfl rfl rfl ?_
      refine SP.val (Val.move rfl) rfl rfl rfl ?_
      refine SP.nil ?_
      obtain rfl := Option.some.inj ho
      exact QE.lower m56 (by omega) fun a w2 ha hw => ⟨l54, (IntKind.i64.wrap (x32 + 1)), v55, (by omega), hr, ha.sub ⟨rfl, rfl, rfl, rfl, rfl, rfl, trivial⟩, hw⟩
    · refine CP.block ?_
      refine CP.seq ?_
      refine CP.region ?_
      obtain ⟨x36, hx, ho⟩ := bind_some ho
      have hx := elt_some hx
      refine SP.indexP see 0 rfl Try.underlying44 sz48 hx.1 hx.2 rfl rfl rfl rfl (fun p34 => ?_)
      clear hx
      refine k_history_Call.load see 0 rfl Try.underlying48 rfl sz48 rfl rfl rfl (fun v37 v39 => ?_)
      refine SP.alloc (cs := [.int .i64 0, .int .u8 0, .int .i64 0, (.slice none 0 0), (.slice none 0 0), .bool false, .int .i64 0, .int .i64 0, .int .u8 0, .int .i64 0, .int .i64 0, .int .i64 0, .int .i64 0]) inf48 rfl rfl (fun b41 => ?_)
      refine SP.have (fun w2 hw => slR.shape (St.pers 0 rfl see.sub see.dj hw)) (fun hs_v37 => ?_)
      refine SP.have (fun w2 hw => slR.shape (St.pers 1 rfl see.sub see.dj hw)) (fun hs_v39 => ?_)
      refine SP.store (v := .agg #[.int .i64 x36.Proc, .int .u8 x36.Op.Kind, .int .i64 x36.Op.Method, v37, v39, .bool x36.Read, .int .i64 x36.Reply.Err, .int .i64 x36.Reply.Out.Trap, .int .u8 x36.Reply.Out.Result.Kind, .int .i64 x36.Reply.Out.Result.A, .int .i64 x36.Reply.Out.Result.B, .int .i64 x36.Start, .int .i64 x36.End]) (vs := [.int .i64 x36.Proc, .int .u8 x36.Op.Kind, .int .i64 x36.Op.Method, v37, v39, .bool x36.Read, .int .i64 x36.Reply.Err, .int .i64 x36.Reply.Out.Trap, .int .u8 x36.Reply.Out.Result.Kind, .int .i64 x36.Reply.Out.Result.A, .int .i64 x36.Reply.Out.Result.B, .int .i64 x36.Start, .int .i64 x36.End]) 0 (by rfl) sz48 (by rfl) (by rfl) (by rfl) (by rfl) (one_cons rfl (one_cons rfl (one_cons rfl (one_cons hs_v37 (one_cons hs_v39 (one_cons rfl (one_cons rfl (one_cons rfl (one_cons rfl (one_cons rfl (one_cons rfl (one_cons rfl (one_cons rfl (rfl)))))))))))))) (by rfl) ?_
      refine SP.nil ?_
      refine QE.then ?_
      refine CP.seq ?_
      refine CP.region ?_
      refine SP.val (Val.move rfl) rfl rfl rfl ?_
      refine SP.val (Val.loadA 0 rfl Try.underlying48 rfl sz48 rfl rfl rfl) rfl rfl rfl ?_
      obtain ⟨t43, hc, ho⟩ := bind_some ho
      refine SP.callV see (caps := []) (.bool t43) fn55 rfl rfl rfl rfl (fun w2 hP hs sub ap => history_Call_some.ok x36 _ _ _ hc w2 hP sub (ap.get 0 rfl) (ap.get 1 rfl)) ?_
      clear hc
      refine SP.nil ?_
      refine QE.then ?_
      rcases if_some ho with ⟨hc, ho⟩ | ⟨hc, ho⟩
      · refine CP.condT rfl hc ?_
        refine CP.region ?_
        refine SP.val (Val.move rfl) rfl rfl rfl ?_
        refine SP.val (Val.move rfl) rfl rfl rfl ?_
        refine SP.val (Val.loadA 0 rfl Try.underlying48 rfl sz48 rfl rfl rfl) rfl rfl rfl ?_
        obtain ⟨t44, hc, ho⟩ := bind_some ho
        refine SP.callK see (caps := []) _ fn42 rfl rfl rfl rfl (fun w2 hP hs sub ap => history_own.ok x36 _ _ _ hc w2 hP sub (ap.get 0 rfl) (ap.get 1 rfl)) (fun vr => ?_)
        refine SP.ex (fun w2 h => St.open h) (fun v45 => ?_)
        refine SP.ex (fun w2 h => St.open h) (fun v46 => ?_)
        refine SP.have (fun w2 h => (St.pand h).1.symm) (fun er => ?_)
        subst er
        refine SP.imp (fun w2 h => St.seps (St.pand h).2) ?_
        clear hc
        refine SP.have (fun w2 hw => slO.shape (St.own 0 rfl see.sub see.dj hw)) (fun hs_v45 => ?_)
        refine SP.have (fun w2 hw => slO.shape (St.own 1 rfl see.sub see.dj hw)) (fun hs_v46 => ?_)
        refine SP.lit (k := kRaw 13) (xs := [[.int .i64 t44.Proc, .int .u8 t44.Op.Kind, .int .i64 t44.Op.Method, v45, v46, .bool t44.Read, .int .i64 t44.Reply.Err, .int .i64 t44.Reply.Out.Trap, .int .u8 t44.Reply.Out.Result.Kind, .int .i64 t44.Reply.Out.Result.A, .int .i64 t44.Reply.Out.Result.B, .int .i64 t44.Start, .int .i64 t44.End]]) (vs := [.agg #[.int .i64 t44.Proc, .int .u8 t44.Op.Kind, .int .i64 t44.Op.Method, v45, v46, .bool t44.Read, .int .i64 t44.Reply.Err, .int .i64 t44.Reply.Out.Trap, .int .u8 t44.Reply.Out.Result.Kind, .int .i64 t44.Reply.Out.Result.A, .int .i64 t44.Reply.Out.Result.B, .int .i64 t44.Start, .int .i64 t44.End]]) (cells := [.int .i64 t44.Proc, .int .u8 t44.Op.Kind, .int .i64 t44.Op.Method, v45, v46, .bool t44.Read, .int .i64 t44.Reply.Err, .int .i64 t44.Reply.Out.Trap, .int .u8 t44.Reply.Out.Result.Kind, .int .i64 t44.Reply.Out.Result.A, .int .i64 t44.Reply.Out.Result.B, .int .i64 t44.Start, .int .i64 t44.End]) Try.underlying44 inf48 rfl rfl rfl rfl rfl rfl rfl rfl (fun _ ap => ⟨[.int .i64 t44.Proc, .int .u8 t44.Op.Kind, .int .i64 t44.Op.Method, v45, v46, .bool t44.Read, .int .i64 t44.Reply.Err, .int .i64 t44.Reply.Out.Trap, .int .u8 t44.Reply.Out.Result.Kind, .int .i64 t44.Reply.Out.Result.A, .int .i64 t44.Reply.Out.Result.B, .int .i64 t44.Start, .int .i64 t44.End], _, rfl, ⟨rfl, rfl, one_cons rfl (one_cons rfl (one_cons rfl (one_cons hs_v45 (one_cons hs_v46 (one_cons rfl (one_cons rfl (one_cons rfl (one_cons rfl (one_cons rfl (one_cons rfl (one_cons rfl (one_cons rfl (rfl)))))))))))))⟩, rfl⟩) rfl rfl rfl (fun v49 => ?_)
        refine SP.imp (fun w2 hw => St.litD (k := o_history_Call) [slO k_api_Value 37 v45 t44.Op.Args, slO (kInt .u8) 5 v46 t44.Op.Bytes] (St.selO [0, 1, 2, 3, 4] rfl rfl hw) (fun a b q => ⟨_, _, rfl, q⟩)) ?_
        refine SP.imp (fun w2 hw => St.selO [2, 0, 1] rfl rfl hw) ?_
        obtain ⟨hb, ho⟩ := must_some ho
        refine SP.appendD see Try.underlying44 inf48 rfl rfl hb rfl rfl rfl rfl rfl (fun v51 => ?_)
        clear hb
        refine SP.val (Val.assign rfl) rfl rfl rfl ?_
        refine SP.nil ?_
        refine QE.blockN ?_
        exact QE.meet fun a w2 ha hw => ⟨(l30 ++ [t44]), v51, m33, _, (by omega), ho, hr, ha.sub ⟨rfl, rfl, rfl, rfl, rfl, rfl, trivial⟩, (St.selP [3] rfl (St.selO [0] rfl rfl hw))⟩
      · refine CP.condF rfl (bf hc) ?_
        refine CP.skip ?_
        refine QE.blockN ?_
        exact QE.meet fun a w2 ha hw => ⟨l30, v31, m33, _, (by omega), ho, hr, ha.sub ⟨rfl, rfl, rfl, rfl, rfl, rfl, trivial⟩, (St.selP [3] rfl (St.selO [1] rfl rfl hw))⟩
  · refine CP.condF rfl (decide_eq_false hc) ?_
    refine CP.exit ?_
    refine QE.thru (by intro e; cases e) ?_
    refine QE.thru (by intro e; cases e) ?_
    refine QE.blockE ?_
    refine QE.then ?_
    refine CP.seq ?_
    refine CP.region ?_
    refine SP.val (Val.move rfl) rfl rfl rfl ?_
    refine SP.val (Val.assign rfl) rfl rfl rfl ?_
    refine SP.nil ?_
    refine QE.then ?_
    refine CP.ret ?_
    obtain rfl := Option.some.inj ho
    obtain rfl := Option.some.inj hr
    exact QE.rets (rs := [.tmp 6]) (vs := [v31]) Try.results50 rfl ⟨RVs.tmp rfl, trivial⟩ (fun w2 h => St.done (fun a b p s => ⟨_, rfl, s⟩) (St.selO [0] rfl rfl h))
/-! ### capstan/history.Some: function 36 -/
def history_Some.f (l_0 : (List history_Call)) : Option (List history_Call) :=
  (history_kept_history_Call_history_Call_s2.f l_0).bind fun t2 => some t2
theorem history_Some.ok (l_0 : (List history_Call)) (v_l_0 : Value) (r : (List history_Call)) (H : history_Some.f l_0 = some r) (w : World) (hV : Hp) (sV : Sub hV (hp w)) (h0 : slR k_history_Call hV v_l_0 l_0) :
    Trip Try.prog 36 [v_l_0].toArray em hV w (fun v => HO.ex fun u0 : Value => HO.pand (v = u0) (HO.seps [slD o_history_Call 48 u0 r])) := by
  have see : Sees w em hV := ⟨sV, Dj.em_right _⟩
  refine Trip.of (P := Try.prog) (n := ⟨5, []⟩) Try.func36 rfl ⟨rfl, rfl⟩ rfl (St.begin (All.cons (x := slP k_history_Call v_l_0 l_0) h0 (All.nil _))) ?_
  have ho := H
  refine CP.seq ?_
  refine CP.region ?_
  refine SP.val (Val.assign rfl) rfl rfl rfl ?_
  refine SP.nil ?_
  refine QE.then ?_
  refine CP.seq ?_
  refine CP.region ?_
  refine SP.val (Val.move rfl) rfl rfl rfl ?_
  obtain ⟨t2, hc, ho⟩ := bind_some ho
  refine SP.callK see (caps := []) _ fn50 rfl rfl rfl rfl (fun w2 hP hs sub ap => history_kept_history_Call_history_Call_s2.ok l_0 _ _ hc w2 hP sub (ap.get 0 rfl)) (fun vr => ?_)
  refine SP.ex (fun w2 h => St.open h) (fun v3 => ?_)
  refine SP.have (fun w2 h => (St.pand h).1.symm) (fun er => ?_)
  subst er
  refine SP.imp (fun w2 h => St.seps (St.pand h).2) ?_
  clear hc
  refine SP.val (Val.assign rfl) rfl rfl rfl ?_
  refine SP.nil ?_
  refine QE.then ?_
  refine CP.ret ?_
  obtain rfl := Option.some.inj ho
  exact QE.rets (rs := [.tmp 2]) (vs := [v3]) Try.results36 rfl ⟨RVs.tmp rfl, trivial⟩ (fun w2 h => St.done (fun a b p s => ⟨_, rfl, s⟩) (St.selO [0] rfl rfl h))
/-! ### capstan/capstanref17.Same: function 58 -/
inductive capstanref17_Same.S where
  | start
  | l1 (x12 : Int)

def capstanref17_Same.F (a_0 : (List api_Value)) (b_1 : (List api_Value)) : capstanref17_Same.S → Option (capstanref17_Same.S ⊕ Bool)
  | .start => if (a_0.length : Int) ≠ (b_1.length : Int) then (some (.inr false)) else (some (.inl (.l1 0)))
  | .l1 x12 => if x12 < (a_0.length : Int) then ((elt a_0 x12).bind fun x16 => (elt b_1 x12).bind fun x20 => if (!(x16.Kind == x20.Kind && (x16.A == x20.A && (x16.B == x20.B)))) = true then (some (.inr false)) else (some (.inl (.l1 (IntKind.i64.wrap (x12 + 1)))))) else (some (.inr true))

def capstanref17_Same.f (a_0 : (List api_Value)) (b_1 : (List api_Value)) : Option Bool := runF (capstanref17_Same.F a_0 b_1) .start
theorem capstanref17_Same.ok (a_0 : (List api_Value)) (b_1 : (List api_Value)) (v_a_0 : Value) (v_b_1 : Value) (r : Bool) (H : capstanref17_Same.f a_0 b_1 = some r) (w : World) (hV : Hp) (sV : Sub hV (hp w)) (h0 : slR k_api_Value hV v_a_0 a_0) (h1 : slR k_api_Value hV v_b_1 b_1) :
    Trip Try.prog 58 [v_a_0, v_b_1].toArray em hV w (fun v => HO.pure (v = .bool r)) := by
  have see : Sees w em hV := ⟨sV, Dj.em_right _⟩
  refine Trip.of (P := Try.prog) (n := ⟨26, []⟩) Try.func58 rfl ⟨rfl, rfl⟩ rfl (St.begin (All.cons (x := slP k_api_Value v_a_0 a_0) h0 (All.cons (x := slP k_api_Value v_b_1 b_1) h1 (All.nil _)))) ?_
  obtain ⟨n0, hi⟩ := runF_iff.1 H
  obtain ⟨m0, o, hm0, ho, hr⟩ := iter_some hi
  clear hi
  refine CP.seq ?_
  refine CP.region ?_
  refine SP.val (Val.assign rfl) rfl rfl rfl ?_
  refine SP.nil ?_
  refine QE.then ?_
  refine CP.seq ?_
  refine CP.seq ?_
  refine CP.region ?_
  refine SP.val (Val.move rfl) rfl rfl rfl ?_
  refine SP.val (Val.lenP see 0 rfl Try.underlying32 rfl) rfl rfl rfl ?_
  refine SP.val (Val.move rfl) rfl rfl rfl ?_
  refine SP.val (Val.lenP see 1 rfl Try.underlying32 rfl) rfl rfl rfl ?_
  refine SP.val (Val.neq rfl rfl) rfl rfl rfl ?_
  refine SP.nil ?_
  refine QE.then ?_
  rcases if_some ho with ⟨hc, ho⟩ | ⟨hc, ho⟩
  · refine CP.condT rfl (decide_eq_true hc) ?_
    refine CP.seq ?_
    refine CP.region ?_
    refine SP.val (Val.assign rfl) rfl rfl rfl ?_
    refine SP.nil ?_
    refine QE.then ?_
    refine CP.ret ?_
    refine QE.thru (by intro e; cases e) ?_
    obtain rfl := Option.some.inj ho
    obtain rfl := Option.some.inj hr
    exact QE.rets (rs := [.tmp 4]) (vs := [.bool false]) Try.results58 rfl ⟨RVs.tmp rfl, trivial⟩ (fun w2 h => St.done (fun a b p s => rfl) h)
  · refine CP.condF rfl (decide_eq_false hc) ?_
    refine CP.skip ?_
    refine QE.then ?_
    refine CP.seq ?_
    refine CP.seq ?_
    refine CP.region ?_
    refine SP.val (Val.assign rfl) rfl rfl rfl ?_
    refine SP.nil ?_
    refine QE.then ?_
    refine CP.block ?_
    obtain rfl := Option.some.inj ho
    refine CP.loop (fun cl1 a w2 => ∃ x12 : Int, cl1 ≤ m0 ∧ iter (capstanref17_Same.F a_0 b_1) cl1 (.l1 x12) = some r ∧ Env ⟨26, []⟩ [(0, v_a_0), (1, v_b_1), (5, .int .i64 x12)] a ∧ St w em hV [slP k_api_Value v_a_0 a_0, slP k_api_Value v_b_1 b_1] [] w2) m0 (fun a w2 ha hw => ⟨0, Nat.le_refl _, hr, ha.sub ⟨rfl, rfl, rfl, trivial⟩, hw⟩) ?_
    clear hr
    rintro cl1 a w2 ⟨x12, hc_l1, hi, ha, hw⟩
    obtain ⟨m13, o, hm_m13, ho, hr⟩ := iter_some hi
    refine CP.app ha hw ?_
    clear ha hw a w2 hi
    refine CP.seq ?_
    refine CP.seq ?_
    refine CP.region ?_
    refine SP.val (Val.move rfl) rfl rfl rfl ?_
    refine SP.val (Val.move rfl) rfl rfl rfl ?_
    refine SP.val (Val.lenP see 0 rfl Try.underlying32 rfl) rfl rfl rfl ?_
    refine SP.val (Val.lss rfl rfl) rfl rfl rfl ?_
    refine SP.nil ?_
    refine QE.then ?_
    rcases if_some ho with ⟨hc, ho⟩ | ⟨hc, ho⟩
    · refine CP.condT rfl (decide_eq_true hc) ?_
      refine CP.skip ?_
      refine QE.then ?_
      refine CP.seq ?_
      refine CP.block ?_
      refine CP.seq ?_
      refine CP.drawA (by kernel_rfl) (fun w2 k h => h.drawn k) ?_
      obtain ⟨x16, hx, ho⟩ := bind_some ho
      have hx := elt_some hx
      refine DA.ghost (fun w2 h => h.elem see 0 rfl hx.1 hx.2) (fun p14 h_p14 => ?_)
      clear hx
      refine DA.ghost (fun w2 h => h.openE see 0 rfl (fun _ : Unit => [.int .u8 x16.Kind, .int .i64 x16.A, .int .i64 x16.B]) (fun _ => []) (fun h cs e => ⟨(), e, All.nil _⟩)) (fun _ _ => ?_)
      obtain ⟨x20, hx, ho⟩ := bind_some ho
      have hx := elt_some hx
      refine DA.ghost (fun w2 h => h.elem see 3 rfl hx.1 hx.2) (fun p18 h_p18 => ?_)
      clear hx
      refine DA.ghost (fun w2 h => h.openE see 0 rfl (fun _ : Unit => [.int .u8 x20.Kind, .int .i64 x20.A, .int .i64 x20.B]) (fun _ => []) (fun h cs e => ⟨(), e, All.nil _⟩)) (fun _ _ => ?_)
      refine DA.phase (fun i => Nat.ble 0 i && Nat.blt i 9) (fun w2 => St w em hV [atP p18 [.int .u8 x20.Kind, .int .i64 x20.A, .int .i64 x20.B], elP k_api_Value p18 x20, atP p14 [.int .u8 x16.Kind, .int .i64 x16.A, .int .i64 x16.B], elP k_api_Value p14 x16, slP k_api_Value v_a_0 a_0, slP k_api_Value v_b_1 b_1] [] w2) ?_
      refine DT.take 0 rfl rfl rfl rfl (by kernel_rfl) (fun _ _ _ h => h) (Val.move rfl) (fun w2 hw => hw) ?_
      refine DT.take 1 rfl rfl rfl rfl (by kernel_rfl) (fun _ _ _ h => h) (Val.move rfl) (fun w2 hw => hw) ?_
      refine DT.take 2 rfl rfl rfl rfl (by kernel_rfl) (fun _ _ _ h => h) (Val.indexE h_p14 Try.underlying32 sz37 rfl rfl) (fun w2 hw => hw) ?_
      refine DT.take 3 rfl rfl rfl rfl (by kernel_rfl) (fun _ _ _ h => h) (Val.loadAtA see 2 rfl Try.underlying37 rfl sz37 rfl) (fun w2 hw => hw) ?_
      refine DT.take 4 rfl rfl rfl rfl (by kernel_rfl) (fun _ _ _ h => h) (Val.move rfl) (fun w2 hw => hw) ?_
      refine DT.take 5 rfl rfl rfl rfl (by kernel_rfl) (fun _ _ _ h => h) (Val.move rfl) (fun w2 hw => hw) ?_
      refine DT.take 6 rfl rfl rfl rfl (by kernel_rfl) (fun _ _ _ h => h) (Val.indexE h_p18 Try.underlying32 sz37 rfl rfl) (fun w2 hw => hw) ?_
      refine DT.take 7 rfl rfl rfl rfl (by kernel_rfl) (fun _ _ _ h => h) (Val.loadAtA see 0 rfl Try.underlying37 rfl sz37 rfl) (fun w2 hw => hw) ?_
      refine DT.take 8 rfl rfl rfl rfl (by kernel_rfl) (fun _ _ _ h => h) (Val.neqA (by kernel_rfl) (fun w2 => eqA37 9998 w2 x16.Kind x20.Kind x16.A x20.A x16.B x20.B) rfl rfl) (fun w2 hw => hw) ?_
      refine DT.next (by kernel_rfl) ?_
      refine DA.done (by kernel_rfl) ?_
      refine QE.then ?_
      rcases if_some ho with ⟨hc, ho⟩ | ⟨hc, ho⟩
      · refine CP.condT rfl hc ?_
        refine CP.seq ?_
        refine CP.region ?_
        refine SP.val (Val.assign rfl) rfl rfl rfl ?_
        refine SP.nil ?_
        refine QE.then ?_
        refine CP.ret ?_
        refine QE.blockR ?_
        refine QE.thru (by intro e; cases e) ?_
        refine QE.thru (by intro e; cases e) ?_
        refine QE.blockR ?_
        refine QE.thru (by intro e; cases e) ?_
        obtain rfl := Option.some.inj ho
        obtain rfl := Option.some.inj hr
        exact QE.rets (rs := [.tmp 4]) (vs := [.bool false]) Try.results58 rfl ⟨RVs.tmp rfl, trivial⟩ (fun w2 h => St.done (fun a b p s => rfl) h)
      · refine CP.condF rfl (bf hc) ?_
        refine CP.skip ?_
        refine QE.blockN ?_
        refine QE.then ?_
        refine CP.region ?_
        refine SP.val (Val.move rfl) rfl rfl rfl ?_
        refine SP.val (Val.add rfl rfl) rfl rfl rfl ?_
        refine SP.val (Val.assign rfl) rfl rfl rfl ?_
        refine SP.nil ?_
        obtain rfl := Option.some.inj ho
        exact QE.lower m13 (by omega) fun a w2 ha hw => ⟨(IntKind.i64.wrap (x12 + 1)), (by omega), hr, ha.sub ⟨rfl, rfl, rfl, trivial⟩, (St.selP [4, 5] rfl hw)⟩
    · refine CP.condF rfl (decide_eq_false hc) ?_
      refine CP.exit ?_
      refine QE.thru (by intro e; cases e) ?_
      refine QE.thru (by intro e; cases e) ?_
      refine QE.blockE ?_
      refine QE.then ?_
      refine CP.seq ?_
      refine CP.region ?_
      refine SP.val (Val.assign rfl) rfl rfl rfl ?_
      refine SP.nil ?_
      refine QE.then ?_
      refine CP.ret ?_
      obtain rfl := Option.some.inj ho
      obtain rfl := Option.some.inj hr
      exact QE.rets (rs := [.tmp 4]) (vs := [.bool true]) Try.results58 rfl ⟨RVs.tmp rfl, trivial⟩ (fun w2 h => St.done (fun a b p s => rfl) h)
/-! ### capstan/capstanref20.Same: function 43 -/
def capstanref20_Same.f (a_0 : api_Op) (b_1 : api_Op) : Option Bool :=
  (if ((decide (a_0.Kind = b_1.Kind)) && (decide (a_0.Method = b_1.Method))) = true then ((capstanref17_Same.f a_0.Args b_1.Args).bind fun t13 => some t13) else (some false)).bind fun t14 => some (t14 && ((strOfNums a_0.Bytes).toList == (strOfNums b_1.Bytes).toList))
theorem capstanref20_Same.ok (a_0 : api_Op) (b_1 : api_Op) (v_a_0_Args : Value) (v_a_0_Bytes : Value) (v_b_1_Args : Value) (v_b_1_Bytes : Value) (r : Bool) (H : capstanref20_Same.f a_0 b_1 = some r) (w : World) (hV : Hp) (sV : Sub hV (hp w)) (h0 : slR k_api_Value hV v_a_0_Args a_0.Args) (h1 : slR (kInt .u8) hV v_a_0_Bytes a_0.Bytes) (h2 : slR k_api_Value hV v_b_1_Args b_1.Args) (h3 : slR (kInt .u8) hV v_b_1_Bytes b_1.Bytes) :
    Trip Try.prog 43 [.agg #[.int .u8 a_0.Kind, .int .i64 a_0.Method, v_a_0_Args, v_a_0_Bytes], .agg #[.int .u8 b_1.Kind, .int .i64 b_1.Method, v_b_1_Args, v_b_1_Bytes]].toArray em hV w (fun v => HO.pure (v = .bool r)) := by
  have see : Sees w em hV := ⟨sV, Dj.em_right _⟩
  refine Trip.of (P := Try.prog) (n := ⟨33, []⟩) Try.func43 rfl ⟨rfl, rfl⟩ rfl (St.begin (All.cons (x := slP k_api_Value v_a_0_Args a_0.Args) h0 (All.cons (x := slP (kInt .u8) v_a_0_Bytes a_0.Bytes) h1 (All.cons (x := slP k_api_Value v_b_1_Args b_1.Args) h2 (All.cons (x := slP (kInt .u8) v_b_1_Bytes b_1.Bytes) h3 (All.nil _)))))) ?_
  have ho := H
  refine CP.seq ?_
  refine CP.region ?_
  refine SP.box (cs := [.int .u8 a_0.Kind, .int .i64 a_0.Method, v_a_0_Args, v_a_0_Bytes]) rfl rfl rfl rfl (fun b5 => ?_)
  refine SP.box (cs := [.int .u8 b_1.Kind, .int .i64 b_1.Method, v_b_1_Args, v_b_1_Bytes]) rfl rfl rfl rfl (fun b7 => ?_)
  refine SP.val (Val.assign rfl) rfl rfl rfl ?_
  refine SP.nil ?_
  refine QE.then ?_
  refine CP.seq ?_
  refine CP.region ?_
  refine SP.val (Val.fieldAddr Try.underlying34 rfl sz5 rfl) rfl rfl rfl ?_
  refine SP.val (Val.load1 1 rfl Try.underlying5 rfl rfl rfl) rfl rfl rfl ?_
  refine SP.val (Val.fieldAddr Try.underlying34 rfl sz5 rfl) rfl rfl rfl ?_
  refine SP.val (Val.load1 0 rfl Try.underlying5 rfl rfl rfl) rfl rfl rfl ?_
  refine SP.val (Val.eql rfl rfl) rfl rfl rfl ?_
  refine SP.val (Val.move rfl) rfl rfl rfl ?_
  refine SP.join 6 (fun a w2 => Env ⟨33, []⟩ [(2, .pointer (some ⟨b5, 0, none⟩)), (3, .pointer (some ⟨b7, 0, none⟩)), (16, .bool ((decide (a_0.Kind = b_1.Kind)) && (decide (a_0.Method = b_1.Method))))] a ∧ St w em hV [slP k_api_Value v_a_0_Args a_0.Args, slP (kInt .u8) v_a_0_Bytes a_0.Bytes, slP k_api_Value v_b_1_Args b_1.Args, slP (kInt .u8) v_b_1_Bytes b_1.Bytes] [boxO b7 [.int .u8 b_1.Kind, .int .i64 b_1.Method, v_b_1_Args, v_b_1_Bytes] 34, boxO b5 [.int .u8 a_0.Kind, .int .i64 a_0.Method, v_a_0_Args, v_a_0_Bytes] 34] w2) ?_ ?_
  · rintro a w2 ⟨ha, hw⟩
    refine SP.app ha hw ?_
    clear ha hw a w2
    refine SP.val (Val.move rfl) rfl rfl rfl ?_
    obtain ⟨t14, hg_t14, ho⟩ := bind_some ho
    refine SP.join 6 (fun a w2 => Env ⟨33, []⟩ [(2, .pointer (some ⟨b5, 0, none⟩)), (3, .pointer (some ⟨b7, 0, none⟩)), (23, .bool t14)] a ∧ St w em hV [slP k_api_Value v_a_0_Args a_0.Args, slP (kInt .u8) v_a_0_Bytes a_0.Bytes, slP k_api_Value v_b_1_Args b_1.Args, slP (kInt .u8) v_b_1_Bytes b_1.Bytes] [boxO b7 [.int .u8 b_1.Kind, .int .i64 b_1.Method, v_b_1_Args, v_b_1_Bytes] 34, boxO b5 [.int .u8 a_0.Kind, .int .i64 a_0.Method, v_a_0_Args, v_a_0_Bytes] 34] w2) ?_ ?_
    · rintro a w2 ⟨ha, hw⟩
      refine SP.app ha hw ?_
      clear ha hw a w2 hg_t14
      refine SP.val (Val.move rfl) rfl rfl rfl ?_
      refine SP.join 8 (fun a w2 => Env ⟨33, []⟩ [(32, .bool (t14 && ((strOfNums a_0.Bytes).toList == (strOfNums b_1.Bytes).toList)))] a ∧ St w em hV [slP k_api_Value v_a_0_Args a_0.Args, slP (kInt .u8) v_a_0_Bytes a_0.Bytes, slP k_api_Value v_b_1_Args b_1.Args, slP (kInt .u8) v_b_1_Bytes b_1.Bytes] [boxO b7 [.int .u8 b_1.Kind, .int .i64 b_1.Method, v_b_1_Args, v_b_1_Bytes] 34, boxO b5 [.int .u8 a_0.Kind, .int .i64 a_0.Method, v_a_0_Args, v_a_0_Bytes] 34] w2) ?_ ?_
      · rintro a w2 ⟨ha, hw⟩
        refine SP.app ha hw ?_
        clear ha hw a w2
        refine SP.val (Val.assign rfl) rfl rfl rfl ?_
        refine SP.nil ?_
        refine QE.then ?_
        refine CP.ret ?_
        obtain rfl := Option.some.inj ho
        exact QE.rets (rs := [.tmp 4]) (vs := [.bool (t14 && ((strOfNums a_0.Bytes).toList == (strOfNums b_1.Bytes).toList))]) Try.results43 rfl ⟨RVs.tmp rfl, trivial⟩ (fun w2 h => St.done (fun a b p s => rfl) h)
      · intro J
        by_cases hc : t14 = true
        · have hq16 := hc
          refine SP.isT (d := 24) rfl hq16 ?_
          refine SP.val (Val.fieldAddr Try.underlying34 rfl sz24 rfl) rfl rfl rfl ?_
          refine SP.val (Val.load1 1 rfl Try.underlying24 rfl rfl rfl) rfl rfl rfl ?_
          refine SP.val (Val.convBS see 1 rfl Try.underlying24 Try.underlying5 Try.underlying9 rfl) rfl rfl rfl ?_
          refine SP.val (Val.fieldAddr Try.underlying34 rfl sz24 rfl) rfl rfl rfl ?_
          refine SP.val (Val.load1 0 rfl Try.underlying24 rfl rfl rfl) rfl rfl rfl ?_
          refine SP.val (Val.convBS see 3 rfl Try.underlying24 Try.underlying5 Try.underlying9 rfl) rfl rfl rfl ?_
          refine SP.val (Val.eqlS rfl rfl) rfl rfl rfl ?_
          refine SP.val (Val.pickT rfl rfl) rfl rfl rfl ?_
          exact J fun a w2 ha hw => ⟨ha.sub ⟨congrArg (fun z => some (Value.bool z)) (and_t hq16 rfl), trivial⟩, hw⟩
        · have hq16 := (bf hc)
          refine SP.isF (d := 24) rfl hq16 ?_
          refine SP.not rfl rfl rfl ?_
          refine SP.not rfl rfl rfl ?_
          refine SP.not rfl rfl rfl ?_
          refine SP.not rfl rfl rfl ?_
          refine SP.not rfl rfl rfl ?_
          refine SP.not rfl rfl rfl ?_
          refine SP.not rfl rfl rfl ?_
          refine SP.val (Val.pickF rfl rfl) rfl rfl rfl ?_
          exact J fun a w2 ha hw => ⟨ha.sub ⟨congrArg (fun z => some (Value.bool z)) (and_f hq16), trivial⟩, hw⟩
    · intro J
      clear ho
      have ho := hg_t14
      clear hg_t14
      rcases if_some ho with ⟨hc, ho⟩ | ⟨hc, ho⟩
      · have hq12 := hc
        refine SP.isT (d := 17) rfl hq12 ?_
        refine SP.val (Val.fieldAddr Try.underlying34 rfl sz32 rfl) rfl rfl rfl ?_
        refine SP.val (Val.load1 1 rfl Try.underlying32 rfl rfl rfl) rfl rfl rfl ?_
        refine SP.val (Val.fieldAddr Try.underlying34 rfl sz32 rfl) rfl rfl rfl ?_
        refine SP.val (Val.load1 0 rfl Try.underlying32 rfl rfl rfl) rfl rfl rfl ?_
        obtain ⟨t13, hc, ho⟩ := bind_some ho
        refine SP.callV see (caps := []) (.bool t13) fn58 rfl rfl rfl rfl (fun w2 hP hs sub ap => capstanref17_Same.ok a_0.Args b_1.Args _ _ _ hc w2 hP sub (ap.get 0 rfl) (ap.get 2 rfl)) ?_
        clear hc
        refine SP.val (Val.pickT rfl rfl) rfl rfl rfl ?_
        obtain rfl := Option.some.inj ho
        exact J fun a w2 ha hw => ⟨ha.sub ⟨rfl, rfl, rfl, trivial⟩, hw⟩
      · have hq12 := (bf hc)
        refine SP.isF (d := 17) rfl hq12 ?_
        refine SP.not rfl rfl rfl ?_
        refine SP.not rfl rfl rfl ?_
        refine SP.not rfl rfl rfl ?_
        refine SP.not rfl rfl rfl ?_
        refine SP.not rfl rfl rfl ?_
        refine SP.val (Val.pickF rfl rfl) rfl rfl rfl ?_
        obtain rfl := Option.some.inj ho
        exact J fun a w2 ha hw => ⟨ha.sub ⟨rfl, rfl, rfl, trivial⟩, hw⟩
  · intro J
    by_cases hc : a_0.Kind = b_1.Kind
    · have hq10 := (decide_eq_true hc)
      refine SP.isT (d := 10) rfl hq10 ?_
      refine SP.val (Val.fieldAddr Try.underlying34 rfl sz3 rfl) rfl rfl rfl ?_
      refine SP.val (Val.load1 1 rfl Try.underlying3 rfl rfl rfl) rfl rfl rfl ?_
      refine SP.val (Val.fieldAddr Try.underlying34 rfl sz3 rfl) rfl rfl rfl ?_
      refine SP.val (Val.load1 0 rfl Try.underlying3 rfl rfl rfl) rfl rfl rfl ?_
      refine SP.val (Val.eql rfl rfl) rfl rfl rfl ?_
      refine SP.val (Val.pickT rfl rfl) rfl rfl rfl ?_
      exact J fun a w2 ha hw => ⟨ha.sub ⟨rfl, rfl, congrArg (fun z => some (Value.bool z)) (and_t hq10 rfl), trivial⟩, hw⟩
    · have hq10 := (decide_eq_false hc)
      refine SP.isF (d := 10) rfl hq10 ?_
      refine SP.not rfl rfl rfl ?_
      refine SP.not rfl rfl rfl ?_
      refine SP.not rfl rfl rfl ?_
      refine SP.not rfl rfl rfl ?_
      refine SP.not rfl rfl rfl ?_
      refine SP.val (Val.pickF rfl rfl) rfl rfl rfl ?_
      exact J fun a w2 ha hw => ⟨ha.sub ⟨rfl, rfl, congrArg (fun z => some (Value.bool z)) (and_f hq10), trivial⟩, hw⟩
end Go.Proofs.Ytbejlahmhloloaa
end
