/- The row of the law VerifyLoads, out of its pure statement: printed by row.py of this session. -/
import Derived.Test.YtehjiiebjkkcmaaGreatDoorRows
import Derived.Test.YtehjiiebjkkcmaaGreatDoorW2xVerifyLoads
import Derived.Test.YtehjiiebjkkcmaaGreatDoorGVerifyLoads
import Derived.Test.YtehjiiebjkkcmaaGreatDoorGVerifyLoadsF
import Derived.Test.YtehjiiebjkkcmaaGreatDoorGVerifyLoadsC
import Derived.WalkKit
import Derived.ProofKit
import Derived.OpenShut
import Derived.ShutString
import Derived.ChangeOld
import Derived.Below
import Derived.SizedLaws
import Derived.LaidMore
import Derived.Lay
import Derived.Stop.Joined
import Derived.SevenTiedAt
import Derived.Test.YtehjiiebjkkcmaaGreatDoorTie
import Derived.Test.YtehjiiebjkkcmaaGreatDoorCards
set_option linter.unusedVariables false
set_option linter.unusedSimpArgs false
namespace Go.Proofs.YtehjiiebjkkcmaaGreatDoor.verifyLoads
open Go.Q Go.ChangeShapes Go.WideShapes Go.ChangeAt
abbrev Z3k:List (String×DataW Unit):=[("capstan/op.bounds",Rows.laid_capstan_op_bounds),("capstan/value.sizes",Rows.laid_capstan_value_sizes)]
theorem Zj0(os:Os)(args:Array Value):laidMetH Tryz.prog Z3k ((World.laidAll Tryz.prog os Z3k).forCall (fun _ _=>0) ⟨#[],args,[]⟩).memory:=by
  rw[MakeChecks.laidMetH_plain _ _ _ (by kernel_rfl)];exact laidMet_laidAll _ (by kernel_rfl) (by kernel_rfl)
theorem Zhh(W:World)(h:laidMetH Tryz.prog Z3k W):(Xi ZY 0 XM).p (hp W):=
  ZdX (fun x=>[.int .i64 x.e0,.int .i64 x.e1]) (fun _ _=>by rfl) (Z8N (n := "capstan/op.bounds") (d:=Rows.laid_capstan_op_bounds) (k:=4) (t:=246) h (by kernel_rfl) (by simp[Z3k]) (by kernel_rfl) (by kernel_rfl) (by kernel_rfl) (by kernel_rfl))
theorem Zhi(W:World)(h:laidMetH Tryz.prog Z3k W):(Xi (Uz .i64) 1 Z3E).p (hp W):=
  ZdX (fun x=>[.int .i64 x]) (fun _ _=>by rfl) (Z8N (n := "capstan/value.sizes") (d:=Rows.laid_capstan_value_sizes) (k:=4) (t:=272) h (by kernel_rfl) (by simp[Z3k]) (by kernel_rfl) (by kernel_rfl) (by kernel_rfl) (by kernel_rfl))
set_option maxRecDepth 100000 in
theorem lifted(pure:Ww.Pure)(os:Os)(started:os.Started)(H:Type)(enc:TypeId×Value→H) :
    ReturnsInHanded {} Tryz.checked os 7 .any (fun w args=>(Rows.verifyLoadsSpec.pre enc Tryz.prog Tryz.f7 [] false w args∧laidMetH Tryz.prog Z3k w)∧sizedMet enc Tryz.prog Tryz.f7 (OpenSpec.ofChange Rows.verifyLoadsSpec) false w args) (Rows.verifyLoadsSpec.post enc Tryz.prog Tryz.f7 false true false false):=by
  refine returnsInHanded_of_change_and (C:=Tryz.checked) (X:=fun w _=>laidMetH Tryz.prog Z3k w) (fun _ _ _ hh h=>h.of_heap hh) own started (by kernel_rfl) Tryz.func7
    (ChangeSpec.witness_shaped (enc:=enc) (C:=Tryz.checked) (os:=os) (X:=fun w _=>laidMetH Tryz.prog Z3k w) false (World.laidAll Tryz.prog os Z3k) #[.slice none 0 0] 8 (World.laidAll_os _ _ _) (World.shaped_of_ZipB (by kernel_rfl) (by kernel_rfl)) (by kernel_rfl) (by kernel_rfl) (by kernel_rfl) (Zj0 os _)) ?_
  intro W base args ds gs before hval0 hW hcnd hsz0 hL _;have hval:∀(j:Nat) t v,Tryz.f7.params[j]?=some t→args[j]?=some v→Value.okWide Tryz.prog W .any base t v:=hval0;have hW':=hW;obtain⟨p,q,hA0,hV,rfl,hfz,hnd⟩:=hW;have hA:DataW.TrodAll enc Tryz.prog W 0 (fun _=>true) true Tryz.f7.params.toList args.toList ds p:=hA0;rw[Tryz.params7]at hA hval;obtain⟨v0,vs0,d0,ds0,p0,q0,hargs,rfl,rfl,h0,r0⟩:=trodAll_cons hA;obtain⟨rfl,rfl,rfl⟩:=trodAll_nil r0;obtain rfl:args = #[v0]:=by cases args;simp_all
  obtain⟨rfl,rfl⟩:=trodVars_none hV;have k0:=h0;have lt0:∀x∈p0,x.block<W.heap.size:=by obtain⟨m,hm⟩:=k0;exact DataW.trod_lt m _ _ _ hm
  obtain⟨a0,Zoq,cap0,rfl⟩:=okWide_slice Tryz.underlying31 (hval 0 31 v0 rfl rfl);obtain⟨n0,h0⟩:=h0;obtain⟨x0,⟨u0,e0,s0⟩,w0⟩:=(Opens.slice Tryz.underlying31 (Opens.int Tryz.underlying5) cl5 (by decide)) enc W n0 _ _ _ h0;obtain rfl:u0=.slice a0 Zoq cap0:=by have z:[Value.slice a0 Zoq cap0]=[u0]:=e0;simpa using z.symm
  clear hA0 hval0 hsz0;refine(Ww.ok x0 _ true (pure x0 w0) W (hp W) (Sub.refl _) s0 (Zhh W hL) (Zhi W hL)).mono fun e W2 he=>?_;obtain⟨v,rfl,hs⟩:=he;obtain rfl:=hs.known;have bel:=hs.below;exact⟨_,rfl,_,_,_,[],_,[],hW',trodAll_mk1 (Go.RowKit.shut_bool Tryz.underlying4 _),(trodAll_cons_mk (Go.RowKit.Below.trod laidOut (by kernel_rfl) (of_decide_eq_true (by kernel_rfl)) k0 bel lt0) trodAll_mk0),rfl,bel.frame _,fun h=>by cases h⟩
theorem over(pure:Ww.Pure):Rows.verifyLoadsRow.holds Tryz.pinned (OpenSpec.ofChange Rows.verifyLoadsSpec):=
  OpenClaim.holds_of_wide 7 Tryz.f7 rfl rfl rfl rfl rfl rfl rfl ⟨rfl,rfl,rfl,rfl,rfl⟩ rfl rfl rfl rfl rfl Zhg Tryz.func7 closed
    (of_decide_eq_true (by kernel_rfl)) (by unfold Func.isWrapper;first|(rw[if_pos (by decide +kernel)];kernel_rfl)|(rw[if_neg (by decide +kernel)];exact⟨rfl,rfl⟩))
    (fun os started H enc _=>lifted pure os started H enc)
theorem card(pure:Ww.Pure):Rows.VerifyLoadsCardSaid:=
  Claim7.holds_tied_plain_at .later [] [.data,.data] true (true, "592333c7a2a26ae6717ca700cf30a6aab0b7241ec995681c703f16b49cf10f95") true (over pure) (fun _ h=>by cases h) cw (fun _ h=>by cases h) verifyLoads_row_tie rfl ⟨rfl,rfl⟩ cm rfl
    (fun f fn hf hfn=>by
      obtain rfl:f=7:=(sI (Zhg.symm.trans hf)).symm;obtain rfl:fn=Tryz.f7:=(sI (Tryz.func7.symm.trans hfn)).symm;exact⟨cl,fun j t ht=>by
        rw[Tryz.params7]at ht;have hm:t ∈ [31]:=by simpa using Array.mem_of_getElem? ht
        have hall:=List.all_eq_true.1 cs t hm;exact(Bool.not_eq_true' _▸hall)⟩)
    cg
end Go.Proofs.YtehjiiebjkkcmaaGreatDoor.verifyLoads
