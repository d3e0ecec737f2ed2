/-
  KnownMatchesReference: for every input the law returns true, and each argument reads afterwards as before; the like for what stands beside it. Condition: the listed package-level variables read as the program's text lays them (the ca.
-/
import Derived.Test.YteeifhlhpiimoaaGreatDoorCards
import Derived.Test.YteeifhlhpiimoaaGreatDoorTie
import Derived.Test.YteeifhlhpiimoaaGreatDoorXAa
import Derived.Test.YteeifhlhpiimoaaGreatDoorXAp
import Derived.Test.YteeifhlhpiimoaaGreatDoorXAq
import Derived.Test.YteeifhlhpiimoaaGreatDoorXAk
import Derived.Test.YteeifhlhpiimoaaGreatDoorXAl
import Derived.Test.YteeifhlhpiimoaaGreatDoorXAv
import Derived.Test.YteeifhlhpiimoaaGreatDoorXAw
import Derived.Stop.LaidErr
import Derived.Deep.DeepHandedRow
import Derived.Lib.LaidTab
import Derived.Lay
import Derived.Test.YteeifhlhpiimoaaGreatDoorXCf
set_option maxHeartbeats 4000000
set_option maxRecDepth 100000
open Go.Act renaming put→sV
open Go.Addr renaming add→jy
open Go.OpenSpec renaming ofChange→NU
open Go.Proofs.Tryz renaming checked→Uo,f8→sW,func8→UC,prog→ah
open List renaming setIfInBounds_toArray→ta,set_cons_succ→tc,set_cons_zero→td
namespace Go.Proofs.YteeifhlhpiimoaaGreatDoor.lawKnownMatchesReference
open Go.ChangeShapes Go.WideShapes Go.ChangeAt Go.RowKit
open Go.ChangeMaps (open_string)
theorem own:ownKnob ah.godebug=none:=by kernel_rfl
theorem laidOut:laidOutB ah=true:=by kernel_rfl
theorem ami:∀t∈sW.params.toList,ah.readableRec t=true∧t<ah.types.size:=by
 have h:(sW.params.toList.all fun t=>ah.readableRec t&&decide (t<ah.types.size))=true:=by kernel_rfl
 intro t ht;have:=List.all_eq_true.1 h t ht;simpa using this
theorem facts {W:World} (h:laidMetH ah Rows.knownMatchesReferenceRow.laid W):dY W:=by
 have h1:laidMet ah Rows.knownMatchesReferenceRow.laid W:=h;have h2:=h1.tail.tail;exact Lib.tabIs_of_head (g:=2) (by kernel_rfl) (by kernel_rfl) Tryz.underlying320 Tryz.underlying203 (by kernel_rfl) (by kernel_rfl) h2
theorem contract (H:Type) (enc:TypeId×Value→H) (W:World) (base:Nat) (args:Array Value) (ds gs:List (DataW H)) (before:List MemPlace)
 (hval:∀(j:Nat) t v,sW.params[j]?=some t→args[j]?=some v→Value.okWide ah W .any base t v)
 (hW:DataW.Whole enc ah sW.params.toList Rows.knownMatchesReferenceSpec.vars false W args.toList ds gs before) (hL:laidMetH ah Rows.knownMatchesReferenceRow.laid W):
 Calls ah 8 args W fun e W'=> ∃v,e=.returned v∧Rows.knownMatchesReferenceSpec.post enc ah sW false true false false W args v W':=by
 have Q9:=hW;obtain⟨p,q,mB,hV,rfl,Mj,wX⟩:=hW;have hA:DataW.TrodAll enc ah W 0 (fun _=>true) true sW.params.toList args.toList ds p:=mB;rw[Tryz.params8] at hA hval;obtain⟨v0,vs0,d0,ds0,p0,q0,apT,rfl,rfl,h0,r0⟩:=trodAll_cons hA;obtain⟨v1,vs1,d1,ds1,p1,q1,rfl,rfl,rfl,h1,r1⟩:=trodAll_cons r0;obtain⟨v2,vs2,d2,ds2,p2,q2,rfl,rfl,rfl,h2,r2⟩:=trodAll_cons r1;obtain⟨v3,vs3,d3,ds3,p3,q3,rfl,rfl,rfl,h3,r3⟩:=trodAll_cons r2;obtain⟨rfl,rfl,rfl⟩:=trodAll_nil r3;obtain rfl:args=#[v0,v1,v2,v3]:=by cases args;simp_all
 obtain⟨rfl,rfl⟩:=trodVars_none hV;obtain⟨x1A,x1,x1c,rfl,apg,aph⟩:=alM (hval 0 25 v0 rfl rfl) h0;obtain⟨x2A,x2,x2c,rfl,api,apj,apk⟩:=alN (hval 1 22 v1 rfl rfl) h1;obtain⟨x3,rfl,_,_,w2⟩:=open_int Tryz.underlying3 (hval 2 3 v2 rfl rfl) h2;have c2:=bounds_i64 w2;obtain⟨x4a,x4b,x4c,rfl,apl,apm,apn⟩:=alL (hval 3 67 v3 rfl rfl) h3;refine(akR x1 x1A _ x1c ⟨rfl,apg⟩ x2 x2A _ x2c rfl api apk x3 x4a x4b x4c ⟨c2.1,c2.2⟩ apl apm apn W (facts hL) aph apj).mono fun e W' ⟨he,hb⟩=>?_;subst he;exact⟨_,rfl,akW laidOut ami rfl Tryz.underlying4 rfl Q9 rfl hb⟩
def Kk:Array Value:=#[.slice none 0 0,.slice none 0 0,.int .i64 0,.agg #[.int .i64 0,.int .i64 0,.int .i64 0]]
noncomputable def SH (os:Os):World:=World.laidAll ah os Rows.knownMatchesReferenceRow.laid
theorem akV (os:Os):laidMet ah Rows.knownMatchesReferenceRow.laid ((SH os).forCall (fun _ _=>0) ⟨#[],Kk,[]⟩).memory:=
 laidMet_laidAll Kk (by kernel_rfl) (by kernel_rfl)
theorem reads (os:Os) {H:Type} (enc:TypeId×Value→H):∃places,DataW.whole enc ah ((SH os).forCall (fun _ _=>0) ⟨#[],Kk,[]⟩).memory sW.params.toList Rows.knownMatchesReferenceSpec.vars false Kk.toList 8=some ([.nil,.nil,.lit (.int .i64 0),.agg [.lit (.int .i64 0),.lit (.int .i64 0),.lit (.int .i64 0)]],[],places):=
 ⟨[],by kernel_rfl⟩
theorem lifted (os:Os) (started:os.Started) (H:Type) (enc:TypeId×Value→H) (F:Stop.Interp):
 ReturnsInHanded {} Uo os 8 .any ((NU Rows.knownMatchesReferenceSpec).preRow enc ah sW Rows.knownMatchesReferenceRow.domain false Rows.knownMatchesReferenceRow.laid) (((NU Rows.knownMatchesReferenceSpec).at F).post enc ah sW false true false false):=by
 obtain⟨places,hx⟩:=reads os enc
 refine returnsInHanded_of_row (C:=Uo) (s:=NU Rows.knownMatchesReferenceSpec) own started (by kernel_rfl) UC
  (witness_row_at (enc:=enc) (C:=Uo) false (SH os) Kk (World.laidAll_os _ _ _) (by kernel_rfl) (by kernel_rfl) (by kernel_rfl)
    (OpenSpec.preRow_of_cond 8 hx (by kernel_rfl) (fun k hk=>by cases hk) (by kernel_rfl) (akV os))) ?_
 intro W base args ds gs before hval hW _ _ _ hL _ _;exact contract H enc W base args ds gs before hval hW hL
theorem said:Rows.KnownMatchesReferenceSaid:=
 OpenClaim.holds_of_cond 8 sW rfl rfl rfl rfl rfl rfl rfl ⟨rfl,rfl,rfl,rfl,rfl⟩ rfl rfl rfl rfl rfl (by kernel_rfl) UC aie
  (of_decide_eq_true (by kernel_rfl)) (by unfold Func.isWrapper;rw[if_neg (of_decide_eq_false (by kernel_rfl))];exact⟨rfl,rfl⟩)
  (fun os started H enc _ F=>by rw[OpenClaim.pre_eq_preRow];exact lifted os started H enc F)
theorem plain (f:FuncId) (fn:Func) (hf:Tryz.pinned.checked.prog.funcNamed "yardstick/yardsticklaw19.KnownMatchesReference"=some f) (sG:Tryz.pinned.checked.prog.funcs[f]?=some fn):
 true=Tryz.pinned.checked.prog.looks []∧∀(j:Nat) t,fn.params[j]?=some t→Tryz.pinned.checked.prog.wantsStandIn t=false:=by
 obtain rfl:f=8:=Option.some.inj ((show ah.funcNamed "yardstick/yardsticklaw19.KnownMatchesReference"=some 8 by kernel_rfl).symm.trans hf)|>.symm;obtain rfl:fn=sW:=(Option.some.inj (UC.symm.trans sG)).symm;refine⟨by kernel_rfl,fun j t ht=>?_⟩;have h:(sW.params.toList.all fun t=>ah.wantsStandIn t==false)=true:=by kernel_rfl
 have h2:=List.all_eq_true.1 h t (Array.mem_toList_iff.2 (Array.mem_of_getElem? ht));have h3:ah.wantsStandIn t=false:=by simpa using h2
 exact h3
theorem card:Rows.KnownMatchesReferenceCardSaid:=
 Claim7.holds_tied_plain_at .later [] _ _ _ _ said (fun _ h=>by cases h) (by kernel_rfl) (fun _ h=>by cases h) knownMatchesReference_row_tie rfl ⟨rfl,rfl⟩ (by kernel_rfl) rfl plain (by kernel_rfl)
end Go.Proofs.YteeifhlhpiimoaaGreatDoor.lawKnownMatchesReference
