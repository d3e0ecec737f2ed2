/-
  From a law's walk to its row: the arguments read behind the call as before it; the like for what stands beside it. Conditions: every type that is read can be read; nothing that lay when the call began has .
-/
import Derived.WalkKit
import Derived.ProofKit
import Derived.OpenShut
import Derived.Deep.Strs
import Derived.Lib.SmallJoins
import Derived.SliceStrings
import Derived.Deep.RegionHeld3
import Derived.Lib.Hide
import Derived.Below
import Derived.Deep.MidRow
import Derived.ChangeSlices
import Derived.Deep.Draws
import Derived.KernelRfl
import Derived.Laws.IdiomStrings
import Derived.Shelf.Abstract
import Derived.TacticsInMore
import Derived.LoopNIn
import Derived.LoopIn
import Derived.Maps.AppendAt
import Derived.Lib.BufferRead
import Derived.Deep.Onto
import Derived.Outline
import Derived.WalkSpells
import Derived.WalkLawsBesides
import Derived.Laws.BitsAllLaws
import Derived.Deep.AppendLies
import Derived.Laws.OwnMore
import Derived.OwnWalk
import Derived.RangeFuncNested
import Derived.RangeFuncBound
import Derived.RangeFuncCalls
import Derived.RangeFuncLeaves
import Derived.RangeFuncWrites
import Derived.RangeFuncBox
import Derived.OwnWalkIn
import Derived.Deep.QuietTactic
import Derived.BigQuiet
import Derived.Test.YteeifhlhpiimoaaGreatDoorProg
set_option maxHeartbeats 2000000
open Array renaming getElem?_eq_some_iff→fU,getElem?_toList→Ko
open Go renaming Act→cu,Addr→bI,AllReadyH→NP,Calls→ax,Code→rL,Exit→mh,Oper→aZ,Operand→ef,Program→eI,TypeDesc→U3,TypeId→bF,Value→ai,World→ae,bytes→iw,callFunc→xM,execOp→ot,invoke→KJ,maxLen→cH,resolve→KL,roundIn_of_wpIn→agb,run_beginRound→agc,run_endLoop→Oe,run_enterLoop_outer→age,undef→cM,wpAnyH→mj,wpAnyH_take→Vd,wpIn_rangeFunc→agi,wpList→dT,yielded→gJ
open Go.Act renaming put→sV
open Go.Addr renaming add→jy
open Go.Calls renaming quiet_of_same→Kq
open Go.Fence renaming wide→gU
open Go.IntKind renaming i64→aQ,wrap_i64→aS
open Go.Oper renaming wp→vQ
open Go.Proofs.Tryz renaming func251→adI,ntmps251→aeN,prog→ah
open Go.Region renaming Mode→UY,free→uv,noSelect→GB,ready→qG,wanted→eD
open Go.Result renaming andThen_ok→sX
open Go.RowKit renaming Below→Oc,Hid→ag
open Go.RowKit.Below renaming heap_alloc→Ee,heap_setCell→fA,refl→bK
open Go.Sem renaming run_bind→sY,run_pure→Ef
open Go.World renaming alloc→af0,alloc_eq→af1,alloc_heap_new→bG,cell?→sZ,cell?_of_block→Eh,cell?_setCell_other→zZ,frozen?_of_block→af3,frozen?_setCell→af4,putObj_heap_other→kZ,putObj_heap_same→Ei,setCell→uw,size_alloc→gI
open Int renaming mul_add→agn,mul_assoc→Ac,mul_comm→xP,mul_le_mul_of_nonneg_left→agp,natCast_mul→agu,one_mul→agw,pow_succ→agx
open List renaming cons_append→s6,drop_eq_getElem_cons→pN,drop_eq_nil_of_le→ux,drop_zero→vW,flatMap_append→Oq,flatMap_cons→rN,getD_eq_getElem?_getD→xQ,getElem?_eq_getElem→bp,getElem?_eq_none→jz,getElem?_eq_some_iff→dL,getElem?_map→El,getElem_cons_drop→agO,length_append→eV,length_cons→eF,length_take→gD,map_cons→nM,map_nil→xR,map_toArray→KP,mem_of_mem_take→Oy,range→dU,range'→xT,range_eq_range'→Vq,setIfInBounds_toArray→ta,set_cons_succ→tc,set_cons_zero→td,take_append_drop→tg,take_of_length_le→eE,take_succ_eq_append_getElem→Oz
open Nat renaming add_sub_cancel→ag1,eq_zero_or_pos→fL,le_refl→aB,le_trans→aV,lt_of_lt_of_le→iX,lt_or_ge→fB,min_eq_left→Cf,mul_le_mul_left→GS,mul_succ→ag5,pow_succ→mQ,strongRecOn→vX,succ_mul→Vt,zero_add→uA
section
namespace Go.Proofs.YteeifhlhpiimoaaGreatDoor
open Go Go.RowKit Go.ChangeShapes Go.WideShapes
theorem aon {H:Type} {enc:bF×ai→H} {P:eI} (hl:laidOutB P=true) {W W':ae} (hb:Below W.heap.size W W'):
 ∀{ts:List bF} {vs:List ai} {ds:List (DataW H)} {ps:List MemPlace},(∀t∈ts,P.readableRec t=true∧t<P.types.size)→
  DataW.TrodAll enc P W 0 (fun _=>true) true ts vs ds ps→DataW.TrodAll enc P W' 0 (fun b=>decide (b<W.heap.size)) true ts vs ds ps:=by
 intro ts
 induction ts with
 |nil=>intro vs ds ps _ h;obtain⟨rfl,rfl,rfl⟩:=trodAll_nil h;exact trodAll_mk0
 | cons t ts ih=>
   intro vs ds ps ht h;have ar:=h.lt;obtain⟨v,vs',d,ds',p,q,rfl,rfl,rfl,h0,h1⟩:=trodAll_cons h;obtain⟨hr,hs⟩:=ht t (List.mem_cons_self ..);exact trodAll_cons_mk (Below.trod hl hr hs h0 hb (fun x hx=>ar x (List.mem_append_left _ hx))) (ih (fun t vB=>ht t (List.mem_cons_of_mem _ vB)) h1)
theorem akW {H:Type} {enc:bF×ai→H} {P:eI} {f:Func} {s:ChangeSpec} {W W':ae} {args:Array ai} {ds gs:List (DataW H)} {before:List MemPlace} {tb:bF}
 (hl:laidOutB P=true) (hr:∀t∈f.params.toList,P.readableRec t=true∧t<P.types.size) (aj8:f.resultTypes=#[tb]) (xa:P.underlying tb=some .bool) (akd:s.vars=[])
 (hW:DataW.Whole enc P f.params.toList s.vars false W args.toList ds gs before) (sG:s.fn H (ds++gs)={results:=[.lit (.bool true)],args:=ds}) (hb:Below W.heap.size W W'):
 s.post enc P f false true false false W args (.bool true) W':=by
 have Q9:=hW;obtain⟨p,q,hA,hV,rfl,Mj,wX⟩:=hW;refine⟨ds,gs,_,[],p,[],Q9,?_,?_,?_,hb.frame _,fun h=>by cases h⟩
 · rw[sG,aj8];exact trodAll_mk1 (shut_bool xa true)
 · rw[sG];exact aon hl hb hr hA
 · rw[sG,akd];rfl
section
variable {H:Type} {enc:bF×ai→H} {P:eI} {W:ae} {base:Nat} {sp:Nat→Bool} {held:Bool}
end
end Go.Proofs.YteeifhlhpiimoaaGreatDoor
end
section
namespace Go.Proofs.YteeifhlhpiimoaaGreatDoor
open Go Go.RowKit Go.Shelf
attribute [local go_sem] Oper.semAt_some
section
variable {P:eI} {md:UY} {ops:Array aZ} {Q:mh→cu→ae→Prop} {S:ae→Prop} {fuel:Nat} {listed:Array Bool} {a a':cu} {w:ae}
theorem rc {i:Nat} {o:aZ} {rs:List Nat}
    (h:∀K':cu→ae→Prop,Shut (∀a w,S w→(S w→mj P md ops Q S fuel (listed.setIfInBounds i true) a w)→K' a w)→if eD o (gJ ops a.tmps)=true then vQ P o a w K' Q else K' (a.put o.dst cM) w)
    (hs:NP P md ops Q S fuel listed a w rs) (ho:ops.toList[i]?=some o:=by rfl):NP P md ops Q S fuel listed a w (i::rs):=AllReadyH.cons (by rw[←Ko];exact ho) h hs
theorem tk {oi:aZ} {v:ai} (i:Nat) (h:mj P md ops Q S fuel (listed.setIfInBounds i true) a' w) (hi:ops.toList[i]?=some oi:=by rfl)
    (hs:GB ops=true:=by kernel_rfl) (hf:uv md ops listed i=true:=by kernel_rfl) (hr:(qG md ops listed).contains i=true:=by kernel_rfl)
    (hw:eD oi (gJ ops a.tmps)=true:=by rfl) (hy:∀w,S w→(ot a.eval oi).run P w=.ok (.value v) w:=by intro w nh;(try dsimp only at nh);go_simp<;>with_reducible rfl)
    (hQ:∀c a w,Q (.panic c) (a.put oi.dst v) w→Q (.panic c) a w:=by exact fun _ _ _ h=>h) (hS:S w:=by assumption)
    (ha:a.put oi.dst v=a':=by(try simp only[sV,ta,td,tc]);first|done|rfl):mj P md ops Q S (fuel+1) listed a w:=
  Vd (by rw[←Ko];exact hi) hs hf hr hQ (.inl ⟨hw,hy⟩) hS (ha▸h)
theorem eC {o0:aZ} {v0:ai} {o1:aZ} {v1:ai} {a1 a2:cu} (i j:Nat) (h:mj P md ops Q S fuel ((listed.setIfInBounds i true).setIfInBounds j true) a2 w) (hs:GB ops=true:=by kernel_rfl)
    (h0:ops.toList[i]?=some o0:=by rfl) (f0:uv md ops listed i=true:=by kernel_rfl) (r0:(qG md ops listed).contains i=true:=by kernel_rfl) (w0:eD o0 (gJ ops a.tmps)=true:=by rfl) (y0:∀w,S w→(ot a.eval o0).run P w=.ok (.value v0) w:=by intro w nh;(try dsimp only at nh);go_simp<;>with_reducible rfl) (q0:∀c a w,Q (.panic c) (a.put o0.dst v0) w→Q (.panic c) a w:=by exact fun _ _ _ h=>h) (e0:a.put o0.dst v0=a1:=by(try simp only[sV,ta,td,tc]);first|done|rfl)
    (h1:ops.toList[j]?=some o1:=by rfl) (f1:uv md ops (listed.setIfInBounds i true) j=true:=by kernel_rfl) (r1:(qG md ops (listed.setIfInBounds i true)).contains j=true:=by kernel_rfl) (w1:eD o1 (gJ ops a1.tmps)=true:=by rfl) (y1:∀w,S w→(ot a1.eval o1).run P w=.ok (.value v1) w:=by intro w nh;(try dsimp only at nh);go_simp<;>with_reducible rfl) (q1:∀c a w,Q (.panic c) (a.put o1.dst v1) w→Q (.panic c) a w:=by exact fun _ _ _ h=>h) (e1:a1.put o1.dst v1=a2:=by(try simp only[sV,ta,td,tc]);first|done|rfl) (hS:S w:=by assumption):mj P md ops Q S (fuel+2) listed a w:=
  tk i (tk j (h) h1 hs f1 r1 w1 y1 q1 hS e1) h0 hs f0 r0 w0 y0 q0 hS e0
theorem dr {o0:aZ} {v0:ai} {o1:aZ} {v1:ai} {o2:aZ} {v2:ai} {a1 a2 a3:cu} (i j k:Nat) (h:mj P md ops Q S fuel (((listed.setIfInBounds i true).setIfInBounds j true).setIfInBounds k true) a3 w) (hs:GB ops=true:=by kernel_rfl)
    (h0:ops.toList[i]?=some o0:=by rfl) (f0:uv md ops listed i=true:=by kernel_rfl) (r0:(qG md ops listed).contains i=true:=by kernel_rfl) (w0:eD o0 (gJ ops a.tmps)=true:=by rfl) (y0:∀w,S w→(ot a.eval o0).run P w=.ok (.value v0) w:=by intro w nh;(try dsimp only at nh);go_simp<;>with_reducible rfl) (q0:∀c a w,Q (.panic c) (a.put o0.dst v0) w→Q (.panic c) a w:=by exact fun _ _ _ h=>h) (e0:a.put o0.dst v0=a1:=by(try simp only[sV,ta,td,tc]);first|done|rfl)
    (h1:ops.toList[j]?=some o1:=by rfl) (f1:uv md ops (listed.setIfInBounds i true) j=true:=by kernel_rfl) (r1:(qG md ops (listed.setIfInBounds i true)).contains j=true:=by kernel_rfl) (w1:eD o1 (gJ ops a1.tmps)=true:=by rfl) (y1:∀w,S w→(ot a1.eval o1).run P w=.ok (.value v1) w:=by intro w nh;(try dsimp only at nh);go_simp<;>with_reducible rfl) (q1:∀c a w,Q (.panic c) (a.put o1.dst v1) w→Q (.panic c) a w:=by exact fun _ _ _ h=>h) (e1:a1.put o1.dst v1=a2:=by(try simp only[sV,ta,td,tc]);first|done|rfl)
    (h2:ops.toList[k]?=some o2:=by rfl) (f2:uv md ops ((listed.setIfInBounds i true).setIfInBounds j true) k=true:=by kernel_rfl) (r2:(qG md ops ((listed.setIfInBounds i true).setIfInBounds j true)).contains k=true:=by kernel_rfl) (w2:eD o2 (gJ ops a2.tmps)=true:=by rfl) (y2:∀w,S w→(ot a2.eval o2).run P w=.ok (.value v2) w:=by intro w nh;(try dsimp only at nh);go_simp<;>with_reducible rfl) (q2:∀c a w,Q (.panic c) (a.put o2.dst v2) w→Q (.panic c) a w:=by exact fun _ _ _ h=>h) (e2:a2.put o2.dst v2=a3:=by(try simp only[sV,ta,td,tc]);first|done|rfl) (hS:S w:=by assumption):mj P md ops Q S (fuel+3) listed a w:=
  tk i (tk j (tk k (h) h2 hs f2 r2 w2 y2 q2 hS e2) h1 hs f1 r1 w1 y1 q1 hS e1) h0 hs f0 r0 w0 y0 q0 hS e0
theorem bg {o0:aZ} {v0:ai} {o1:aZ} {v1:ai} {o2:aZ} {v2:ai} {o3:aZ} {v3:ai} {a1 a2 a3 a4:cu} (i j k l:Nat) (h:mj P md ops Q S fuel ((((listed.setIfInBounds i true).setIfInBounds j true).setIfInBounds k true).setIfInBounds l true) a4 w) (hs:GB ops=true:=by kernel_rfl)
    (h0:ops.toList[i]?=some o0:=by rfl) (f0:uv md ops listed i=true:=by kernel_rfl) (r0:(qG md ops listed).contains i=true:=by kernel_rfl) (w0:eD o0 (gJ ops a.tmps)=true:=by rfl) (y0:∀w,S w→(ot a.eval o0).run P w=.ok (.value v0) w:=by intro w nh;(try dsimp only at nh);go_simp<;>with_reducible rfl) (q0:∀c a w,Q (.panic c) (a.put o0.dst v0) w→Q (.panic c) a w:=by exact fun _ _ _ h=>h) (e0:a.put o0.dst v0=a1:=by(try simp only[sV,ta,td,tc]);first|done|rfl)
    (h1:ops.toList[j]?=some o1:=by rfl) (f1:uv md ops (listed.setIfInBounds i true) j=true:=by kernel_rfl) (r1:(qG md ops (listed.setIfInBounds i true)).contains j=true:=by kernel_rfl) (w1:eD o1 (gJ ops a1.tmps)=true:=by rfl) (y1:∀w,S w→(ot a1.eval o1).run P w=.ok (.value v1) w:=by intro w nh;(try dsimp only at nh);go_simp<;>with_reducible rfl) (q1:∀c a w,Q (.panic c) (a.put o1.dst v1) w→Q (.panic c) a w:=by exact fun _ _ _ h=>h) (e1:a1.put o1.dst v1=a2:=by(try simp only[sV,ta,td,tc]);first|done|rfl)
    (h2:ops.toList[k]?=some o2:=by rfl) (f2:uv md ops ((listed.setIfInBounds i true).setIfInBounds j true) k=true:=by kernel_rfl) (r2:(qG md ops ((listed.setIfInBounds i true).setIfInBounds j true)).contains k=true:=by kernel_rfl) (w2:eD o2 (gJ ops a2.tmps)=true:=by rfl) (y2:∀w,S w→(ot a2.eval o2).run P w=.ok (.value v2) w:=by intro w nh;(try dsimp only at nh);go_simp<;>with_reducible rfl) (q2:∀c a w,Q (.panic c) (a.put o2.dst v2) w→Q (.panic c) a w:=by exact fun _ _ _ h=>h) (e2:a2.put o2.dst v2=a3:=by(try simp only[sV,ta,td,tc]);first|done|rfl)
    (h3:ops.toList[l]?=some o3:=by rfl) (f3:uv md ops (((listed.setIfInBounds i true).setIfInBounds j true).setIfInBounds k true) l=true:=by kernel_rfl) (r3:(qG md ops (((listed.setIfInBounds i true).setIfInBounds j true).setIfInBounds k true)).contains l=true:=by kernel_rfl) (w3:eD o3 (gJ ops a3.tmps)=true:=by rfl) (y3:∀w,S w→(ot a3.eval o3).run P w=.ok (.value v3) w:=by intro w nh;(try dsimp only at nh);go_simp<;>with_reducible rfl) (q3:∀c a w,Q (.panic c) (a.put o3.dst v3) w→Q (.panic c) a w:=by exact fun _ _ _ h=>h) (e3:a3.put o3.dst v3=a4:=by(try simp only[sV,ta,td,tc]);first|done|rfl) (hS:S w:=by assumption):mj P md ops Q S (fuel+4) listed a w:=
  tk i (tk j (tk k (tk l (h) h3 hs f3 r3 w3 y3 q3 hS e3) h2 hs f2 r2 w2 y2 q2 hS e2) h1 hs f1 r1 w1 y1 q1 hS e1) h0 hs f0 r0 w0 y0 q0 hS e0
theorem tn {oi:aZ} (i:Nat) (h:mj P md ops Q S fuel (listed.setIfInBounds i true) a' w) (hi:ops.toList[i]?=some oi:=by rfl)
    (hs:GB ops=true:=by kernel_rfl) (hf:uv md ops listed i=true:=by kernel_rfl) (hr:(qG md ops listed).contains i=true:=by kernel_rfl)
    (hw:eD oi (gJ ops a.tmps)=false:=by rfl)
    (hQ:∀c a w,Q (.panic c) (a.put oi.dst cM) w→Q (.panic c) a w:=by exact fun _ _ _ h=>h) (hS:S w:=by assumption)
    (ha:a.put oi.dst cM=a':=by(try simp only[sV,ta,td,tc]);first|done|rfl):mj P md ops Q S (fuel+1) listed a w:=
  Vd (by rw[←Ko];exact hi) hs hf hr hQ (.inr ⟨hw,rfl⟩) hS (ha▸h)
theorem tl {oi:aZ} {v:ai} (i:Nat) (hi:ops.toList[i]?=some oi) (hy:YieldsIf P ops S oi v a) (h:mj P md ops Q S fuel (listed.setIfInBounds i true) a' w)
    (hs:GB ops=true:=by kernel_rfl) (hf:uv md ops listed i=true:=by kernel_rfl) (hr:(qG md ops listed).contains i=true:=by kernel_rfl)
    (hQ:∀c a w,Q (.panic c) (a.put oi.dst v) w→Q (.panic c) a w:=by exact fun _ _ _ h=>h) (hS:S w:=by assumption)
    (ha:a.put oi.dst v=a':=by(try simp only[sV,ta,td,tc]);first|done|rfl):mj P md ops Q S (fuel+1) listed a w:=
  Vd (by rw[←Ko];exact hi) hs hf hr hQ hy hS (ha▸h)
theorem kk {K:cu→ae→Prop} (hK:Shut (∀a w,S w→(S w→mj P md ops Q S fuel listed a w)→K a w)) (hS:S w) (h:S w→mj P md ops Q S fuel listed a' w)
    (ha:a=a':=by(try simp only[sV,ta,td,tc]);first|done|rfl):K a w:=hK.out a w hS (fun x=>ha▸h x)
theorem rd (rs:List Nat) (h:NP P md ops Q S fuel listed a w rs) (hr:qG md ops listed=rs:=by kernel_rfl) (bf:rs≠[]:=by simp):mj P md ops Q S (fuel+1) listed a w:=wpAnyH_ready hr bf h
theorem dn (h:Q .normal a w) (hr:qG md ops listed=[]:=by kernel_rfl):mj P md ops (NoPanic Q) S fuel listed a w:=wpAnyH_done hr (NoPanic.normal h) _
end
theorem dx {P:eI} {md:UY} {ops:Array aZ} {Q:mh→cu→ae→Prop} {S:ae→Prop} {fuel:Nat} {listed:Array Bool} {a:cu} {w:ae} {i:Nat} {o:aZ}
    (h:∀K':cu→ae→Prop,Shut (∀a w,S w→(S w→mj P md ops Q S fuel (listed.setIfInBounds i true) a w)→K' a w)→if eD o (gJ ops a.tmps)=true then vQ P o a w K' Q else K' (a.put o.dst cM) w)
    (ho:ops.toList[i]?=some o:=by rfl):NP P md ops Q S fuel listed a w [i]:=rc h AllReadyH.nil ho
theorem rE {P:eI} {md:UY} {ops:Array aZ} {Q:mh→cu→ae→Prop} {S:ae→Prop} {fuel:Nat} {listed:Array Bool} {a:cu} {w:ae} {o:aZ} (i:Nat)
    (h:∀K':cu→ae→Prop,Shut (∀a w,S w→(S w→mj P md ops Q S fuel (listed.setIfInBounds i true) a w)→K' a w)→if eD o (gJ ops a.tmps)=true then vQ P o a w K' Q else K' (a.put o.dst cM) w)
    (ho:ops.toList[i]?=some o:=by rfl) (hr:qG md ops listed=[i]:=by kernel_rfl):mj P md ops Q S (fuel+1) listed a w:=rd [i] (dx h ho) hr (by simp)
theorem cJ {P:eI} {ops:Array aZ} {Q:mh→cu→ae→Prop} {id:Nat} {a:cu} {w:ae} (S:ae→Prop) (hS:S w.drew) (h:S w.drew→mj P .any ops (NoPanic Q) S ops.size (Array.replicate ops.size false) a w.drew) (hm:P.follows .mixedOrders=true:=by kernel_rfl):(Code.region id ops true).wp P Q a w:=
  wp_region_noPanic (wp_region_held_drew hm hS h)
theorem lm {P:eI} {ops:Array aZ} {rest:List aZ} {op:aZ} {a:cu} {w:ae} {Q:mh→cu→ae→Prop} {ty:bF} {x:ef} {cs:List ai} {d:U3} (b o:Nat) (hc:w.rangeAt b o cs) (hi:(P.info? ty).map (·.size)=some cs.length) (hu:P.underlying ty=some d)
    (h:dT P ops Q rest (a.put op.dst (.agg cs.toArray)) w) (ct:op.guard=none:=by with_unfolding_all rfl) (ho:op.op=.load ty x:=by with_unfolding_all rfl) (hx:a.eval x=.pointer (some ⟨b,o,none⟩):=by with_unfolding_all first|rfl|simp[jy]) (hd:d.isRow=true:=by with_unfolding_all rfl):dT P ops Q (op::rest) a w:=wpList_load_mid ct ty x ho b o hx cs d hc hu hd hi h
theorem yl {P:eI} {ops:Array aZ} {S:ae→Prop} {op:aZ} {a:cu} {ty:bF} {x:ef} {cs:List ai} {d:U3} (b o:Nat) (hS:∀w,S w→w.rangeAt b o cs) (hi:(P.info? ty).map (·.size)=some cs.length) (hu:P.underlying ty=some d)
    (hw:eD op (gJ ops a.tmps)=true:=by rfl) (ho:op.op=.load ty x:=by rfl) (hx:a.eval x=.pointer (some ⟨b,o,none⟩):=by first|rfl|simp[jy]) (hd:d.isRow=true:=by rfl):YieldsIf P ops S op (.agg cs.toArray) a:=yieldsIf_load_mid hw ty x ho b o hx cs d hS hu hd hi
theorem hZ {p:Prop} (h:p):ag p:=h
theorem oQ {α:Sort _} (x:α):∃q,x=q:=⟨_,rfl⟩
theorem aw {w V W:ae} (h:ag (Oc w.heap.size w V)) (hb:Oc V.heap.size V W):ag (Oc w.heap.size w W):=hZ (h.out.trans (hb.mono h.out.size))
theorem ak {W V:ae} {b:Nat} {cs:Array ai} {T:bF} (hb:Oc W.heap.size W V) (h:ag (W.heap[b]?=some (.cells cs T (0,0)))):ag (V.heap[b]?=some (.cells cs T (0,0))):=hZ ((hb.block b (fU.1 h.out).1).trans h.out)
theorem o7 {α β:Type} {F G:α→β→Prop} {Z:Prop} (h:(∀a b,F a b→G a b)→Z) (g:∀a b,F a b→G a b):Z:=h g
theorem Kd {α β γ:Type} {F G:α→β→γ→Prop} {Z:Prop} (h:(∀a b c,F a b c→G a b c)→Z) (g:∀a b c,F a b c→G a b c):Z:=h g
end Go.Proofs.YteeifhlhpiimoaaGreatDoor
end
section
namespace Go.Proofs.YteeifhlhpiimoaaGreatDoor
open Go Go.RowKit Go.ChangeShapes Go.WideShapes
def dJ {α:Type} (w:ae) (B:Nat) (A:Option bI) (f:α→ai) (l:List α):Prop:=
 ∀i x,l[i]?=some x→∃a,A=some a∧a.block<B∧w.cell? (a.add i)=some (f x)
theorem lr (a:bI) (n:Nat):(a.add n).block=a.block:=by unfold jy;split<;>rfl
theorem AE (a:bI) (i j:Nat):(a.add i).add j=a.add (i+j):=by
 unfold jy
 by_cases hi:i=0<;>by_cases hj:j=0<;>simp[hi,hj,Nat.add_assoc]
theorem Qt {w:ae} {a:bI} {v:ai} (h:w.cell? a=some v):a.block<w.heap.size:=by
 rcases fB a.block w.heap.size with h1|h1
 · exact h1
 · simp[sZ,Array.getElem?_eq_none h1] at h
section
variable {α:Type} {w w':ae} {B B':Nat} {A:Option bI} {f:α→ai} {l:List α}
theorem dJ.nil:dJ w B A f ([]:List α):=fun i x h=>by simp at h
theorem dJ.get (h:dJ w B A f l) {i:Nat} (hi:i<l.length):∃a,A=some a∧a.block<B∧w.cell? (a.add i)=some (f l[i]):=h i _ (bp hi)
theorem dJ.below (h:dJ w B A f l) (hb:Below B w w'):dJ w' B A f l:=fun i x hx=>by
 obtain⟨a,e,hl,hc⟩:=h i x hx;exact⟨a,e,hl,(hb.cell (by rw[lr];exact hl)).trans hc⟩
theorem dJ.more (h:dJ w B A f l) (hB:B≤B'):dJ w B' A f l:=fun i x hx=>by
 obtain⟨a,e,hl,hc⟩:=h i x hx;exact⟨a,e,by omega,hc⟩
theorem dJ.drewN (h:dJ w B A f l) (n:Nat):dJ (w.drewN n) B A f l:=h
theorem dJ.take (h:dJ w B A f l) (k:Nat):dJ w B A f (l.take k):=fun i x hx=>by
 rw[List.getElem?_take] at hx
 split at hx
 · exact h i x hx
 · cases hx
theorem dJ.drop (h:dJ w B A f l) (k:Nat):dJ w B (A.map (·.add k)) f (l.drop k):=fun i x hx=>by
 rw[List.getElem?_drop] at hx;obtain⟨a,rfl,hl,hc⟩:=h _ x hx;exact⟨a.add k,rfl,by rw[lr];exact hl,by rw[AE];exact hc⟩
end
section
variable {H:Type} {enc:bF×ai→H} {P:eI} {W:ae} {base:Nat} {sp:Nat→Bool} {held:Bool} {b0:Nat} {r:Reach}
theorem alO {t e:bF} {v:ai} (ht:P.underlying t=some (.slice e)) (h:Value.okWide P W r b0 t v):v.cells.toList=[v]:=by
 obtain⟨a,l,c,rfl⟩:=okWide_slice ht h;rfl
end
end Go.Proofs.YteeifhlhpiimoaaGreatDoor
end
section
namespace Go.Proofs.YteeifhlhpiimoaaGreatDoor
open Go Go.RowKit Go.Shelf
attribute [local go_sem] Oper.semAt_some
def Tm (n x:Nat):Nat:=x/2^n|||x*2^(32-n)%4294967296
def aa9 (a b c x:Nat):Nat:=0^^^Tm a x^^^Tm b x^^^Tm c x
def ab6 (v:List Nat) (k w:Nat):Nat:=
 ((((v.getD 7 0+aa9 6 11 25 (v.getD 4 0))%4294967296+((v.getD 4 0&&&v.getD 5 0)^^^((4294967295-v.getD 4 0)&&&v.getD 6 0)))%4294967296+k)%4294967296+w)%4294967296
def amZ (v:List Nat):Nat:=
 (aa9 2 13 22 (v.getD 0 0)+((v.getD 0 0&&&v.getD 1 0)^^^(v.getD 0 0&&&v.getD 2 0)^^^(v.getD 1 0&&&v.getD 2 0)))%4294967296
def round (v:List Nat) (k w:Nat):List Nat:=
 [(ab6 v k w+amZ v)%4294967296,v.getD 0 0,v.getD 1 0,v.getD 2 0,(v.getD 3 0+ab6 v k w)%4294967296,v.getD 4 0,v.getD 5 0,v.getD 6 0]
def bv (b:UInt8):ai:=.int .u8 b.toNat
def wv (n:Nat):ai:=.int .u32 n
def nv (n:Nat):ai:=.int .i64 n
structure ew {α:Type} (w:ae) (b:Nat) (f:α→ai) (l:List α):Prop where
 lt:b<w.heap.size
 cell:∀i x,l[i]?=some x→w.cell? ⟨b,i,none⟩=some (f x)
 free:∀i,i<l.length→w.frozen? ⟨b,i,none⟩=false
section
variable {α:Type} {w w':ae} {b B:Nat} {f:α→ai} {l:List α}
theorem ew.below (h:ew w b f l) (hb:Below B w w') (hB:b<B):ew w' b f l:=
 ⟨iX h.lt hb.size,fun i x hx=>(hb.cell (p:=⟨b,i,none⟩) hB).trans (h.cell i x hx),fun i hi=>(hb.frozen (p:=⟨b,i,none⟩) hB).trans (h.free i hi)⟩
theorem ew.drewN (h:ew w b f l) (n:Nat):ew (w.drewN n) b f l:=
 ⟨by simpa using h.lt,fun i x hx=>by simpa using h.cell i x hx,fun i hi=>by simpa using h.free i hi⟩
theorem ew.drew (h:ew w b f l):ew w.drew b f l:=⟨h.lt,h.cell,h.free⟩
theorem ew.get (h:ew w b f l) {i:Nat} (hi:i<l.length):w.cell? ⟨b,i,none⟩=some (f l[i]):=h.cell i _ (bp hi)
theorem ew.Tw (h:ew w b f l) (i:Nat) (hi:i<l.length) (x:α) (v:ai) (hv:v=f x):ew (w.setCell ⟨b,i,none⟩ v) b f (l.set i x):=by
 subst hv;refine⟨by simpa[uw] using h.lt,fun j y hy=>?_,fun j hj=>by rw[af4];exact h.free j (by simpa using hj)⟩;have hc:=h.cell i l[i] (bp hi)
 by_cases e:i=j
 · subst e
   rw[List.getElem?_set_self hi] at hy;cases hy;exact World.cell?_setCell_same' _ _ _ (by rw[hc];rfl)
 · rw[List.getElem?_set_ne e] at hy
   have bf:(⟨b,i,none⟩:bI)≠⟨b,j,none⟩:=fun q=>e (congrArg Addr.off q);exact(zZ _ _ _ _ bf).trans (h.cell j y hy)
theorem ew.other (h:ew w b f l) (p:bI) (hp:p.block≠b) (v:ai):ew (w.setCell p v) b f l:=by
 refine⟨by simpa[uw] using h.lt,fun j y hy=>?_,fun j hj=>by rw[af4];exact h.free j hj⟩;exact(zZ _ _ _ _ (fun q=>hp (by rw[q]))).trans (h.cell j y hy)
theorem ew.sl (h:ew w b f l) {B:Nat} (hB:b<B):dJ w B (some ⟨b,0,none⟩) f l:=fun i x hx=>⟨_,rfl,hB,by have:=h.cell i x hx;rw[show(⟨b,0,none⟩:bI).add i=⟨b,i,none⟩ by simp[jy];omega];exact this⟩
end
theorem ew.Qm {α:Type} {f:α→ai} {l:List α} (w:ae) (vs:Array ai) (t:bF) (h:vs.toList=l.map f):ew (w.alloc (.cells vs t)) w.heap.size f l:=by
 refine⟨by simp,fun i x hx=>?_,fun i _=>by simp[World.frozen?,af0,-af1]⟩;have h2:vs[i]?=some (f x):=by rw[←Ko,h,El,hx];rfl
 simpa[sZ,af0,-af1] using h2
theorem ew.alloc {α:Type} {f:α→ai} {l:List α} {w:ae} {b:Nat} (h:ew w b f l) (o:Obj):ew (w.alloc o) b f l:=
 h.below (B:=w.heap.size) ((bK _ _).alloc (aB _) o) h.lt
theorem ew.range {α:Type} {f:α→ai} {l:List α} {w:ae} {b:Nat} (h:ew w b f l):w.rangeAt b 0 (l.map f):=fun j v hv=>by
 rw[El] at hv;obtain⟨x,hx,rfl⟩:=Option.map_eq_some_iff.1 hv;rw[uA];exact h.cell j x hx
theorem ew.there {α:Type} {f:α→ai} {l:List α} {w:ae} {b:Nat} (h:ew w b f l):w.there b 0 l.length:=fun j hj=>by
 rw[uA];exact⟨by rw[h.get hj];rfl,h.free j hj⟩
theorem Below.setCells {B:Nat} {a:ae} {b:Nat} (hb:B≤b):∀(vs:List ai) (o:Nat) {w:ae},Below B a w→Below B a (w.setCells b o vs)
 |[],_,_,h=>h
 |v::vs,o,w,h=>by rw[World.setCells];exact Below.setCells hb vs _ (h.setCell hb v)
theorem Below.QC {B:Nat} {a w:ae} (h:Below B a w) (n:Nat):Below B a (w.drewN n):=⟨h.os,h.tape,h.output,h.size,h.block⟩
theorem BL {P:eI} {fn:Func} {p:Tmp} {ty:bF} (h:fn.results=#[.cell p ty]) (tmps:Array ai) (w:ae) (b:Nat) (cs:List ai) (d:U3)
 (hp:tmps.getD p cM=.pointer (some ⟨b,0,none⟩)) (hc:w.rangeAt b 0 cs) (hu:P.underlying ty=some d) (hd:d.isRow=true) (hi:(P.info? ty).map (·.size)=some cs.length):
 (results fn tmps).run P w=.ok (.agg cs.toArray) w:=by
 have ij:tmps[p]?.getD cM=.pointer (some ⟨b,0,none⟩):=by simpa using hp
 simp[results,h,ij,asAddr,run_loadVar_mid w b 0 ty cs d hc hu hd hi]
structure jA (g:Nat) (w w':ae):Prop where
 os:w'.os=w.os
 tape:w'.tape=w.tape
 output:w'.output=w.output
 size:w.heap.size≤w'.heap.size
 block:∀k,k<w.heap.size→k≠g→w'.heap[k]?=w.heap[k]?
theorem jA.refl (g:Nat) (w:ae):jA g w w:=⟨rfl,rfl,rfl,aB _,fun _ _ _=>rfl⟩
theorem jA.below {g B:Nat} {w w':ae} (h:jA g w w') (hB:B≤g) (hs:B≤w.heap.size):Below B w w':=⟨h.os,h.tape,h.output,h.size,fun k hk=>h.block k (by omega) (by omega)⟩
theorem jA.gH {g:Nat} {w w':ae} (h:Below w.heap.size w w'):jA g w w':=⟨h.os,h.tape,h.output,h.size,fun k hk _=>h.block k hk⟩
theorem jA.trans {g:Nat} {w w' BS:ae} (h:jA g w w') (h':jA g w' BS):jA g w BS:=
 ⟨h'.os.trans h.os,h'.tape.trans h.tape,h'.output.trans h.output,aV h.size h'.size,fun k hk hg=>(h'.block k (iX hk h.size) hg).trans (h.block k hk hg)⟩
theorem jA.aog {g B:Nat} {w w' BS:ae} (h:jA g w w') (h':Below B w' BS) (hB:w.heap.size≤B):jA g w BS:=
 ⟨h'.os.trans h.os,h'.tape.trans h.tape,h'.output.trans h.output,aV h.size h'.size,fun k hk hg=>(h'.block k (by omega)).trans (h.block k hk hg)⟩
theorem jA.drew {g:Nat} {w w':ae} (h:jA g w w'):jA g w w'.drew:=⟨h.os,h.tape,h.output,h.size,h.block⟩
theorem jA.drewN {g:Nat} {w w':ae} (h:jA g w w') (n:Nat):jA g w (w'.drewN n):=⟨h.os,h.tape,h.output,h.size,h.block⟩
theorem jA.alloc {g:Nat} {w w':ae} (h:jA g w w') (o:Obj):jA g w (w'.alloc o):=
 h.aog ((bK w'.heap.size w').alloc (aB _) o) h.size
theorem jA.setCell {g:Nat} {w w':ae} (h:jA g w w') {p:bI} (hp:p.block=g∨w.heap.size≤p.block) (u:ai):jA g w (w'.setCell p u):=by
 have hb:=(bK p.block w').setCell (aB _) u;refine⟨hb.os.trans h.os,hb.tape.trans h.tape,hb.output.trans h.output,aV h.size hb.size,fun k hk hg=>?_⟩;exact(fA _ _ _ _ (by omega)).trans (h.block k hk hg)
theorem ew.but {α:Type} {f:α→ai} {l:List α} {w w':ae} {b g:Nat} (h:ew w b f l) (hb:jA g w w') (bf:b≠g):ew w' b f l:=
 ⟨iX h.lt hb.size,fun i x hx=>(Eh (a:=⟨b,i,none⟩) (hb.block b h.lt bf)).trans (h.cell i x hx),fun i hi=>(af3 (a:=⟨b,i,none⟩) (hb.block b h.lt bf)).trans (h.free i hi)⟩
theorem ew.convert {P:eI} {w:ae} {b n cap:Nat} {l:List UInt8} (h:ew w b bv l) (hn:l.length=n) (src dst e:bF) (hs:P.underlying src=some (.slice e)) (he:P.underlying e=some (.int .u8)) (hd:P.underlying dst=some .string):
 (Go.convert src dst (.slice (some ⟨b,0,none⟩) n cap)).run P w=.ok (.string ⟨l.toArray⟩) w:=by
 subst hn
 exact run_convert_bytes_back w src dst e ⟨b,0,none⟩ cap l hs he hd (fun j hj=>by
  have:=h.cell j l[j] (bp hj);rw[show(⟨b,0,none⟩:bI).add j=⟨b,j,none⟩ by simp[jy];omega]
  exact this)
section
variable {P:eI} {ops:Array aZ} {rest:List aZ} {op:aZ} {a:cu} {w:ae} {Q:mh→cu→ae→Prop} {α:Type} {f:α→ai} {l m:List α}
end
structure gi (P:eI) (t e:bF) (size iw:Nat):Prop where
 ht:P.underlying t=some (.slice e)
 info:∃i z,P.info? e=some i∧i.zero=some z∧i.size=size∧i.bytes=iw∧z.cells.size=size
 pos:0<size
theorem gi.mk' {P:eI} {t e:bF} {z:ai} {size iw:Nat} (ht:P.underlying t=some (.slice e)) (h:(P.info? e).map (fun i=>(i.zero,i.size,i.bytes))=some (some z,size,iw)) (hz:z.cells.size=size) (hp:0<size):gi P t e size iw:=by
 obtain⟨i,h1,h2,h3,h4⟩:=info_parts h;exact⟨ht,⟨i,z,h1,h2,h3,h4,hz⟩,hp⟩
def one {α:Type} (f:α→ai) (x:α):List ai:=[f x]
def OL {α:Type} (w:ae) (B:Nat) (e:bF) (size:Nat) (f:α→List ai) (v:ai) (l:List α):Prop:=w.ownsRow B e size v l.length (l.flatMap f)
theorem abi {α:Type} (l:List α):l=[]∨∃m x,l=m++[x]:=by
 rcases List.eq_nil_or_concat l with h|⟨m,x,h⟩
 · exact .inl h
 · exact .inr ⟨m,x,by rw[h,List.concat_eq_append]⟩
section
variable {α:Type} {w w':ae} {B:Nat} {e:bF} {size:Nat} {f:α→List ai} {v:ai} {l:List α}
theorem wJ {g:α→ai}:l.flatMap (one g)=l.map g:=by unfold one;induction l with|nil=>rfl|cons x l ih=>rw[rN,nM,ih];rfl
theorem OL.nil:OL w B e size f (.slice none 0 0) []:=World.ownsRow_nil w B e size
theorem OL.form (h:OL w B e size f v l) (hn:0<l.length):∃g cap,v=.slice (some ⟨g,0,none⟩) l.length cap∧B≤g∧g<w.heap.size∧l.length≤cap∧cap≤cH:=by
 rcases h.2 with⟨_,h0⟩|⟨g,cap,cur,hv,hb,hg,hc,hm,_⟩
 · omega
 · exact⟨g,cap,hv,hb,(fU.1 hg).1,hc,hm⟩
theorem OL.slice (h:OL w B e size f v l):∃A cap,v=.slice A l.length cap∧l.length≤cap∧cap≤cH:=by
 rcases h.2 with⟨rfl,h0⟩|⟨g,cap,cur,hv,hb,hg,hc,hm,_⟩
 · exact⟨none,0,by rw[h0],by omega,by unfold cH;omega⟩
 · exact⟨_,cap,hv,hc,hm⟩
theorem OL.lt (h:OL w B e size f v l):∀g,v.ownBlock=some g→B≤g∧g<w.heap.size:=World.ownsRow.lt h
theorem OL.keep (h:OL w B e size f v l) (hs:∀g,v.ownBlock=some g→w'.heap[g]?=w.heap[g]?):OL w' B e size f v l:=by
 refine⟨h.1,?_⟩;rcases h.2 with hn|⟨g,cap,cur,rfl,hb,hg,r⟩
 · exact .inl hn
 · exact .inr ⟨g,cap,cur,rfl,hb,(hs g rfl).trans hg,r⟩
theorem OL.below (h:OL w B e size f v l) {n:Nat} (hb:Below n w w') (hn:w.heap.size≤n):OL w' B e size f v l:=h.keep fun g hg=>hb.block g (by have:=(h.lt g hg).2;omega)
theorem OL.alloc (h:OL w B e size f v l) (o:Obj):OL (w.alloc o) B e size f v l:=World.ownsRow.alloc h o
theorem OL.drew (h:OL w B e size f v l):OL w.drew B e size f v l:=h
theorem OL.drewN (h:OL w B e size f v l) (n:Nat):OL (w.drewN n) B e size f v l:=h.keep fun _ _=>rfl
theorem OL.grown {row:Option Nat} (h:OL w B e size f v l) (hg:w.grownBy w' row) (bf:∀g,v.ownBlock=some g→row≠some g):OL w' B e size f v l:=
 h.keep fun g hv=>hg.block g (h.lt g hv).2 (bf g hv).symm
theorem OL.base {B':Nat} (h:OL w B e size f v l) (hB:B'≤B):OL w B' e size f v l:=by
 refine⟨h.1,?_⟩;rcases h.2 with hn|⟨g,cap,cur,rfl,hb,r⟩
 · exact .inl hn
 · exact .inr ⟨g,cap,cur,rfl,by omega,r⟩
theorem OL.apart {β:Type} {B':Nat} {e':bF} {anm:Nat} {f':β→List ai} {v':ai} {l':List β} (h:OL w B e size f v l) (h':OL w B' e' anm f' v' l') (bf:e≠e'):∀g,v.ownBlock=some g→v'.ownBlock≠some g:=by
 intro g hg Fo;rcases h.2 with⟨rfl,_⟩|⟨g1,cap,cur,rfl,hb,h1,r⟩
 · cases hg
 · rcases h'.2 with⟨rfl,_⟩|⟨g2,apO,apQ,rfl,aA,h2,r2⟩
   · cases Fo
   · cases hg;cases Fo
     rw[h1] at h2;cases h2;exact bf rfl
theorem m_ (hf:∀x,(f x).length=size):(l.flatMap f).length=l.length*size:=by
 induction l with
 |nil=>simp
 |cons x l ih=>rw[rN,eV,ih,hf,eF,Vt,Nat.add_comm]
theorem QK (hf:∀x,(f x).length=size) (k:Nat):(l.flatMap f).take (k*size)=(l.take k).flatMap f:=by
 induction l generalizing k with
 |nil=>simp
 | cons x l ih=>cases k with
   |zero=>simp
   | succ k=>
     rw[rN,List.take_succ_cons,rN,List.take_append,hf,Vt,eE (by rw[hf];omega),ag1,ih]
theorem OL.take {A:Option bI} {n cap:Nat} (h:OL w B e size f (.slice A n cap) l) (hf:∀x,(f x).length=size) (k:Nat) (hk:k≤l.length) (hA:A≠none):OL w B e size f (.slice A k cap) (l.take k):=by
 have ic:(l.take k).length=k:=by simp;omega
 refine⟨by rw[ic];rw[m_ hf,ic],?_⟩;rcases h.2 with⟨he,_⟩|⟨g,fI,cur,he,hb,hg,hc,hm,hs,ht⟩
 · injection he with h1 h2 h3;exact(hA h1).elim
 · injection he with h1 h2 h3
   subst h1 h3;refine .inr ⟨g,cap,cur,by rw[ic],hb,hg,by omega,hm,hs,?_⟩;rw[ic,←QK hf,←ht,List.take_take,Cf (Nat.mul_le_mul_right _ hk)]
theorem OL.get {g:Nat} {n cap:Nat} {φ:α→ai} (h:OL w B e 1 (one φ) (.slice (some ⟨g,0,none⟩) n cap) l) {i:Nat} (hi:i<l.length):w.cell? ⟨g,i,none⟩=some (φ l[i]):=by
 have hn:n=l.length:=by
  rcases h.2 with⟨he,_⟩|⟨g',fI,cur,he,_⟩
  · cases he
  · injection he
 subst hn;rw[World.ownsRow.cellAt h i (by omega),wJ,El,bp hi];rfl
theorem OL.Yn {g:Nat} {n cap:Nat} {φ:α→ai} (h:OL w B e 1 (one φ) (.slice (some ⟨g,0,none⟩) n cap) l) {i:Nat} {x:α} (hi:l[i]?=some x):w.cell? ⟨g,i,none⟩=some (φ x):=by
 obtain⟨h1,h2⟩:=dL.1 hi;rw[h.get h1,h2]
theorem OL.len {A:Option bI} {n cap:Nat} (h:OL w B e size f (.slice A n cap) l):n=l.length∧n≤cap∧cap≤cH:=by
 obtain⟨A',c',he,h1,h2⟩:=h.slice;injection he with _ e2 e3;subst e3;exact⟨e2,by omega,h2⟩
theorem OL.free {g:Nat} {cap:Nat} (h:OL w B e size f (.slice (some ⟨g,0,none⟩) l.length cap) l) (i:Nat):w.frozen? ⟨g,i,none⟩=false:=World.ownsRow.frozenAt h i
theorem OL.MK {A:Option bI} {n cap:Nat} {φ:α→ai} (h:OL w B e 1 (one φ) (.slice A n cap) l):dJ w w.heap.size A φ l:=by
 intro i x hx;have hi:i<l.length:=(dL.1 hx).1;obtain⟨g,fI,he,_,ar,_⟩:=h.form (by omega);cases he;refine⟨_,rfl,ar,?_⟩;rw[show(⟨g,0,none⟩:bI).add i=⟨g,i,none⟩ by simp[jy];omega,h.get hi,(dL.1 hx).2]
theorem Below.F0 {row:Option Nat} (h:w.grownBy w' row) (hr:∀g,row=some g→B≤g) (hB:B≤w.heap.size):Below B w w':=
 ⟨h.os,h.tape,h.output,h.size,fun k hk=>h.block k (by omega) (fun e=>by have:=hr k e.symm;omega)⟩
variable {P:eI} {t:bF} {iw:Nat}
theorem OL.Tq (E:gi P t e size iw) (ty:bF) (h:OL w B e size f v l) (y:α) (b:Nat) (cs:Array ai) (hb:w.heap[b]?=some (.cells cs e (0,0))) (hcs:cs.toList=f y) (Dv:(f y).length=size) (kP:∀u∈f y,u.oneCell'=true)
 (qd:l.length+1≤cH) (qj:(l.length+1)*iw≤140737488355328) (hB:B≤w.heap.size):
 ∃g cap w',(Builtin.append_ #[t,t] ty #[v,.slice (some ⟨b,0,none⟩) 1 1]).run P w=.ok (.slice (some ⟨g,0,none⟩) (l.length+1) cap) w'∧
  OL w' B e size f (.slice (some ⟨g,0,none⟩) (l.length+1) cap) (l++[y])∧w.grownBy w' v.ownBlock∧(v.ownBlock=some g∨g=w.heap.size)∧g<w'.heap.size∧Below B w w':=by
 obtain⟨i,z,h1,h2,h3,h4,h5⟩:=E.info
 obtain⟨g,cap,w',r1,r2,r3,r4,r5⟩:=run_append_lies (P:=P) w t ty B e i z size iw E.ht h1 h2 h3 h4 h5 E.pos v l.length (l.flatMap f) h ⟨b,0,none⟩ 1 1 (f y) (by rw[Dv];omega)
  (by rw[←hcs];exact World.news_of_block hb) kP (by decide) qd qj hB w.heap.size rfl
 refine⟨g,cap,w',r1,?_,r3,r4,r5,Below.F0 r3 (fun g hg=>(h.lt g hg).1) hB⟩;unfold OL;rw[Oq,eV];simpa using r2
theorem OL.Ts (E:gi P t e size iw) (ty:bF) (h:OL w B e size f v l) (hf:∀x,(f x).length=size) (A:Option bI) (m:List α) (k c:Nat) (hk:m.length=k) (lz:A=none→c=0) (hA:∀j x,(m.flatMap f)[j]?=some x→∃a,A=some a∧w.cell? (a.add j)=some x) (kP:∀x∈m,∀u∈f x,u.oneCell'=true)
 (qd:l.length+k≤cH) (qj:(l.length+k)*iw≤140737488355328) (hB:B≤w.heap.size):
 ∃v' w',(Builtin.append_ #[t,t] ty #[v,.slice A k c]).run P w=.ok v' w'∧OL w' B e size f v' (l++m)∧w.grownBy w' v.ownBlock∧Below B w w':=by
 subst hk;obtain⟨i,z,h1,h2,h3,h4,h5⟩:=E.info;have hlen:=m_ (l:=m) hf
 cases A with
 | none=>
   have hm:m=[]:=by
    cases m with
    |nil=>rfl
    | cons x m=>
      have hp:=E.pos;have RA:=hf x;obtain⟨y,hy⟩:∃y,((x::m).flatMap f)[0]?=some y:=⟨_,bp (by rw[hlen,eF,Vt];omega)⟩;obtain⟨a,ha,_⟩:=hA 0 y hy;cases ha
   subst hm;refine⟨v,w,?_,by simpa using h,⟨rfl,rfl,rfl,aB _,fun _ _ _=>rfl⟩,bK _ _⟩;obtain rfl:=lz rfl
   exact run_append_owned_none (P:=P) w B t ty e i size E.ht h1 v l.length (l.flatMap f) h
 | some a=>
   obtain⟨v',w',r1,r2,r3,_,r5⟩:=run_append_own_at (P:=P) w B t ty e i z size iw E.ht h1 h2 h3 h4 h5 E.pos v l.length (l.flatMap f) h a m.length c (m.flatMap f) hlen (fun j u hu=>by
    obtain⟨a',ha,hc⟩:=hA j u hu
    cases ha;exact hc) (fun u hu=>by
    obtain⟨x,hx,hux⟩:=List.mem_flatMap.1 hu
    exact kP x hx u hux) qd qj hB
   refine⟨v',w',r1,?_,r3,Below.F0 r3 (fun g hg=>(h.lt g hg).1) hB⟩;unfold OL;rw[Oq,eV];exact r2
theorem TU {ops:Array aZ} {rest:List aZ} {o:aZ} {a:cu} {Q:mh→cu→ae→Prop} (ct:o.guard=none) (s x:ef) (t:bF)
 (ho:o.op=.call {callee:=.builtin .append,args:=#[s,x],argTypes:=#[t,t]}) (E:gi P t e size iw) (hf:∀x,(f x).length=size) (v:ai) (l:List α) (hs:a.eval s=v) (h:OL w B e size f v l) (A:Option bI) (m:List α) (k c:Nat) (hk:m.length=k) (hx:a.eval x=.slice A k c) (lz:A=none→c=0)
 (hA:∀j x,(m.flatMap f)[j]?=some x→∃a,A=some a∧w.cell? (a.add j)=some x) (kP:∀x∈m,∀u∈f x,u.oneCell'=true) (qd:l.length+k≤cH) (qj:(l.length+k)*iw≤140737488355328) (hB:B≤w.heap.size)
 (sI:∀v' w',OL w' B e size f v' (l++m)→w.grownBy w' v.ownBlock→Below B w w'→dT P ops Q rest (a.put o.dst v') w'):dT P ops Q (o::rest) a w:=by
 refine wpList_plain ct fun K hK=>?_;obtain⟨v',w',r1,r2,r3,r4⟩:=h.Ts (P:=P) E o.type hf A m k c hk lz hA kP qd qj hB;unfold vQ ot;simp only[ho,KL,KJ,builtin,sY,Ef,sX,KP,nM,xR,hs,hx,r1];exact hK _ _ (sI v' w' r2 r3 r4)
theorem nJ {ops:Array aZ} {rest:List aZ} {o:aZ} {a:cu} {Q:mh→cu→ae→Prop} (ct:o.guard=none) (s x:ef) (t:bF)
 (ho:o.op=.call {callee:=.builtin .append,args:=#[s,x],argTypes:=#[t,t]}) (E:gi P t e size iw) (v:ai) (l:List α) (n:Nat) (hn:l.length=n) (hs:a.eval s=v) (h:OL w B e size f v l) (y:α) (b:Nat) (cs:Array ai) (hx:a.eval x=.slice (some ⟨b,0,none⟩) 1 1)
 (hb:w.heap[b]?=some (.cells cs e (0,0))) (hcs:cs.toList=f y) (Dv:(f y).length=size) (kP:∀u∈f y,u.oneCell'=true) (qd:l.length+1≤cH) (qj:(l.length+1)*iw≤140737488355328) (hB:B≤w.heap.size)
 (hk:∀g cap w',OL w' B e size f (.slice (some ⟨g,0,none⟩) (n+1) cap) (l++[y])→w.grownBy w' v.ownBlock→(v.ownBlock=some g∨g=w.heap.size)→g<w'.heap.size→Below B w w'→dT P ops Q rest (a.put o.dst (.slice (some ⟨g,0,none⟩) (n+1) cap)) w'):
 dT P ops Q (o::rest) a w:=by
 subst hn;refine wpList_plain ct fun K hK=>?_;obtain⟨g,cap,w',r1,r2,r3,r4,r5,r6⟩:=h.Tq (P:=P) E o.type y b cs hb hcs Dv kP qd qj hB;unfold vQ ot;simp only[ho,KL,KJ,builtin,sY,Ef,sX,KP,nM,xR,hs,hx,r1];exact hK _ _ (hk g cap w' r2 r3 r4 r5 r6)
theorem Ns {ops:Array aZ} {o:aZ} {a:cu} {K:cu→ae→Prop} {Q:mh→cu→ae→Prop} {D:Prop} (ct:o.guard=none) (s x:ef) (t:bF)
 (ho:o.op=.call {callee:=.builtin .append,args:=#[s,x],argTypes:=#[t,t]}) (E:gi P t e size iw) (v:ai) (l:List α) (n:Nat) (hn:l.length=n) (hs:a.eval s=v) (h:OL w B e size f v l) (y:α) (b:Nat) (cs:Array ai) (hx:a.eval x=.slice (some ⟨b,0,none⟩) 1 1)
 (hb:w.heap[b]?=some (.cells cs e (0,0))) (hcs:cs.toList=f y) (Dv:(f y).length=size) (kP:∀u∈f y,u.oneCell'=true) (qd:l.length+1≤cH) (qj:(l.length+1)*iw≤140737488355328) (hB:B≤w.heap.size)
 (hk:∀g cap w',OL w' B e size f (.slice (some ⟨g,0,none⟩) (n+1) cap) (l++[y])→w.grownBy w' v.ownBlock→(v.ownBlock=some g∨g=w.heap.size)→g<w'.heap.size→Below B w w'→K (a.put o.dst (.slice (some ⟨g,0,none⟩) (n+1) cap)) w'):
 if eD o (gJ ops a.tmps)=true then vQ P o a w K Q else D:=by
 subst hn;have hw:eD o (gJ ops a.tmps)=true:=by simp[eD,ct]
 rw[if_pos hw];obtain⟨g,cap,w',r1,r2,r3,r4,r5,r6⟩:=h.Tq (P:=P) E o.type y b cs hb hcs Dv kP qd qj hB;unfold vQ ot;simp only[ho,KL,KJ,builtin,sY,Ef,sX,KP,nM,xR,hs,hx,r1];exact hk g cap w' r2 r3 r4 r5 r6
end
def cU:List Nat→Nat
 |[]=>0
 |d::l=>d+10000*cU l
def aD (n:Nat):List Nat:=if n=0 then[] else n%10000::aD (n/10000)
termination_by n
decreasing_by omega
def mr (l:List Nat):Prop:=∀d∈l,d<10000
theorem oY:aD 0=[]:=by rw[aD,if_pos rfl]
theorem xh {n:Nat} (h:0<n):aD n=n%10000::aD (n/10000):=by rw[aD,if_neg (by omega)]
theorem om (n:Nat):cU (aD n)=n:=by
 induction n using vX with
 | ind n ih=>
   rcases fL n with rfl|h
   · rw[oY];rfl
   · rw[xh h,cU,ih (n/10000) (by omega)];omega
theorem rA (n:Nat):mr (aD n):=by
 induction n using vX with
 | ind n ih=>
   rcases fL n with rfl|h
   · rw[oY];intro d hd;cases hd
   · rw[xh h]
     intro d hd;rcases List.mem_cons.1 hd with rfl|hd
     · omega
     · exact ih (n/10000) (by omega) d hd
theorem DU {n:Nat}:aD n=[]↔n=0:=by
 constructor
 · intro h
   have:=om n;rw[h] at this;exact this.symm
 · rintro rfl;exact oY
def gY (l:List Nat):List Nat:=match l with
 |[]=>[]
 |d::l=>if d=0∧gY l=[] then[] else d::gY l
theorem MW {l:List Nat} (h:mr l):aD (cU l)=gY l:=by
 induction l with
 |nil=>rw[cU,oY];rfl
 | cons d l ih=>
   have hd:=h d (by simp);have MF:=ih fun x hx=>h x (by simp[hx]);rw[cU,gY]
   by_cases h0:d+10000*cU l=0
   · have hl:cU l=0:=by omega
     rw[hl,oY] at MF;rw[h0,oY,if_pos ⟨by omega,MF.symm⟩]
   · rw[xh (by omega),show(d+10000*cU l)%10000=d by omega,show(d+10000*cU l)/10000=cU l by omega,MF,if_neg]
     rintro⟨rfl,hn⟩;rw[←MF,DU] at hn;omega
theorem NA (a b:List Nat):cU (a++b)=cU a+10000^a.length*cU b:=by
 induction a with
 |nil=>simp[cU]
 | cons d a ih=>
   rw[s6,cU,cU,ih,eF,mQ,Nat.mul_add,Nat.mul_comm (10000^a.length) 10000,Nat.mul_assoc];omega
theorem Kj {l:List Nat} (h:mr l):cU l<10000^l.length:=by
 induction l with
 |nil=>simp[cU]
 | cons d l ih=>
   have hd:=h d (by simp);have:=ih fun x hx=>h x (by simp[hx]);rw[cU,eF,mQ];omega
theorem aoi (l:List Nat):gY (l++[0])=gY l:=by
 induction l with
 |nil=>rfl
 |cons d l ih=>rw[s6,gY,gY,ih]
theorem aoh (l:List Nat) {d:Nat} (h:d≠0):gY (l++[d])=l++[d]:=by
 induction l with
 |nil=>show gY [d]=[d];unfold gY;rw[if_neg (fun q=>h q.1)];rfl
 |cons e l ih=>rw[s6,gY,ih,if_neg (fun q=>by simp at q)]
theorem MU {a b:Nat} (h:(aD a).length<(aD b).length):a<b:=by
 apply Classical.byContradiction;intro hn;have ar:=Kj (rA a);rw[om] at ar
 have key:∀n:Nat,0<n→10000^((aD n).length-1)≤n:=by
  intro n
  induction n using vX with
  | ind n ih=>
    intro hp;rw[xh hp,eF,ag1];rcases fL (n/10000) with h0|h0
    · rw[h0,oY];simp;omega
    · have:=ih (n/10000) (by omega) h0
      have hl:0<(aD (n/10000)).length:=by
       rw[xh h0];simp
      (have e:(aD (n/10000)).length=(aD (n/10000)).length-1+1:=by omega);rw[e,mQ];omega
 have hb:0<b:=by
  rcases fL b with rfl|q
  · rw[oY] at h;simp at h
  · exact q
 have h1:=key b hb;have h2:10000^(aD a).length≤10000^((aD b).length-1):=Nat.pow_le_pow_right (by decide) (by omega);omega
def kj (a b:Nat):Int:=if a<b then -1 else if b<a then 1 else 0
theorem aip {l m:List Nat} {i:Nat} (hl:mr l) (hm:mr m) (hi:i<l.length) (jn:l.length=m.length) (hd:l.drop (i+1)=m.drop (i+1)) (bf:l[i]≠m[i]):kj (cU l) (cU m)=kj (l[i]) (m[i]):=by
 have e1:l=l.take i++l[i]::l.drop (i+1):=by rw[agO,tg]
 have e2:m=m.take i++m[i]::m.drop (i+1):=by rw[agO,tg]
 have v1:cU l=cU (l.take i)+10000^i*(l[i]+10000*cU (l.drop (i+1))):=by
  conv=>lhs;rw[e1]
  rw[NA,cU,gD,Cf (by omega)]
 have v2:cU m=cU (m.take i)+10000^i*(m[i]+10000*cU (m.drop (i+1))):=by
  conv=>lhs;rw[e2]
  rw[NA,cU,gD,Cf (by omega)]
 have b1:=Kj (l:=l.take i) fun d hd=>hl d (Oy hd);have b2:=Kj (l:=m.take i) fun d hd=>hm d (Oy hd);rw[gD,Cf (by omega)] at b1 b2;rw[hd] at v1;rw[v1,v2];generalize cU (l.take i)=x1 at*;generalize cU (m.take i)=x2 at*;generalize cU (m.drop (i+1))=y at*;generalize l[i]=p at*;generalize m[i]=q at*;generalize 10000^i=t at*;unfold kj;rcases Nat.lt_or_gt_of_ne bf with h|h
 · have:t*(p+10000*y)+t≤t*(q+10000*y):=by rw[←ag5];exact GS _ (by omega)
   rw[if_pos (by omega),if_pos h]
 · have:t*(q+10000*y)+t≤t*(p+10000*y):=by rw[←ag5];exact GS _ (by omega)
   rw[if_neg (by omega),if_pos (by omega),if_neg (by omega),if_pos h]
def vI:List Int→Int
 |[]=>0
 |d::l=>d+10000*vI l
structure qK (T:Int) (gs:List Int) (i:Nat) (out:List Nat) (c:Int):Prop where
 oG:mr out
 len:out.length=i
 val:(cU out:Int)+(10000:Int)^i*(c+vI (gs.drop i))=T
theorem qK.start (gs:List Int):qK (vI gs) gs 0 [] 0:=⟨fun d hd=>(by cases hd),rfl,by simp[cU]⟩
theorem aiR (gs:List Int) (i:Nat):vI (gs.drop i)=gs.getD i 0+10000*vI (gs.drop (i+1)):=by
 rcases fB i gs.length with h|h
 · rw[pN h,vI,xQ,bp h];rfl
 · rw[ux h,ux (by omega),xQ,jz h];rfl
theorem J3 (i:Nat):((10000^i:Nat):Int)=(10000:Int)^i:=by
 induction i with
 |zero=>rfl
 |succ i ih=>rw[mQ,agx,agu,ih];rfl
theorem qK.step {T:Int} {gs:List Int} {i:Nat} {out:List Nat} {c:Int} (h:qK T gs i out c) {d:Nat} {c':Int} (hd:d<10000) (hs:gs.getD i 0+c=(d:Int)+10000*c'):qK T gs (i+1) (out++[d]) c':=by
 refine⟨fun x hx=>?_,by rw[eV,h.len];rfl,?_⟩
 · rcases List.mem_append.1 hx with q|q
   · exact h.oG x q
   · rw[List.mem_singleton.1 q];exact hd
 · have hv:=h.val
   rw[aiR gs i] at hv;rw[NA,h.len,←hv,agx,Int.natCast_add,agu,J3];show(cU out:Int)+(10000:Int)^i*((d+10000*0:Nat):Int)+_=_;(have e:c+(gs.getD i 0+10000*vI (gs.drop (i+1)))=(d:Int)+10000*(c'+vI (gs.drop (i+1))):=by omega);rw[e,agn ((10000:Int)^i) (d:Int),Ac];simp only[Nat.mul_zero,Nat.add_zero];omega
theorem qK.carry {T:Int} {gs:List Int} {i:Nat} {out:List Nat} {c:Int} (h:qK T gs i out c) (hT:0≤T) (hi:gs.length≤i):0≤c:=by
 have hv:=h.val;rw[ux hi] at hv;have hb:=Kj h.oG;rw[h.len] at hb;have nk:(cU out:Int)<(10000:Int)^i:=by rw[←J3];omega
 apply Classical.byContradiction;intro hn;have hp:(0:Int)≤(10000:Int)^i:=by rw[←J3];omega
 have:(10000:Int)^i*(c+vI [])≤(10000:Int)^i*(-1):=agp (by show c+0≤ -1;omega) hp;omega
theorem qK.done {T:Int} {gs:List Int} {i:Nat} {out:List Nat} (h:qK T gs i out 0) (hi:gs.length≤i) {n:Nat} (hn:T=n):gY out=aD n:=by
 have hv:=h.val;rw[ux hi] at hv
 have:cU out=n:=by
  have e:(10000:Int)^i*(0+vI [])=0:=by show _*(0+0)=_;simp
  omega
 rw[←MW h.oG,this]
def Ff (l m:List Nat):List Int:=(dU (max l.length m.length)).map fun i=>((l.getD i 0:Nat):Int)+(m.getD i 0:Nat)
def Fe (l m:List Nat):List Int:=(dU l.length).map fun i=>((l.getD i 0:Nat):Int)-(m.getD i 0:Nat)
def Fb (l:List Nat) (k:Nat):List Int:=(dU l.length).map fun i=>((l.getD i 0:Nat):Int)*k
theorem Nz {f:Nat→Int} (n:Nat):∀k,vI ((xT k (n+1)).map f)=f k+10000*vI ((xT (k+1) n).map f):=fun k=>by rw[List.range'_succ,nM,vI]
theorem TO (f g:Nat→Int) (a b:Int):∀n k,vI ((xT k n).map fun i=>a*f i+b*g i)=a*vI ((xT k n).map f)+b*vI ((xT k n).map g):=by
 intro n
 induction n with
 |zero=>intro k;simp[vI]
 | succ n ih=>
   intro k;rw[Nz,Nz,Nz,ih (k+1)];simp only[agn];(have e1:a*(10000*vI ((xT (k+1) n).map f))=10000*(a*vI ((xT (k+1) n).map f)):=by rw[←Ac,xP a,Ac]);(have e2:b*(10000*vI ((xT (k+1) n).map g))=10000*(b*vI ((xT (k+1) n).map g)):=by rw[←Ac,xP b,Ac]);rw[e1,e2];omega
theorem Ki (l:List Nat):∀n k,l.length≤k+n→vI ((xT k n).map fun i=>((l.getD i 0:Nat):Int))=(cU (l.drop k):Int):=by
 intro n
 induction n with
 |zero=>intro k h;rw[ux (by omega)];rfl
 | succ n ih=>
   intro k h;rw[Nz,ih (k+1) (by omega)];rcases fB k l.length with q|q
   · rw[pN q,cU,xQ,bp q]
     show((l[k]:Nat):Int)+_=_;omega
   · rw[ux q,ux (by omega),xQ,jz q]
     rfl
theorem ajx (l m:List Nat):vI (Ff l m)=(cU l:Int)+cU m:=by
 unfold Ff;have h:=TO (fun i=>((l.getD i 0:Nat):Int)) (fun i=>((m.getD i 0:Nat):Int)) 1 1 (max l.length m.length) 0;simp only[agw] at h;rw[Vq,h,Ki l _ 0 (by omega),Ki m _ 0 (by omega),vW,vW]
theorem ajw (l m:List Nat) (h:m.length≤l.length):vI (Fe l m)=(cU l:Int)-cU m:=by
 unfold Fe;have h1:=TO (fun i=>((l.getD i 0:Nat):Int)) (fun i=>((m.getD i 0:Nat):Int)) 1 (-1) l.length 0;simp only[agw,Int.neg_mul,←Int.sub_eq_add_neg] at h1;rw[Vq,h1,Ki l _ 0 (by omega),Ki m _ 0 (by omega),vW,vW]
theorem ajq (l:List Nat) (k:Nat):vI (Fb l k)=(cU l:Int)*k:=by
 unfold Fb;have h1:=TO (fun i=>((l.getD i 0:Nat):Int)) (fun _=>0) (k:Int) 0 l.length 0;simp only[Int.zero_mul,Int.add_zero,xP (k:Int)] at h1;rw[Vq,h1,Ki l _ 0 (by omega),vW]
structure aO (Z:Nat→Prop) (A B:ae):Prop where
 os:B.os=A.os
 tape:B.tape=A.tape
 output:B.output=A.output
 size:A.heap.size≤B.heap.size
 block:∀k,k<A.heap.size→¬Z k→B.heap[k]?=A.heap[k]?
theorem aO.refl (Z:Nat→Prop) (A:ae):aO Z A A:=⟨rfl,rfl,rfl,aB _,fun _ _ _=>rfl⟩
theorem aO.trans {Z:Nat→Prop} {A B C:ae} (h:aO Z A B) (k:aO Z B C):aO Z A C:=
 ⟨k.os.trans h.os,k.tape.trans h.tape,k.output.trans h.output,aV h.size k.size,fun i hi hz=>(k.block i (iX hi h.size) hz).trans (h.block i hi hz)⟩
theorem aO.mono {Z Z':Nat→Prop} {A B:ae} (h:aO Z A B) (hz:∀k,Z k→Z' k):aO Z' A B:=
 ⟨h.os,h.tape,h.output,h.size,fun k hk hn=>h.block k hk (fun e=>hn (hz k e))⟩
theorem aO.alloc {Z:Nat→Prop} (A:ae) (o:Obj):aO Z A (A.alloc o):=⟨rfl,rfl,rfl,by simp,fun k hk _=>Ee A o k hk⟩
theorem aO.setCell {Z:Nat→Prop} (A:ae) (p:bI) (v:ai) (hz:Z p.block):aO Z A (A.setCell p v):=
 ⟨rfl,rfl,rfl,by simp[uw],fun k _ hn=>fA A p v k (fun e=>hn (by rw[e];exact hz))⟩
theorem aO.putObj {Z:Nat→Prop} (A:ae) (l:Nat) (o:Obj) (hz:Z l):aO Z A (A.putObj l o):=
 ⟨rfl,rfl,rfl,by simp,fun k _ hn=>kZ (fun e=>hn (by rw[e];exact hz))⟩
theorem aO.drew {Z:Nat→Prop} (A:ae):aO Z A A.drew:=⟨rfl,rfl,rfl,aB _,fun _ _ _=>rfl⟩
theorem aO.gH {Z:Nat→Prop} {A B:ae} (h:Below A.heap.size A B):aO Z A B:=⟨h.os,h.tape,h.output,h.size,fun k hk _=>h.block k hk⟩
theorem aO.cell {Z:Nat→Prop} {A B:ae} (h:aO Z A B) {p:bI} (hp:p.block<A.heap.size) (hz:¬Z p.block):B.cell? p=A.cell? p:=Eh (w:=A) (h.block p.block hp hz)
theorem aO.frozen {Z:Nat→Prop} {A B:ae} (h:aO Z A B) {p:bI} (hp:p.block<A.heap.size) (hz:¬Z p.block):B.frozen? p=A.frozen? p:=af3 (w:=A) (h.block p.block hp hz)
theorem aO.boxed {Z:Nat→Prop} {A B:ae} (h:aO Z A B) {b:Nat} {t:bF} {v:ai} (hb:Boxed A b t v) (hz:¬Z b):Boxed B b t v:=(h.block b hb.lt hz).trans hb
theorem aO.below {Z:Nat→Prop} {n:Nat} {w A B:ae} (h:aO Z A B) (hb:Below n w A) (hn:n≤w.heap.size) (hz:∀k,Z k→n≤k):Below n w B:=
 hb.trans ⟨h.os,h.tape,h.output,h.size,fun k hk=>h.block k (iX hk (aV hn hb.size)) (fun e=>by have:=hz k e;omega)⟩
theorem aO.ownsRow {Z:Nat→Prop} {A B:ae} (h:aO Z A B) {base:Nat} {e:bF} {size:Nat} {v:ai} {n:Nat} {xs:List ai} (hr:A.ownsRow base e size v n xs) (hz:∀k,Z k→k<base):B.ownsRow base e size v n xs:=by
 obtain⟨h1,h2⟩:=hr;refine⟨h1,?_⟩;rcases h2 with h2|⟨g,cap,cur,hv,hg,hh,r⟩
 · exact Or.inl h2
 · exact Or.inr ⟨g,cap,cur,hv,hg,(h.block g (fU.1 hh).1 (fun e=>by have:=hz g e;omega)).trans hh,r⟩
def tG {α:Type} (P:eI) (g:Nat) (lb:Array ai) (my:α→Array ai) (Z:Nat→Prop) (Kp:ae→ae→Prop) (S Sp:List α→Prop) (N:Nat) (w:ae):Prop:=
 ∀ (l:Nat) (J Jx:List α→ae→Prop) (W:ae),Below w.heap.size w W→
  (∀s A B,J s A→aO Z A B→J s B)→(∀s A B,Jx s A→aO Z A B→Jx s B)→
  (∀pre x W1,J pre W1→pre.length<N→YieldAt gU 1 P l (my x) W1 fun e W'=>
    (e=.returned (.bool true)∧J (pre++[x]) W'∧Kp W1 W')∨(e=.returned (.bool false)∧Jx (pre++[x]) W'))→
  J [] W→
  CallsIn gU 2 P g (#[.func (.yield l) #[] #[]]++lb) W fun e W'=>(∃v,e=.returned v)∧((∃xs,S xs∧J xs W')∨(∃pre,Sp pre∧Jx pre W'))
def M1 {α:Type} (B:Nat) (Kp:ae→ae→Prop) (I:List α→ae→Prop) (Ix:rL→List α→ae→Prop) (xs:List α) (W:ae):mh→cu→ae→Prop
 |.normal,_,W'=>KeepsFrom B W W'∧Kp W W'∧I xs W'
 |.ret,_,W'=>KeepsFrom B W W'∧Ix .ret xs W'
 |.exit id,_,W'=>KeepsFrom B W W'∧Ix (.exit id) xs W'
 |.goto t,_,W'=>KeepsFrom B W W'∧Ix (.goto t) xs W'
 |.panic _,_,_=>False
 |.outgrown,_,_=>False
theorem KeepsFrom.gH {B:Nat} {W W':ae} (h:Below W.heap.size W W'):KeepsFrom B W W':=
 ⟨h.size,fun k _ _ hk _=>(h.block k (fU.1 hk).1).trans hk⟩
def mw (w:ae) (k:Nat):Prop:=k=w.heap.size∨k=w.heap.size+1
theorem TV {P:eI} {α:Type} {g:ef} {ps:Array Tmp} {assign body:rL} {Q:mh→cu→ae→Prop} {a:cu} {w:ae}
 {gf:Nat} {lb:Array ai} (hg:a.eval g=.func (.func gf) #[] lb) (eg:∀args w,(xM gf args).run P w=.ok (.enter gf args) w)
 {my:α→Array ai} {Z:Nat→Prop} {Kp:ae→ae→Prop} {S Sp:List α→Prop} {N:Nat} {w0:ae} (DP:tG P gf lb my Z Kp S Sp N w0) (dt:Below w0.heap.size w0 w)
 (hZ:∀k,Z k→k<w.heap.size) (nu:∀x,(my x).size=ps.size)
 (uU:∀{A B C:ae},Kp A B→Kp B C→Kp A C) (wN:∀(W:ae) (o:Obj),Kp W (W.putObj (w.heap.size+1) o))
 (I:List α→ae→Prop) (Ix:rL→List α→ae→Prop)
 (hI:∀s A B,I s A→aO (fun k=>Z k∨mw w k) A B→I s B) (hIx:∀c s A B,Ix c s A→aO (fun k=>Z k∨mw w k) A B→Ix c s B) (h0:I [] w) (Il:α→cu)
 (Di:∀(l:Nat) (x:α) (W:ae) (K:cu→ae→Prop),K (Il x) W→
   assign.wpIn (gU.inRound l) 1 P (Exit.then K (fun _ _ _=>False)) {tmps:=(ps.zip (my x)).foldl (fun t (p,v)=>t.setIfInBounds p v) a.tmps,defers:=[]} W)
 (Dl:∀(l:Nat) (pre:List α) (x:α) (W:ae),w.heap.size+2≤W.heap.size→I pre W→pre.length<N→body.wpIn (gU.inRound l) 1 P (M1 w.heap.size Kp I Ix (pre++[x]) W) (Il x) W)
 (Dp:∀(xs:List α) (W:ae),S xs→I xs W→W.heap[w.heap.size]?=some (.deferred (some []))→Q .normal {a with defers:={target:=.collected w.heap.size,args:=#[]}::a.defers} W)
 (DQ:∀(c:rL) (pre:List α) (W:ae),Sp pre→Ix c pre W→W.heap[w.heap.size]?=some (.deferred (some []))→c.wpIn gU 3 P Q {a with defers:={target:=.collected w.heap.size,args:=#[]}::a.defers} W):
 (Code.rangeFunc g ps assign body).wpIn gU 3 P Q a w:=by
 refine agi fun fn sG=>?_;obtain⟨rc,iU⟩:∃rc:LoopState→Option rL→Loop,rc=fun st pe=>{state:=st,pending:=pe,fn,tmps:=a.tmps,params:=ps,assign,body,defers:=w.heap.size}:=⟨_,rfl⟩;obtain⟨W1,b_⟩:=oQ ((w.alloc (.deferred (some []))).alloc (.loop (rc .ready none)));have aU:W1.heap.size=w.heap.size+2:=by rw[←b_];simp
 have qg:W1.heap[w.heap.size+1]?=some (.loop (rc .ready none)):=by
  have:=bG (w.alloc (.deferred (some []))) (.loop (rc .ready none));rw[gI] at this;rw[←b_];exact this
 have Fg:W1.heap[w.heap.size]?=some (.deferred (some [])):=by
  rw[←b_];exact(Ee _ _ _ (by simp)).trans (bG w _)
 have oH:aO (fun k=>Z k∨mw w k) w W1:=by rw[←b_];exact(aO.alloc _ _).trans (aO.alloc _ _)
 have aq:Below w0.heap.size w0 W1:=by
  rw[←b_];exact(dt.alloc dt.size _).alloc (by have:=dt.size;simp;omega) _
 have yV:¬Z w.heap.size:=fun e=>by have:=hZ _ e;omega
 have yW:¬Z (w.heap.size+1):=fun e=>by have:=hZ _ e;omega
 refine⟨w.heap.size+1,[{target:=.collected w.heap.size,args:=#[]}],W1,{target:=.fn (.func gf) lb,args:=#[.func (.yield (w.heap.size+1)) #[] #[]]},W1,gf,
  #[.func (.yield (w.heap.size+1)) #[] #[]]++lb,W1,?_,?_,fun _ _=>trivial,?_,fun h=>by simp[gU] at h,?_⟩
 · rw[←b_,iU];exact age _ _ _ _ _
 · simp only[KL,hg]
   simp[go_sem]
 · simp[KJ,go_sem,eg]
 · refine(DP (w.heap.size+1)
    (fun pre W=>I pre W∧w.heap.size+2≤W.heap.size∧W.heap[w.heap.size+1]?=some (.loop (rc .ready none))∧W.heap[w.heap.size]?=some (.deferred (some [])))
    (fun pre W=> ∃c,Ix c pre W∧w.heap.size+2≤W.heap.size∧W.heap[w.heap.size+1]?=some (.loop (rc .done (some c)))∧W.heap[w.heap.size]?=some (.deferred (some [])))
    W1 aq
    (fun s A B h t=>⟨hI s A B h.1 (t.mono fun _ e=>.inl e),aV h.2.1 t.size,(t.block _ (by omega) yW).trans h.2.2.1,(t.block _ (by omega) yV).trans h.2.2.2⟩)
    (fun s A B h t=>by
      obtain⟨c,hc,hs,hl,hd⟩:=h
      exact⟨c,hIx c s A B hc (t.mono fun _ e=>.inl e),aV hs t.size,(t.block _ (by omega) yW).trans hl,(t.block _ (by omega) yV).trans hd⟩)
    ?_ ⟨hI _ _ _ h0 oH,by omega,qg,Fg⟩).mono ?_
   · rintro pre x W ⟨hi,hs,hl,hd⟩ hlen
     have hy:=run_yield (P:=P) (args:=my x) hl (by rw[iU];exact nu x);rw[iU] at hy;refine⟨fn,_,assign,body,hy,agb sG (Di _ x W _ ⟨_,agc hl (by rw[iU]),?_⟩)⟩;obtain⟨W2,eY⟩:∃W2,W.putObj (w.heap.size+1) (.loop {rc .ready none with state:=.busy})=W2:=⟨_,rfl⟩;(have eO:w.heap.size+2≤W2.heap.size:=by rw[←eY];simpa using hs);(have ga:W2.heap[w.heap.size+1]?=some (.loop {rc .ready none with state:=.busy}):=by rw[←eY];exact Ei (by omega));(have gQ:W2.heap[w.heap.size]?=some (.deferred (some [])):=by rw[←eY];exact(kZ (by omega)).trans hd);(have Bg:I pre W2:=by rw[←eY];exact hI _ _ _ hi (aO.putObj _ _ _ (.inr (.inr rfl))));(have kt:Kp W W2:=by rw[←eY];exact wN _ _);rw[eY];refine wpIn_mono (Dl _ pre x W2 eO Bg hlen) ?_
     have fin:∀(jump:Option rL) (W3:ae),KeepsFrom w.heap.size W2 W3→∃W4,W4=W3.putObj (w.heap.size+1) (.loop (rc (if jump.isNone then .ready else .done) jump))∧
      (Instr.endRound (w.heap.size+1) jump).run P W3=.ok (.bool jump.isNone) W4∧aO (fun k=>Z k∨mw w k) W3 W4∧w.heap.size+2≤W4.heap.size∧
      W4.heap[w.heap.size+1]?=some (.loop (rc (if jump.isNone then .ready else .done) jump))∧W4.heap[w.heap.size]?=some (.deferred (some [])):=by
      intro jump W3 hk;have vn:=hk.same _ _ (by omega) ga rfl;have kO:=hk.same _ _ (by omega) gQ rfl;have jM:=aV eO hk.size;have he:=run_endRound (P:=P) jump vn;rw[iU] at he⊢;exact⟨_,rfl,he,aO.putObj _ _ _ (.inr (.inr rfl)),by simpa using jM,Ei (by omega),(kZ (by omega)).trans kO⟩
     rintro e a3 W3 hp
     cases e with
     | normal=>
       obtain⟨W4,e4,hr,ht,gy,jW,jK⟩:=fin none W3 hp.1
       exact⟨_,W4,hr,.inl ⟨rfl,⟨hI _ _ _ hp.2.2 ht,gy,jW,jK⟩,uU kt (uU hp.2.1 (by rw[e4];exact wN _ _))⟩⟩
     | ret=>
       obtain⟨W4,_,hr,ht,gy,jW,jK⟩:=fin (some .ret) W3 hp.1
       exact⟨_,W4,hr,.inr ⟨rfl,.ret,hIx _ _ _ _ hp.2 ht,gy,jW,jK⟩⟩
     | exit id=>
       obtain⟨W4,_,hr,ht,gy,jW,jK⟩:=fin (some (.exit id)) W3 hp.1
       exact⟨_,W4,hr,.inr ⟨rfl,.exit id,hIx _ _ _ _ hp.2 ht,gy,jW,jK⟩⟩
     | goto t=>
       obtain⟨W4,_,hr,ht,gy,jW,jK⟩:=fin (some (.goto t)) W3 hp.1
       exact⟨_,W4,hr,.inr ⟨rfl,.goto t,hIx _ _ _ _ hp.2 ht,gy,jW,jK⟩⟩
     |panic ch=>exact hp.elim
     |outgrown=>exact hp.elim
   · rintro e W2 ⟨⟨v,rfl⟩,(⟨xs,hS,hi,hs,hl,hd⟩|⟨pre,IU,c,hi,hs,hl,hd⟩)⟩
     · have he:=Oe (P:=P) hl (by rw[iU];simp)
       rw[iU] at he;exact⟨none,_,he,Dp _ _ hS (hI _ _ _ hi (aO.putObj _ _ _ (.inr (.inr rfl)))) ((kZ (by omega)).trans hd)⟩
     · have he:=Oe (P:=P) hl (by rw[iU];simp)
       rw[iU] at he;exact⟨some c,_,he,DQ c pre _ IU (hIx _ _ _ _ hi (aO.putObj _ _ _ (.inr (.inr rfl)))) ((kZ (by omega)).trans hd)⟩
theorem apa {P:eI} {α:Type} {g:ef} {ps:Array Tmp} {assign body:rL} {Q:mh→cu→ae→Prop} {a:cu} {w:ae}
 {gf:Nat} {lb:Array ai} (hg:a.eval g=.func (.func gf) #[] lb) (eg:∀args w,(xM gf args).run P w=.ok (.enter gf args) w)
 {my:α→Array ai} {Z:Nat→Prop} {Kp:ae→ae→Prop} {S Sp:List α→Prop} {N:Nat} {w0:ae} (DP:tG P gf lb my Z Kp S Sp N w0) (dt:Below w0.heap.size w0 w)
 (hZ:∀k,Z k→k<w.heap.size) (nu:∀x,(my x).size=ps.size)
 (uU:∀{A B C:ae},Kp A B→Kp B C→Kp A C) (wN:∀(W:ae) (o:Obj),Kp W (W.putObj (w.heap.size+1) o))
 (I:List α→ae→Prop) (Ix:rL→List α→ae→Prop)
 (hI:∀s A B,I s A→aO (fun k=>Z k∨mw w k) A B→I s B) (hIx:∀c s A B,Ix c s A→aO (fun k=>Z k∨mw w k) A B→Ix c s B) (h0:I [] w) (R:α→cu→ae→Prop)
 (hR:∀x a' A B,R x a' A→aO (fun k=>Z k∨mw w k) A B→R x a' B) (sF:∀A B:ae,w.heap.size+2≤A.heap.size→Below A.heap.size A B→Kp A B)
 (Di:∀(l:Nat) (x:α) (W:ae) (K:cu→ae→Prop),w.heap.size+2≤W.heap.size→(∀a' W',R x a' W'→Below W.heap.size W W'→K a' W')→
   assign.wpIn (gU.inRound l) 1 P (Exit.then K (fun _ _ _=>False)) {tmps:=(ps.zip (my x)).foldl (fun t (p,v)=>t.setIfInBounds p v) a.tmps,defers:=[]} W)
 (Dl:∀(l:Nat) (pre:List α) (x:α) (a':cu) (W:ae),w.heap.size+2≤W.heap.size→I pre W→R x a' W→pre.length<N→body.wpIn (gU.inRound l) 1 P (M1 w.heap.size Kp I Ix (pre++[x]) W) a' W)
 (Dp:∀(xs:List α) (W:ae),S xs→I xs W→W.heap[w.heap.size]?=some (.deferred (some []))→Q .normal {a with defers:={target:=.collected w.heap.size,args:=#[]}::a.defers} W)
 (DQ:∀(c:rL) (pre:List α) (W:ae),Sp pre→Ix c pre W→W.heap[w.heap.size]?=some (.deferred (some []))→c.wpIn gU 3 P Q {a with defers:={target:=.collected w.heap.size,args:=#[]}::a.defers} W):
 (Code.rangeFunc g ps assign body).wpIn gU 3 P Q a w:=by
 refine agi fun fn sG=>?_;obtain⟨rc,iU⟩:∃rc:LoopState→Option rL→Loop,rc=fun st pe=>{state:=st,pending:=pe,fn,tmps:=a.tmps,params:=ps,assign,body,defers:=w.heap.size}:=⟨_,rfl⟩;obtain⟨W1,b_⟩:=oQ ((w.alloc (.deferred (some []))).alloc (.loop (rc .ready none)));have aU:W1.heap.size=w.heap.size+2:=by rw[←b_];simp
 have qg:W1.heap[w.heap.size+1]?=some (.loop (rc .ready none)):=by
  have:=bG (w.alloc (.deferred (some []))) (.loop (rc .ready none));rw[gI] at this;rw[←b_];exact this
 have Fg:W1.heap[w.heap.size]?=some (.deferred (some [])):=by
  rw[←b_];exact(Ee _ _ _ (by simp)).trans (bG w _)
 have oH:aO (fun k=>Z k∨mw w k) w W1:=by rw[←b_];exact(aO.alloc _ _).trans (aO.alloc _ _)
 have aq:Below w0.heap.size w0 W1:=by
  rw[←b_];exact(dt.alloc dt.size _).alloc (by have:=dt.size;simp;omega) _
 have yV:¬Z w.heap.size:=fun e=>by have:=hZ _ e;omega
 have yW:¬Z (w.heap.size+1):=fun e=>by have:=hZ _ e;omega
 refine⟨w.heap.size+1,[{target:=.collected w.heap.size,args:=#[]}],W1,{target:=.fn (.func gf) lb,args:=#[.func (.yield (w.heap.size+1)) #[] #[]]},W1,gf,
  #[.func (.yield (w.heap.size+1)) #[] #[]]++lb,W1,?_,?_,fun _ _=>trivial,?_,fun h=>by simp[gU] at h,?_⟩
 · rw[←b_,iU];exact age _ _ _ _ _
 · simp only[KL,hg]
   simp[go_sem]
 · simp[KJ,go_sem,eg]
 · refine(DP (w.heap.size+1)
    (fun pre W=>I pre W∧w.heap.size+2≤W.heap.size∧W.heap[w.heap.size+1]?=some (.loop (rc .ready none))∧W.heap[w.heap.size]?=some (.deferred (some [])))
    (fun pre W=> ∃c,Ix c pre W∧w.heap.size+2≤W.heap.size∧W.heap[w.heap.size+1]?=some (.loop (rc .done (some c)))∧W.heap[w.heap.size]?=some (.deferred (some [])))
    W1 aq
    (fun s A B h t=>⟨hI s A B h.1 (t.mono fun _ e=>.inl e),aV h.2.1 t.size,(t.block _ (by omega) yW).trans h.2.2.1,(t.block _ (by omega) yV).trans h.2.2.2⟩)
    (fun s A B h t=>by
      obtain⟨c,hc,hs,hl,hd⟩:=h
      exact⟨c,hIx c s A B hc (t.mono fun _ e=>.inl e),aV hs t.size,(t.block _ (by omega) yW).trans hl,(t.block _ (by omega) yV).trans hd⟩)
    ?_ ⟨hI _ _ _ h0 oH,by omega,qg,Fg⟩).mono ?_
   · rintro pre x W ⟨hi,hs,hl,hd⟩ hlen
     have hy:=run_yield (P:=P) (args:=my x) hl (by rw[iU];exact nu x);rw[iU] at hy;refine⟨fn,_,assign,body,hy,agb sG (Di _ x W _ hs (fun a' W' hRa dK=>?_))⟩;have RO:W'.heap[w.heap.size+1]?=some (.loop (rc .ready none)):=(dK.block _ (by omega)).trans hl;have wQ:W'.heap[w.heap.size]?=some (.deferred (some [])):=(dK.block _ (by omega)).trans hd;have hsW:=dK.size;refine⟨_,agc RO (by rw[iU]),?_⟩;obtain⟨W2,eY⟩:∃W2,W'.putObj (w.heap.size+1) (.loop {rc .ready none with state:=.busy})=W2:=⟨_,rfl⟩;(have eO:w.heap.size+2≤W2.heap.size:=by rw[←eY];simp;omega);(have ga:W2.heap[w.heap.size+1]?=some (.loop {rc .ready none with state:=.busy}):=by rw[←eY];exact Ei (by omega));(have gQ:W2.heap[w.heap.size]?=some (.deferred (some [])):=by rw[←eY];exact(kZ (by omega)).trans wQ);(have Bg:I pre W2:=by rw[←eY];exact hI _ _ _ (hI _ _ _ hi (aO.gH dK)) (aO.putObj _ _ _ (.inr (.inr rfl))));(have hR2:R x a' W2:=by rw[←eY];exact hR _ _ _ _ hRa (aO.putObj _ _ _ (.inr (.inr rfl))));(have kt:Kp W W2:=by rw[←eY];exact uU (sF _ _ hs dK) (wN _ _));rw[eY];refine wpIn_mono (Dl _ pre x a' W2 eO Bg hR2 hlen) ?_
     have fin:∀(jump:Option rL) (W3:ae),KeepsFrom w.heap.size W2 W3→∃W4,W4=W3.putObj (w.heap.size+1) (.loop (rc (if jump.isNone then .ready else .done) jump))∧
      (Instr.endRound (w.heap.size+1) jump).run P W3=.ok (.bool jump.isNone) W4∧aO (fun k=>Z k∨mw w k) W3 W4∧w.heap.size+2≤W4.heap.size∧
      W4.heap[w.heap.size+1]?=some (.loop (rc (if jump.isNone then .ready else .done) jump))∧W4.heap[w.heap.size]?=some (.deferred (some [])):=by
      intro jump W3 hk;have vn:=hk.same _ _ (by omega) ga rfl;have kO:=hk.same _ _ (by omega) gQ rfl;have jM:=aV eO hk.size;have he:=run_endRound (P:=P) jump vn;rw[iU] at he⊢;exact⟨_,rfl,he,aO.putObj _ _ _ (.inr (.inr rfl)),by simpa using jM,Ei (by omega),(kZ (by omega)).trans kO⟩
     rintro e a3 W3 hp
     cases e with
     | normal=>
       obtain⟨W4,e4,hr,ht,gy,jW,jK⟩:=fin none W3 hp.1
       exact⟨_,W4,hr,.inl ⟨rfl,⟨hI _ _ _ hp.2.2 ht,gy,jW,jK⟩,uU kt (uU hp.2.1 (by rw[e4];exact wN _ _))⟩⟩
     | ret=>
       obtain⟨W4,_,hr,ht,gy,jW,jK⟩:=fin (some .ret) W3 hp.1
       exact⟨_,W4,hr,.inr ⟨rfl,.ret,hIx _ _ _ _ hp.2 ht,gy,jW,jK⟩⟩
     | exit id=>
       obtain⟨W4,_,hr,ht,gy,jW,jK⟩:=fin (some (.exit id)) W3 hp.1
       exact⟨_,W4,hr,.inr ⟨rfl,.exit id,hIx _ _ _ _ hp.2 ht,gy,jW,jK⟩⟩
     | goto t=>
       obtain⟨W4,_,hr,ht,gy,jW,jK⟩:=fin (some (.goto t)) W3 hp.1
       exact⟨_,W4,hr,.inr ⟨rfl,.goto t,hIx _ _ _ _ hp.2 ht,gy,jW,jK⟩⟩
     |panic ch=>exact hp.elim
     |outgrown=>exact hp.elim
   · rintro e W2 ⟨⟨v,rfl⟩,(⟨xs,hS,hi,hs,hl,hd⟩|⟨pre,IU,c,hi,hs,hl,hd⟩)⟩
     · have he:=Oe (P:=P) hl (by rw[iU];simp)
       rw[iU] at he;exact⟨none,_,he,Dp _ _ hS (hI _ _ _ hi (aO.putObj _ _ _ (.inr (.inr rfl)))) ((kZ (by omega)).trans hd)⟩
     · have he:=Oe (P:=P) hl (by rw[iU];simp)
       rw[iU] at he;exact⟨some c,_,he,DQ c pre _ IU (hIx _ _ _ _ hi (aO.putObj _ _ _ (.inr (.inr rfl)))) ((kZ (by omega)).trans hd)⟩
theorem Kl {P:eI} {α:Type} {g:ef} {ps:Array Tmp} {assign body:rL} {Q:mh→cu→ae→Prop} {a:cu} {w:ae}
 {gf:Nat} {lb:Array ai} (hg:a.eval g=.func (.func gf) #[] lb) (eg:∀args w,(xM gf args).run P w=.ok (.enter gf args) w)
 {my:α→Array ai} {Z:Nat→Prop} {Kp:ae→ae→Prop} {S Sp:List α→Prop} {N:Nat} {w0:ae} (DP:tG P gf lb my Z Kp S Sp N w0) (dt:Below w0.heap.size w0 w)
 (hZ:∀k,Z k→k<w.heap.size) (nu:∀x,(my x).size=ps.size)
 (uU:∀{A B C:ae},Kp A B→Kp B C→Kp A C) (wN:∀(W:ae) (o:Obj),Kp W (W.putObj (w.heap.size+1) o))
 (I:List α→ae→Prop) (Ix:rL→List α→ae→Prop)
 (hI:∀s A B,I s A→aO (fun k=>Z k∨mw w k) A B→I s B) (hIx:∀c s A B,Ix c s A→aO (fun k=>Z k∨mw w k) A B→Ix c s B) (h0:I [] w)
 (F:Nat→α→cu) (Rw:Nat→α→ae→Prop) (uV:∀b x A B,w.heap.size+2≤b→b<A.heap.size→Rw b x A→aO (fun k=>Z k∨mw w k) A B→Rw b x B)
 (sF:∀A B:ae,w.heap.size+2≤A.heap.size→Below A.heap.size A B→Kp A B)
 (Di:∀(l:Nat) (x:α) (W:ae) (b:Nat) (K:cu→ae→Prop),W.heap.size=b→w.heap.size+2≤b→(∀W',Rw b x W'→Below b W W'→W'.heap.size=b+1→K (F b x) W')→
   assign.wpIn (gU.inRound l) 1 P (Exit.then K (fun _ _ _=>False)) {tmps:=(ps.zip (my x)).foldl (fun t (p,v)=>t.setIfInBounds p v) a.tmps,defers:=[]} W)
 (Dl:∀(l:Nat) (pre:List α) (x:α) (b:Nat) (W:ae),w.heap.size+2≤b→b<W.heap.size→I pre W→Rw b x W→pre.length<N→body.wpIn (gU.inRound l) 1 P (M1 w.heap.size Kp I Ix (pre++[x]) W) (F b x) W)
 (Dp:∀(xs:List α) (W:ae),S xs→I xs W→W.heap[w.heap.size]?=some (.deferred (some []))→Q .normal {a with defers:={target:=.collected w.heap.size,args:=#[]}::a.defers} W)
 (DQ:∀(c:rL) (pre:List α) (W:ae),Sp pre→Ix c pre W→W.heap[w.heap.size]?=some (.deferred (some []))→c.wpIn gU 3 P Q {a with defers:={target:=.collected w.heap.size,args:=#[]}::a.defers} W):
 (Code.rangeFunc g ps assign body).wpIn gU 3 P Q a w:=by
 refine apa hg eg DP dt hZ nu uU wN I Ix hI hIx h0 (fun x a' W=> ∃b,a'=F b x∧w.heap.size+2≤b∧b<W.heap.size∧Rw b x W) ?_ sF ?_ ?_ Dp DQ
 · rintro x a' A B ⟨b,e,h1,h2,h3⟩ ht
   exact⟨b,e,h1,iX h2 ht.size,uV b x A B h1 h2 h3 ht⟩
 · intro l x W K hs hK
   exact Di l x W W.heap.size K rfl hs (fun W' h1 h2 h3=>hK _ W' ⟨_,rfl,hs,by omega,h1⟩ h2)
 · rintro l pre x a' W hs hi ⟨b,rfl,h1,h2,h3⟩ hl
   exact Dl l pre x b W h1 h2 hi h3 hl
def aX (w:ae) (v:ai) (l:List Nat):Prop:=∃A c,v=.slice A l.length c∧l.length≤c∧c≤cH∧(A=none→c=0)∧dJ w w.heap.size A nv l
theorem aX.below {w w':ae} {v:ai} {l:List Nat} (h:aX w v l) (hb:Below w.heap.size w w'):aX w' v l:=by
 obtain⟨A,c,rfl,h1,h2,h0,h3⟩:=h;exact⟨A,c,rfl,h1,h2,h0,(h3.below hb).more hb.size⟩
theorem aX.nil (w:ae):aX w (.slice none 0 0) []:=⟨none,0,rfl,by simp,by unfold cH;omega,fun _=>rfl,dJ.nil⟩
theorem aX.drewN {w:ae} {v:ai} {l:List Nat} (h:aX w v l) (n:Nat):aX (w.drewN n) v l:=h
def gK (B:Nat) (v:ai):Prop:=∀a n c,v=.slice (some a) n c→B≤a.block
theorem gK.nil (B:Nat):gK B (.slice none 0 0):=fun a n c h=>by cases h
theorem gK.cut {B n c k:Nat} {A:Option bI} (h:gK B (.slice A n c)):gK B (.slice A k c):=fun a m d e=>by cases e;exact h a n c rfl
theorem gK.base {B B':Nat} {v:ai} (h:gK B v) (hb:B'≤B):gK B' v:=fun a n c e=>aV hb (h a n c e)
theorem OL.fresh {α:Type} {w:ae} {B:Nat} {e:bF} {size:Nat} {f:α→List ai} {v:ai} {l:List α} (h:OL w B e size f v l):gK B v:=fun a n c he=>by
 rcases h.2 with⟨hn,_⟩|⟨g,cap,cur,hv,hb,_⟩
 · rw[hn] at he;cases he
 · rw[hv] at he;cases he;exact hb
theorem aX.iW {w:ae} {B:Nat} {v:ai} {l:List Nat} (h:OL w B 3 1 (one nv) v l):aX w v l:=by
 obtain⟨A,c,rfl,h1,h2⟩:=h.slice;refine⟨A,c,rfl,h1,h2,fun e=>?_,h.MK⟩;rcases h.2 with⟨he,_⟩|⟨g,cap,cur,he,_⟩
 · injection he
 · injection he with e1 _ _;rw[e] at e1;cases e1
theorem Ik (A:Option bI) (c:Nat) (l:List Nat) (n:Nat) (hn:l.length=n) (i:Nat) (w:ae) (h:dJ w w.heap.size A nv l) (_hl:n≤1000000):
 ax ah 251 #[.slice A n c,.int .i64 (i:Int)] w fun e w'=>e=.returned (.int .i64 ((l.getD i 0:Nat):Int))∧w'=w:=by
 have HG:=hZ (rfl:l.getD i 0=l.getD i 0)
 by_cases hi:i<n
 · obtain⟨a,rfl,d_,gq⟩:=h.get (i:=i) (by omega)
   unfold nv at gq;(have hv:l.getD i 0=l[i]'(by omega):=by rw[xQ,bp (by omega)];rfl);rw[hv];obtain⟨x,hx⟩:=oQ (l[i]'(by omega));rw[hx] at gq⊢;(have d1:decide ((i:Int)<(n:Int))=true:=by simp;omega);(have z1:(0:Int)≤(i:Int):=by omega);(have z2:(i:Int)<(n:Int):=by omega);clear HG hv hx hn h
   go_enter adI,aeN
   go_wp2_with fail;go_ret;exact⟨rfl,rfl⟩
 · have hv:l.getD i 0=0:=by rw[xQ,jz (by omega)];rfl
   rw[hv];(have d1:decide ((i:Int)<(n:Int))=false:=by simp;omega);clear HG hv hn h
   go_enter adI,aeN
   go_wp2_with fail;go_ret;exact⟨rfl,rfl⟩
theorem aoj {l:List Nat} {k:Nat} (hk:k<l.length) (h:l[k]=0):gY (l.take (k+1))=gY (l.take k):=by
 rw[Oz hk,h,aoi]
theorem aok {l:List Nat} {k:Nat} (hk:k<l.length) (h:l[k]≠0):gY (l.take (k+1))=l.take (k+1):=by
 rw[Oz hk,aoh _ h]
theorem D0 (A:Option bI) (c:Nat) (l:List Nat) (n:Nat) (hn:l.length=n) (hc:n≤c) (pz:c≤cH) (lz:A=none→c=0) (w:ae) (h:dJ w w.heap.size A nv l) (_hl:n≤1000000):
 ax ah 245 #[.slice A n c] w fun e w'=>(∃v,e=.returned v∧aX w v (gY l)∧∀B,gK B (.slice A n c)→gK B v)∧w'=w:=by
 have mB:0<n→A≠none:=fun h0 e=>by obtain⟨a,rfl,_⟩:=h.get (i:=0) (by omega);cases e
 have IK:∀k,k≤n→gY (l.take k)=gY l→gY (l.take k)=l.take k→aX w (.slice A k c) (gY l):=fun k hk h1 h2=>by
  have e:(gY l).length=k:=by rw[←h1,h2];simp;omega
  rw[←h1,h2];exact⟨A,c,by simp;omega,by simp;omega,pz,lz,h.take k⟩
 have HE:=hZ IK;have H:=hZ h;have HN:=hZ hn;have OM:=hZ mB;clear h hn IK mB lz;unfold cH at pz
 go_enter Tryz.func245,Tryz.ntmps245
 go_wp2_with fail
 go_loop [0] (fun v=> ∃k:Nat,k≤n∧v=.slice A k c∧ag (gY (l.take k)=gY l)) (fun v=>match v with|.slice _ k _=>k|_=>0)
 case atStart=>exact⟨n,aB _,rfl,hZ (by rw[eE (by rw[HN.out];exact aB _)])⟩
 case round=>
  obtain⟨k,hk,rfl,HT⟩:=hrel;rcases fL k with rfl|h0
  · have d1:decide ((0:Int)<((0:Nat):Int))=false:=by decide
    go_wp2_with fail;go_ret;refine⟨⟨_,rfl,?_,fun B h=>h.cut⟩,rfl⟩;exact HE.out 0 (by omega) HT.out (by simp[gY])
  · obtain⟨m,rfl⟩:∃m,k=m+1:=⟨k-1,by omega⟩
    (have hm:m<l.length:=by rw[HN.out];omega);obtain⟨a,rfl,d_,gq⟩:=H.out.get hm;unfold nv at gq;obtain⟨x,hx⟩:=oQ (l[m]);rw[hx] at gq;have HX:=hZ hx;(have d1:decide ((0:Int)<((m+1:Nat):Int))=true:=by simp);(have w1:aQ.wrap (((m+1:Nat):Int)-1)=(m:Int):=by rw[aS];omega);(have z1:(0:Int)≤(m:Int):=by omega);(have z2:(m:Int)<((m+1:Nat):Int):=by omega);clear hx
    by_cases kT:x=0
    · subst kT
      go_wp2_with fail
      go_round
      case rel=>exact⟨m,by omega,rfl,hZ (by rw[←aoj hm HX.out];exact HT.out)⟩
      case measure=>simp
    · have d2:((x:Int)==0)=false:=by simp;exact kT
      go_wp2_with fail;go_ret;refine⟨⟨_,rfl,?_,fun B h=>h.cut⟩,rfl⟩;exact HE.out (m+1) (by omega) HT.out (aok hm (by rw[HX.out];exact kT))
theorem al7 (A B:Option bI) (c d:Nat) (l m:List Nat) (n k:Nat) (hn:l.length=n) (hk:m.length=k) (i:Nat) (b1 b2:Nat) (w:ae) (hl:n≤1000000) (hm:k≤1000000)
 (hA:dJ w w.heap.size A nv l) (hB:dJ w w.heap.size B nv m) (h1:w.cell? ⟨b1,0,none⟩=some (.slice A n c)) (h2:w.cell? ⟨b2,0,none⟩=some (.slice B k d)) (hg:∀j,l.getD j 0<10000) (f_:∀j,m.getD j 0<10000):
 ax ah 250 #[.int .i64 (i:Int),.pointer (some ⟨b1,0,none⟩),.pointer (some ⟨b2,0,none⟩)] w fun e w'=>e=.returned (.int .i64 (((l.getD i 0:Nat):Int)+((m.getD i 0:Nat):Int)))∧∃q,w'=w.drewN q:=by
 have H1:=hZ (fun q=>Ik A c l n hn i (w.drewN q) hA hl);have H2:=hZ (fun q=>Ik B d m k hk i (w.drewN q) hB hm);obtain⟨x,hx⟩:=oQ (l.getD i 0);obtain⟨y,hy⟩:=oQ (m.getD i 0);have jO:=hg i;have qw:=f_ i;rw[hx] at H1 jO⊢;rw[hy] at H2 qw⊢;have w1:aQ.wrap ((x:Int)+(y:Int))=(x:Int)+(y:Int):=by rw[aS];omega
 clear hx hy hg f_ hA hB hn hk
 go_enter Tryz.func250,Tryz.ntmps250
 go_wp2_with fail
 go_quiet ((first|(go_at_call 251;(with_reducible refine Kq (H1.out _)))|(go_at_call 251;(with_reducible refine Kq (H2.out _)))))
 go_wp2_with fail;go_ret;exact⟨rfl,_,rfl⟩
theorem alo (A B:Option bI) (c d:Nat) (l m:List Nat) (n k:Nat) (hn:l.length=n) (hk:m.length=k) (i:Nat) (b1 b2:Nat) (w:ae) (hl:n≤1000000) (hm:k≤1000000)
 (hA:dJ w w.heap.size A nv l) (hB:dJ w w.heap.size B nv m) (h1:w.cell? ⟨b1,0,none⟩=some (.slice A n c)) (h2:w.cell? ⟨b2,0,none⟩=some (.slice B k d)) (hg:∀j,l.getD j 0<10000) (f_:∀j,m.getD j 0<10000):
 ax ah 252 #[.int .i64 (i:Int),.pointer (some ⟨b1,0,none⟩),.pointer (some ⟨b2,0,none⟩)] w fun e w'=>e=.returned (.int .i64 (((l.getD i 0:Nat):Int)-((m.getD i 0:Nat):Int)))∧∃q,w'=w.drewN q:=by
 have H1:=hZ (fun q=>Ik A c l n hn i (w.drewN q) hA hl);have H2:=hZ (fun q=>Ik B d m k hk i (w.drewN q) hB hm);obtain⟨x,hx⟩:=oQ (l.getD i 0);obtain⟨y,hy⟩:=oQ (m.getD i 0);have jO:=hg i;have qw:=f_ i;rw[hx] at H1 jO⊢;rw[hy] at H2 qw⊢;have w1:aQ.wrap ((x:Int)-(y:Int))=(x:Int)-(y:Int):=by rw[aS];omega
 clear hx hy hg f_ hA hB hn hk
 go_enter Tryz.func252,Tryz.ntmps252
 go_wp2_with fail
 go_quiet ((first|(go_at_call 251;(with_reducible refine Kq (H1.out _)))|(go_at_call 251;(with_reducible refine Kq (H2.out _)))))
 go_wp2_with fail;go_ret;exact⟨rfl,_,rfl⟩
theorem ah7 (A:Option bI) (c:Nat) (l:List Nat) (n:Nat) (hn:l.length=n) (i f:Nat) (hf:f≤100000) (b1 b2:Nat) (w:ae) (hl:n≤1000000)
 (hA:dJ w w.heap.size A nv l) (h1:w.cell? ⟨b1,0,none⟩=some (.slice A n c)) (h2:w.cell? ⟨b2,0,none⟩=some (.int .i64 (f:Int))) (hg:∀j,l.getD j 0<10000):
 ax ah 266 #[.int .i64 (i:Int),.pointer (some ⟨b1,0,none⟩),.pointer (some ⟨b2,0,none⟩)] w fun e w'=>e=.returned (.int .i64 (((l.getD i 0:Nat):Int)*(f:Int)))∧∃q,w'=w.drewN q:=by
 have H1:=hZ (fun q=>Ik A c l n hn i (w.drewN q) hA hl);obtain⟨x,hx⟩:=oQ (l.getD i 0);have jO:=hg i;rw[hx] at H1 jO⊢
 have w1:aQ.wrap ((x:Int)*(f:Int))=(x:Int)*(f:Int):=by
  have:x*f≤9999*100000:=Nat.mul_le_mul (by omega) hf;have e:(x:Int)*(f:Int)=((x*f:Nat):Int):=by simp
  rw[aS,e];omega
 clear hx hg hA hn
 go_enter Tryz.func266,Tryz.ntmps266
 go_wp2_with fail
 go_quiet ((go_at_call 251;(with_reducible refine Kq (H1.out _))))
 go_wp2_with fail;go_ret;exact⟨rfl,_,rfl⟩
theorem qK.lt {N:Nat} {gs:List Int} {i:Nat} {out:List Nat} {c:Int} {L:Nat} (h:qK (N:Int) gs i out c) (hi:gs.length≤i) (hc:c≠0) (hL:N<10000^L):i<L:=by
 have h0:=h.carry (by omega) hi;have hv:=h.val;rw[ux hi] at hv;have hp:(0:Int)≤(10000:Int)^i:=by rw[←J3];exact Int.natCast_nonneg _
 have h1:(10000:Int)^i*1≤(10000:Int)^i*(c+vI []):=agp (by show 1≤c+0;omega) hp;rw[Int.mul_one] at h1
 have h2:((10000^i:Nat):Int)≤(N:Int):=by
  rw[J3];generalize (10000:Int)^i*(c+vI [])=z at*;generalize (10000:Int)^i=p at*;omega
 exact(Nat.pow_lt_pow_iff_right (by decide:1<10000)).1 (Nat.lt_of_le_of_lt (Int.ofNat_le.1 h2) hL)
theorem Tryz.SA:(ah.info? 3).map (fun i=>(i.zero,i.size,i.bytes))=some (some (.int .i64 0),1,8):=by kernel_rfl
theorem Iy:gi ah 230 3 1 8:=gi.mk' Tryz.underlying230 Tryz.SA rfl (by decide)
theorem sy:gi ah 23 3 1 8:=gi.mk' Tryz.underlying23 Tryz.SA rfl (by decide)
abbrev pg (w:ae) (B:Nat) (v:ai) (l:List Nat):Prop:=OL w B 3 1 (one nv) v l
def ahf (w:ae) (N M:Nat) (e:Ending) (w':ae):Prop:=∃v out,e=.returned v∧aX w' v out∧gK w.heap.size v∧gY out=aD N∧out.length≤M∧Below w.heap.size w w'
theorem ajl (s:Int) (h0: -10000≤s):(s<0∧∃d:Nat,s+10000=d∧d<10000)∨(0≤s∧10000≤s∧∃(d k:Nat),s/10000=k∧s%10000=d∧d<10000)∨(0≤s∧s<10000∧∃d:Nat,s=d∧d<10000):=by
 by_cases h:s<0
 · exact .inl ⟨h,(s+10000).toNat,by omega,by omega⟩
 · by_cases k:s<10000
   · exact .inr (.inr ⟨by omega,k,s.toNat,by omega,by omega⟩)
   · exact .inr (.inl ⟨by omega,by omega,(s%10000).toNat,(s/10000).toNat,by omega,by omega,by omega⟩)
end Go.Proofs.YteeifhlhpiimoaaGreatDoor
end
