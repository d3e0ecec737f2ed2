/-
  Contract of yardstickref19.Effect; the like for what stands beside it. Conditions: the list lies in memory; the texts' sizes.
-/
import Derived.Test.YteeifhlhpiimoaaGreatDoorXAa
import Derived.Test.YteeifhlhpiimoaaGreatDoorXAu
import Derived.BigQuiet
import Derived.Deep.Upon
import Derived.Test.YteeifhlhpiimoaaGreatDoorXAr
import Derived.Test.YteeifhlhpiimoaaGreatDoorXAp
import Derived.Test.YteeifhlhpiimoaaGreatDoorXAq
import Derived.Test.YteeifhlhpiimoaaGreatDoorXAk
import Derived.Test.YteeifhlhpiimoaaGreatDoorXAl
import Derived.Test.YteeifhlhpiimoaaGreatDoorXAs
import Derived.Test.YteeifhlhpiimoaaGreatDoorXAt
set_option maxHeartbeats 8000000
set_option maxRecDepth 100000
open And renaming intro→ay
open Go renaming Addr→bI,Calls→ax,Value→ai,World→ae,maxLen→cH,wpList→dT,yieldsIf_load_mid→Oi
open Go.Act renaming put→sV
open Go.Addr renaming add→jy
open Go.IntKind renaming i64→aQ,wrap_i64→aS
open Go.Proofs.Tryz renaming prog→ah,underlying29→pM,underlying33→bk,underlying36→je,underlying67→KE
open Go.RowKit renaming Hid→ag
open Go.RowKit.Below renaming drew→eR,refl→bK
open Go.Value renaming oneCell'→lH,slice→mi
open List renaming filter_append→s7,getElem?_eq_getElem→bp,getElem?_eq_some_iff→dL,length_append→eV,length_drop→pP,length_filter_le→KO,length_map→rP,length_singleton→uy,length_take→gD,mem_cons_of_mem→qI,mem_of_getElem?→mP,mem_singleton→fQ,setIfInBounds_toArray→ta,set_cons_succ→tc,set_cons_zero→td,take_add_one→gV,take_of_length_le→eE
open Nat renaming le_refl→aB,le_trans→aV,zero_le→ei
section
namespace Go.Proofs.YteeifhlhpiimoaaGreatDoor
open Go Go.RowKit Go.Shelf
attribute [local go_sem] Oper.semAt_some
theorem wSt {P:Program} {ops:Array Oper} {rest:List Oper} {o:Oper} {a:Act} {V:ae} {Q:Exit→Act→ae→Prop} (ct:o.guard=none) (x y:Operand) (ho:o.op=.store 33 x y) (hd:o.dst=none) (b i:Nat) (e:af)
 (hx:a.eval x=.pointer (some ⟨b,i,none⟩)) (hy:a.eval y=.agg e.cells.toArray) (hi:(P.info? 33).map (·.size)=some e.cells.toArray.size) (ht:V.there b i 18) (h:dT P ops Q rest a (V.setCells b i e.cells)):dT P ops Q (o::rest) a V:=
 wpList_step fun _ hK=>anN ct x y ho hd b i e hx hy hi ht (hK _ _ h)
section
variable {P:Program} {α β:Type} {t e e2:TypeId} {s s2 bytes:Nat} {f:α→List ai} {f2:β→List ai} {w:ae} {ops:Array Oper} {rest:List Oper} {o1 o2:Oper} {a:Act} {Q:Exit→Act→ae→Prop}
theorem acM (g1:o1.guard=none) (g2:o2.guard=none) (x v y:Operand) (t:TypeId) (ho:o1.op=.buildSlice t 1 #[(0,x)]) (sJ:o2.op=.call {callee:=.builtin .append,args:=#[v,y],argTypes:=#[t,t]})
 (E:gi P t e s bytes) (hb:bytes≤1000) (z:α) (hf:(f z).length=s) (kP:∀u∈f z,u.oneCell'=true) (xv:ai) (hx:a.eval x=xv) (hr:∀w:ae,(Instr.buildSlice t 1 #[(0,xv)]).run P w=.ok (.slice (some ⟨w.heap.size,0,none⟩) 1 1) (w.alloc (.cells (f z).toArray e)))
 (v0:ai) (m:List α) (mn:Nat) (hm:m.length=mn∧mn≤1000000) (B:Nat) (hB:B≤w.heap.size) (h0:OL w B e s f v0 m) (v2:ai) (m2:List β) (h2:OL w B e2 s2 f2 v2 m2) (bf:e2≠e) (hv:(a.put o1.dst (.slice (some ⟨w.heap.size,0,none⟩) 1 1)).eval v=v0) (hy:(a.put o1.dst (.slice (some ⟨w.heap.size,0,none⟩) 1 1)).eval y=.slice (some ⟨w.heap.size,0,none⟩) 1 1)
 (sI:∀A' c' w',OL w' B e s f (.slice A' (mn+1) c') (m++[z])→OL w' B e2 s2 f2 v2 m2→Below B w w'→dT P ops Q rest ((a.put o1.dst (.slice (some ⟨w.heap.size,0,none⟩) 1 1)).put o2.dst (.slice A' (mn+1) c')) w'):dT P ops Q (o1::o2::rest) a w:=by
 obtain⟨rfl,hm⟩:=hm;have fT:(m.length+1)*bytes≤1000001*1000:=Nat.mul_le_mul (by omega) hb;have gw:=(aY w (.cells (f z).toArray e)).mono hB;refine wpList_plain g1 fun K hK=>?_;unfold Oper.wp execOp;simp only[ho,List.map_toArray,List.map_cons,List.map_nil,hx,Sem.run_bind,hr,Result.andThen_ok];refine hK _ _ ?_;refine nJ g2 v y t sJ E v0 m m.length rfl hv (h0.alloc _) z w.heap.size (f z).toArray hy (World.alloc_heap_new _ _) rfl hf kP (by unfold cH;omega) (by omega) (aV hB gw.size) ?_;intro g c' w' r1 r2 _ _ r3;exact sI _ c' w' r1 ((h2.alloc _).grown r2 ((h2.alloc (.cells (f z).toArray e)).apart (h0.alloc _) bf)) (gw.trans r3)
end
theorem anV (l:List UInt8):(one sv l).length=1:=rfl
theorem anW (l:List UInt8):∀u∈one sv l,u.oneCell'=true:=fun u hu=>by cases fQ.1 hu;rfl
theorem OL.setOther {α:Type} {w:ae} {N g o:Nat} {T:TypeId} {s:Nat} {f:α→List ai} {v:ai} {l:List α} (h:OL w N T s f v l) (bf:v.ownBlock≠some g) (vs:List ai):OL (w.setCells g o vs) N T s f v l:=
 h.keep fun q hq=>Go.World.heap_setCells_other w g o vs (h.lt q hq).2 fun e=>bf (by rw[←e];exact hq)
theorem amo (l:List af) (A:Option bI) (n c:Nat) (day:Int) (w:ae) (hA:eW w (bV w) A l) (hn:l.length=n∧n≤1000000) (hw:∀e∈l,e.j6) (hp:dY w):
 ax ah 87 #[.slice A n c,.int .i64 day] w fun e w'=> ∃v,e=.returned v∧OL w' w.heap.size 33 18 af.cells v (eG l day)∧Below w.heap.size w w':=by
 have IE:=fun e:af=>hZ (di (e:=e));have IS:=fun e:af=>hZ (show(ah.info? 33).map (·.size)=some e.cells.toArray.size from di (e:=e));have HA:=hZ hA;have HN:=hZ hn;have CP:=hZ hw;have HP:=hZ hp;obtain⟨N,hN⟩:=oQ (w.heap.size);have r9:=hZ hN;have de:ag (Below N w w):=hZ (bK _ _);have qQ:=hZ (fun U (h:Below N w U)=>show N≤U.heap.size from r9.out▸h.size);rw[hN];clear hA hn hw hp hN
 go_enter Tryz.func87,Tryz.ntmps87
 go_wp2_with fail
 go_loopw [5,6,7] (fun ov kv v wr=> ∃(i:Nat) (A5 A6:Option bI) (m c5 c6:Nat) (acc:List af),v=.int .i64 (i:Int)∧ov=.slice A5 m c5∧kv=.slice A6 m c6∧i≤n∧m≤i∧ag (((l.take i).foldl (eQ (eT day) aI dF) [])=acc)∧ag (OL wr N 33 18 af.cells (.slice A5 m c5) acc)∧ag (OL wr N 9 1 (one sv) (.slice A6 m c6) (acc.map aI))∧ag (Below N w wr)) (fun _ _ v _=>n-(intOf v).toNat)
 case atStart=>exact⟨0,none,none,0,0,0,[],rfl,rfl,rfl,ei _,aB _,hZ rfl,hZ OL.nil,hZ OL.nil,de⟩
 case round =>
  clear de;obtain⟨i,A5,A6,m,c5,c6,acc,rfl,rfl,rfl,hi,wV,Cj,HO,HK,HB⟩:=hrel
  by_cases ar:i<n
  · obtain ⟨x,b,HE,rfl,cy,cP⟩:=at9 HA HN (r9.out▸HB.out) ar
    have qU:ag (∀U,Below N w U→U.rangeAt b (i*18) x.cells):=hZ fun U h=>(fun j v hv=>(h.cell (p:=⟨b,i*18+j,none⟩) (by rw[←r9.out];exact cy.out)).trans ((HB.out.cell (p:=⟨b,i*18+j,none⟩) (by rw[←r9.out];exact cy.out)).symm.trans (cP j v hv)));have cX:=hZ cP;have PZ:=hZ (CP.out x (mP HE.out));have Lw:=hZ (fun W (h:Below N w W)=>M6 x PZ.out W (HP.out.below (r9.out▸h)));have HKX:=hZ (fun W (h:Below N w W)=>Ta x PZ.out W (HP.out.below (r9.out▸h)));have aL:=hZ ar;have dC:ag (acc.length=m):=hZ HO.out.len.1.symm;have HM:ag (m≤i∧i<n∧n≤1000000):=hZ ⟨wV,ar,HN.out.2⟩;(have d1:decide (i<n)=true:=by simp[ar]);(have z1:(0:Int)≤(i:Int):=by omega);(have z2:(i:Int)<(n:Int):=by omega);have wk:=nx ⟨ar,HN.out.2⟩;have Ex:=hZ (ajm (d:=day) HE.out);obtain⟨ve,fO⟩:=oQ (bE x);obtain⟨q,hq⟩:=oQ (decide (day<x.day));have lM:ag (eT day x=(ve&& !q)):=hZ (by unfold eT;rw[fO,←hq];congr 1;by_cases h:x.day≤day<;>simp[h]<;>omega);rw[fO] at Lw;clear cP ar wV fO;cases ve<;>cases q
    iterate 2
     · have yi:ag (((l.take (i+1)).foldl (eQ (eT day) aI dF) [])=acc):=hZ (by rw[Ex.out,Cj.out];exact acx lM.out)
       go_wp2_with (first
        |(with_reducible refine lx (.tmp 23) b (i*18) cX.out (IE _).out bk ?_)
        |(go_at_call 135;(with_reducible refine(Lw.out _ HB.out).mono ?_);rintro r V1 ⟨rfl,hb⟩;have lL:=hZ (HO.out.below hb (aB _));have kD:=hZ (HK.out.below hb (aB _));have aF:=hZ (HB.out.trans (hb.mono (qQ.out _ HB.out)));have y3:V1.cell? ⟨b,i*18+3,none⟩=some (.int .i64 x.day):=qU.out _ aF.out 3 _ rfl;clear hb)
        |fail)
       go_roundw
       case rel=>exact⟨i+1,_,_,m,c5,c6,acc,rfl,rfl,rfl,aL.out,by have:=HM.out;omega,yi,lL,kD,aF⟩
       case measure=>simp[intOf];have:=aL.out;omega
    · go_wp2_with (first
       |(with_reducible refine lx (.tmp 23) b (i*18) cX.out (IE _).out bk ?_)
       |(go_at_call 135;(with_reducible refine(Lw.out _ HB.out).mono ?_);rintro r V1 ⟨rfl,hb⟩;have lL:=hZ (HO.out.below hb (aB _));have kD:=hZ (HK.out.below hb (aB _));have aF:=hZ (HB.out.trans (hb.mono (qQ.out _ HB.out)));have y3:V1.cell? ⟨b,i*18+3,none⟩=some (.int .i64 x.day):=qU.out _ aF.out 3 _ rfl;clear hb)
       |(with_reducible refine lx (.tmp 39) b (i*18) (qU.out _ aF.out) (IE _).out bk ?_)
       |(go_at_call 136;(with_reducible refine(HKX.out _ aF.out).mono ?_);rintro r V2 ⟨rfl,hb⟩;have gL:=hZ (lL.out.below hb (aB _));have qM:=hZ (kD.out.below hb (aB _));have aG:=hZ (aF.out.trans (hb.mono (qQ.out _ aF.out)));clear hb y3)
       |fail)
      have Lx:ag (∀y∈acc,y.j6):=hZ fun y hy=>CP.out y (List.mem_of_mem_take (QE (ok:=eT day) (key:=aI) (prev:=dF) (l.take i) y (by have:=Cj.out;unfold tL;rw[this];exact hy)).1);have Ha:ag (ib aI acc):=hZ (by rw[←Cj.out];exact akP day _);have WS:=hZ (an6 Ha.out lM.out);have WD:ag (OL V2 N 33 18 af.cells (.slice A5 m c5) (iI x acc 0)):=hZ (by rw[show iI x acc 0=acc from by simp[iI]];exact gL.out);clear HO HK HB lL kD aF gL d1
      go_loopw [10,11] (fun fv kv wr=> ∃(k:Nat) (q:Bool),kv=.int .i64 (k:Int)∧fv=.bool q∧k≤m∧ag ((acc.take k).any (fun y=>decide (aI y=aI x))=q)∧ag (OL wr N 33 18 af.cells (.slice A5 m c5) (iI x acc k))∧ag (OL wr N 9 1 (one sv) (.slice A6 m c6) (acc.map aI))∧ag (Below N w wr)) (fun _ v _=>m-(intOf v).toNat)
      case atStart=>exact⟨0,false,rfl,rfl,ei _,hZ rfl,WD,qM,aG⟩
      case round=>
       clear WD qM aG;obtain⟨k,q,rfl,rfl,hk,HQ,HO,HK,HB⟩:=hrel
       by_cases dR:k<m
       · obtain⟨y,hy⟩:∃y,acc[k]?=some y:=⟨_,bp (by have:=dC.out;omega)⟩
         have HY:=hZ hy;have EM:=hZ (acb (e:=x) hy);obtain⟨g5,cg5,e1,mE,-,-,-⟩:=HO.out.form (by rw[acd];have:=dC.out;omega);(obtain rfl:A5=some ⟨g5,0,none⟩:=by injection e1);obtain⟨g6,cg6,e2,-,-,-,-⟩:=HK.out.form (by rw[rP];have:=dC.out;omega);(obtain rfl:A6=some ⟨g6,0,none⟩:=by injection e2);have ck:wr.cell? ⟨g6,k,none⟩=some (.string ⟨(aI y).toArray⟩):=HK.out.Yn (by rw[List.getElem?_map,hy];rfl);have O0:=hZ mE;have i_:=hZ dR;(have d2:decide (k<m)=true:=by simp[dR]);(have z3:(0:Int)≤(k:Int):=by omega);(have z4:(k:Int)<(m:Int):=by omega);have D4:=nx ⟨dR,show m≤1000000 by have:=HM.out;omega⟩;have VF:=hZ (ahT (fun y=>decide (aI y=aI x)) hy);clear e1 e2 mE dR
         by_cases iR:aI y=aI x
         · have fR:=hZ iR
           (have dk:(aI y==aI x)=true:=by simp[iR]);have pS:ag ((acc.take (k+1)).any (fun y=>decide (aI y=aI x))=true):=hZ (by rw[VF.out,iR];simp);obtain⟨pq,kz⟩:=oQ (dF x y);have CD:=hZ (fun W (h:Below N w W)=>amz x y PZ.out (Lx.out y (mP HY.out)) W (HP.out.below (r9.out▸h)));rw[kz] at CD;have Wu:=hZ kz;clear iR kz hy;go_wp2_with fail;have Wt:=hZ HO.out.drew;have HKd:=hZ HK.out.drew;have fC:ag (Below N w wr.drew):=hZ (eR HB.out);clear ck dk;refine cJ (fun U=>U.rangeAt b (i*18) x.cells∧U.rangeAt g5 (k*18) y.cells) ⟨qU.out _ fC.out,OL.row Wt.out EM.out⟩ fun hHeld=>?_;refine dr 0 1 2 ?_;refine tl 3 rfl (yx b (i*18) (IE _).out bk (fun w hw=>hw.1)) ?_;refine dr 4 5 6 ?_;refine tl 7 rfl (yx g5 (k*18) (IE _).out bk (fun w hw=>hw.2)) ?_;refine rE 8 fun K hK=>?_;go_simp
           (with_reducible refine(CD.out _ fC.out).mono ?_)
           rintro r V4 ⟨rfl,hb⟩;have nU:=hZ (Wt.out.below hb (aB _));have pa:=hZ (HKd.out.below hb (aB _));have bJ:=hZ (fC.out.trans (hb.mono (qQ.out _ fC.out)));clear hb;refine kk hK (⟨qU.out _ bJ.out,OL.row nU.out EM.out⟩) fun hHeld=>?_;clear hK K;refine tk 9 ?_;refine dn ?_;clear hHeld;cases pq
           · have pW:ag (iI x acc (k+1)=iI x acc k):=hZ (acf HY.out (by unfold nH;rw[if_neg fun z=>(by rw[Wu.out] at z;cases z.2)]))
             go_wp2_with fail
             go_roundw
             case rel=>exact⟨k+1,true,rfl,rfl,i_.out,pS,hZ (by rw[pW.out];exact nU.out),pa,bJ⟩
             case measure=>simp[intOf];have:=i_.out;omega
           · have pW:ag (iI x acc (k+1)=(iI x acc k).set k x):=hZ (by rw[ace HY.out];unfold nH;rw[if_pos ⟨fR.out,Wu.out⟩])
             have k_:=hZ (qU.out _ bJ.out)
             go_wp2_with (first
              |(with_reducible refine lx (.tmp 68) b (i*18) k_.out (IE _).out bk ?_)
              |((with_reducible refine wSt rfl (.tmp 70) (.tmp 69) rfl rfl g5 (k*18) x ?hx ?hy (IS _).out (nU.out.there i_.out) ?_);(case hx=>first|rfl|simp[jy]);(case hy=>rfl))
              |fail)
             obtain⟨V5,IW⟩:=oQ (V4.setCells g5 (k*18) x.cells);have Hj:ag (OL V5 N 33 18 af.cells (.slice (some ⟨g5,0,none⟩) m c5) (iI x acc (k+1))):=hZ (by rw[←IW,pW.out];exact nU.out.put i_.out x);have G_:ag (OL V5 N 9 1 (one sv) (.slice (some ⟨g6,0,none⟩) m c6) (acc.map aI)):=hZ (by rw[←IW];exact pa.out.setOther (nU.out.apart pa.out (by decide) g5 rfl) _);have cT:ag (Below N w V5):=hZ (by rw[←IW];exact Below.setCells O0.out _ _ bJ.out);rw[IW];clear IW
             go_roundw
             case rel=>exact⟨k+1,true,rfl,rfl,i_.out,pS,Hj,G_,cT⟩
             case measure=>simp[intOf];have:=i_.out;omega
         · have dk:(aI y==aI x)=false:=by simp[iR]
           have pS:ag ((acc.take (k+1)).any (fun y=>decide (aI y=aI x))=q):=hZ (by rw[VF.out,HQ.out];simp[iR]);have pW:ag (iI x acc (k+1)=iI x acc k):=hZ (acf hy (by unfold nH;rw[if_neg fun z=>iR z.1]));clear iR hy;go_wp2_with fail
           go_roundw
           case rel=>exact⟨k+1,q,rfl,rfl,i_.out,pS,hZ (by rw[pW.out];exact HO.out),HK,HB⟩
           case measure=>simp[intOf];have:=i_.out;omega
       · have d2:decide (k<m)=false:=by simp[dR]
         (obtain rfl:k=m:=by omega);have jh:ag (iI x acc k=acc.map (nH x)):=hZ (by rw[←dC.out];exact ane _ _);have Aq:ag ((acc.any fun y=>decide (aI y=aI x))=q):=hZ (by have:=HQ.out;rwa[eE (by rw[dC.out];exact aB _)] at this);have Ey:ag ((acc.map (nH x)).map aI=acc.map aI):=hZ (by rw[List.map_map];exact List.map_congr_left fun y _=>anX x y);cases q
         · have yi:ag (((l.take (i+1)).foldl (eQ (eT day) aI dF) [])=iI x acc k++[x]):=hZ (by rw[Ex.out,Cj.out,WS.out,Aq.out,jh.out];rfl)
           have k_:=hZ (qU.out _ HB.out);have dW:ag ((acc.map aI).length=k∧k≤1000000):=hZ ⟨by rw[rP];exact dC.out,by have:=HM.out;omega⟩;have CL:ag ((iI x acc k).length=k∧k≤1000000):=hZ ⟨by rw[acd];exact dC.out,dW.out.2⟩
           go_wp2_with (first
            |(with_reducible refine lx (.tmp 76) b (i*18) k_.out (IE _).out bk ?_)
            |((with_reducible refine acM rfl rfl (.tmp 77) (.tmp 73) (.tmp 78) 25 rfl rfl mZ ?h1 x rfl ?h2 x.val ?hx ?hr (.slice A5 k c5) (iI x acc k) k CL.out N (qQ.out _ HB.out) HO.out (.slice A6 k c6) (acc.map aI) HK.out ?h3 ?hv ?hy ?_);(case h1=>decide);(case h2=>exact ma _);(case hx=>rfl);(case hr=>exact fun w=>zx w _);(case h3=>decide);(case hv=>rfl);(case hy=>rfl);intro A7 c7 V3 h3 h4 hb;have jf:=hZ h3;have tw:=hZ h4;have a_:=hZ (HB.out.trans hb);clear h3 h4 hb)
            |((with_reducible refine acM rfl rfl (.tmp 81) (.tmp 80) (.tmp 82) 180 rfl rfl aiZ ?h1 (aI x) (anV _) ?h2 (.string ⟨(aI x).toArray⟩) ?hx ?hr (.slice A6 k c6) (acc.map aI) k dW.out N (qQ.out _ a_.out) tw.out (.slice A7 (k+1) c7) (iI x acc k++[x]) jf.out ?h3 ?hv ?hy ?_);(case h1=>decide);(case h2=>exact anW _);(case hx=>rfl);(case hr=>exact fun w=>am3 w _);(case h3=>decide);(case hv=>rfl);(case hy=>rfl);intro A8 c8 V4 h3 h4 hb;have pa:=hZ h3;have nU:=hZ h4;have bJ:=hZ (a_.out.trans hb);clear h3 h4 hb)
            |fail)
           have G_:ag (OL V4 N 9 1 (one sv) (.slice A8 (k+1) c8) ((iI x acc k++[x]).map aI)):=hZ (by rw[List.map_append,jh.out,Ey.out];exact pa.out)
           go_roundw
           case rel=>exact⟨i+1,_,_,k+1,c7,c8,_,rfl,rfl,rfl,aL.out,by have:=HM.out;omega,yi,nU,G_,bJ⟩
           case measure=>simp[intOf];have:=aL.out;omega
         · have yi:ag (((l.take (i+1)).foldl (eQ (eT day) aI dF) [])=iI x acc k):=hZ (by rw[Ex.out,Cj.out,WS.out,Aq.out,jh.out];rfl)
           have G_:ag (OL wr N 9 1 (one sv) (.slice A6 k c6) ((iI x acc k).map aI)):=hZ (by rw[jh.out,Ey.out];exact HK.out);go_wp2_with fail
           go_roundw
           case rel=>exact⟨i+1,_,_,k,c5,c6,_,rfl,rfl,rfl,aL.out,by have:=HM.out;omega,yi,HO,G_,HB⟩
           case measure=>simp[intOf];have:=aL.out;omega
    · have yi:ag (((l.take (i+1)).foldl (eQ (eT day) aI dF) [])=acc):=hZ (by rw[Ex.out,Cj.out];exact acx lM.out)
      go_wp2_with (first
       |(with_reducible refine lx (.tmp 23) b (i*18) cX.out (IE _).out bk ?_)
       |(go_at_call 135;(with_reducible refine(Lw.out _ HB.out).mono ?_);rintro r V1 ⟨rfl,hb⟩;have lL:=hZ (HO.out.below hb (aB _));have kD:=hZ (HK.out.below hb (aB _));have aF:=hZ (HB.out.trans (hb.mono (qQ.out _ HB.out)));have y3:V1.cell? ⟨b,i*18+3,none⟩=some (.int .i64 x.day):=qU.out _ aF.out 3 _ rfl;clear hb)
       |fail)
      go_roundw
      case rel=>exact⟨i+1,_,_,m,c5,c6,acc,rfl,rfl,rfl,aL.out,by have:=HM.out;omega,yi,lL,kD,aF⟩
      case measure=>simp[intOf];have:=aL.out;omega
  · have d1:decide (i<n)=false:=by simp;omega
    have oz:ag (tL (eT day) aI dF l=acc):=hZ (by have:=Cj.out;rwa[eE (by have:=HN.out.1;omega)] at this);have dC:ag (acc.length=m):=hZ HO.out.len.1.symm;have Ak:ag (m≤1000000):=hZ (by have:=HN.out;omega);go_wp2_with fail;obtain⟨wi,uc⟩:=oQ (wr);rw[uc] at HO HB⊢;clear uc HK;obtain⟨M,hM⟩:=oQ (wi.heap.size);have Wo:=hZ hM;have j7:ag (Below M wi wi):=hZ (bK _ _);have HRO:=hZ (fun U (h:Below M wi U)=>show OL U N 33 18 af.cells (.slice A5 m c5) acc from HO.out.below h (Nat.le_of_eq hM));have HMB:=hZ (fun U (h:Below M wi U)=>show M≤U.heap.size from hM▸h.size);clear hM d1
    go_loopw [13,14] (fun tv kv wr=> ∃(k:Nat) (A9:Option bI) (m9 c9:Nat) (th:List af),kv=.int .i64 (k:Int)∧tv=.slice A9 m9 c9∧k≤m∧m9≤k∧ag ((acc.take k).filter (fun e=> !e.gone)=th)∧ag (OL wr M 33 18 af.cells (.slice A9 m9 c9) th)∧ag (Below M wi wr)) (fun _ v _=>m-(intOf v).toNat)
    case atStart=>exact⟨0,none,0,0,[],rfl,rfl,ei _,aB _,hZ rfl,hZ OL.nil,j7⟩
    case round=>
     clear j7;obtain⟨k,A9,m9,c9,th,rfl,rfl,hk,tW,WR,HT,G1⟩:=hrel
     by_cases dR:k<m
     · obtain⟨y,hy⟩:∃y,acc[k]?=some y:=⟨_,bp (by have:=dC.out;omega)⟩
       obtain⟨g5,cg5,e1,mE,-,-,-⟩:=HO.out.form (by have:=dC.out;omega);(obtain rfl:A5=some ⟨g5,0,none⟩:=by injection e1);have Lq:=hZ (OL.row (HRO.out wr G1.out) hy);have y4:wr.cell? ⟨g5,k*18+4,none⟩=some (.bool y.gone):=Lq.out 4 _ rfl;have i_:=hZ (ay dR (ay tW Ak.out));(have d2:decide (k<m)=true:=by simp[dR]);(have z3:(0:Int)≤(k:Int):=by omega);(have z4:(k:Int)<(m:Int):=by omega);have D4:=nx ⟨dR,Ak.out⟩;have mV:ag ((acc.take (k+1)).filter (fun e=> !e.gone)=th++if y.gone then[] else[y]):=hZ (by rw[gV,s7,WR.out,hy];cases h:y.gone<;>simp[h]);have Hx:ag (th.length=m9∧m9≤1000000):=hZ ⟨HT.out.len.1.symm,by have:=Ak.out;omega⟩;obtain⟨q,hq⟩:=oQ (y.gone);rw[hq] at y4 mV;clear e1 mE dR tW hy hq;cases q
       · go_wp2_with (first
          |(with_reducible refine lx (.tmp 99) g5 (k*18) Lq.out (IE _).out bk ?_)
          |((with_reducible refine sT rfl rfl (.tmp 100) (.tmp 96) (.tmp 101) 25 rfl rfl mZ ?h1 y rfl ?h2 y.val ?hx ?hr (.slice A9 m9 c9) th m9 Hx.out M (HMB.out _ G1.out) HT.out ?hv ?hy ?_);(case h1=>decide);(case h2=>exact ma _);(case hr=>exact fun w=>zx w _);(case hx=>rfl);(case hv=>rfl);(case hy=>rfl);intro A7 c7 V3 h3 hb;have sh:=hZ h3;have a_:=hZ (G1.out.trans hb);clear h3 hb)
          |fail)
         go_roundw
         case rel=>exact⟨k+1,A7,m9+1,c7,_,rfl,rfl,i_.out.1,by have:=i_.out;omega,mV,sh,a_⟩
         case measure=>simp[intOf];have:=i_.out;omega
       · have EI:ag ((acc.take (k+1)).filter (fun e=> !e.gone)=th):=hZ (by rw[mV.out];simp)
         go_wp2_with fail
         go_roundw
         case rel=>exact⟨k+1,A9,m9,c9,th,rfl,rfl,i_.out.1,by have:=i_.out;omega,EI,HT,G1⟩
         case measure=>simp[intOf];have:=i_.out;omega
     · have d2:decide (k<m)=false:=by simp[dR]
       have OX:ag (eG l day=th):=hZ (by unfold eG;rw[oz.out,←WR.out,eE (by have:=dC.out;omega)]);go_wp2_with fail;go_ret;rw[OX.out];exact⟨_,rfl,HT.out.base (by have:=Wo.out;have:=qQ.out _ HB.out;omega),HB.out.trans (G1.out.mono (by have:=Wo.out;have:=qQ.out _ HB.out;omega))⟩
theorem amw (l:List af) (A:Option bI) (n c:Nat) (kd:Int) (w:ae) (hA:eW w (bV w) A l) (hn:l.length=n∧n≤1000000):
 ax ah 88 #[.slice A n c,.int .i64 kd] w fun e w'=> ∃v,e=.returned v∧OL w' w.heap.size 33 18 af.cells v (dc (dP cD) (l.filter fun e=>decide (e.kind=kd)))∧Below w.heap.size w w':=by
 have IE:=fun e:af=>hZ (di (e:=e));have HA:=hZ hA;have HN:=hZ hn;obtain⟨p,hp⟩:∃p:af→Bool,(fun e=>decide (e.kind=kd))=p:=⟨_,rfl⟩;have HPP:=hZ hp;rw[hp];have Hi:ag (OL w w.heap.size 33 18 af.cells (.slice none 0 0) (dc (dP cD) ((l.take 0).filter p))):=hZ OL.nil;have de:ag (Below w.heap.size w w):=hZ (bK _ _);clear hA hn hp
 go_enter Tryz.func88,Tryz.ntmps88
 go_wp2_with fail
 go_loopw [5,6] (fun ov v wr=> ∃(i:Nat) (A5:Option bI) (m c5:Nat) (out:List af),v=.int .i64 (i:Int)∧ov=.slice A5 m c5∧i≤n∧ag (dc (dP cD) ((l.take i).filter p)=out)∧ag (OL wr w.heap.size 33 18 af.cells (.slice A5 m c5) out)∧ag (Below w.heap.size w wr)) (fun _ v _=>n-(intOf v).toNat)
 case atStart=>exact⟨0,none,0,0,_,rfl,rfl,ei _,hZ rfl,Hi,de⟩
 case round =>
  clear Hi de;obtain⟨i,A5,m,c5,out,rfl,rfl,hi,j',HO,HB⟩:=hrel
  by_cases ar:i<n
  · obtain ⟨x,b,HX,rfl,cy,cP⟩:=at9 HA HN HB.out ar
    have y0:wr.cell? ⟨b,i*18,none⟩=some (.int .i64 x.kind):=cP 0 (.int .i64 x.kind) rfl;have aL:=hZ ar;(have d1:decide (i<n)=true:=by simp[ar]);(have z1:(0:Int)≤(i:Int):=by omega);(have z2:(i:Int)<(n:Int):=by omega);have wk:=nx ⟨ar,HN.out.2⟩;obtain⟨q,hq⟩:=oQ ((x.kind !=kd));have HQ:ag (p x= !q):=hZ (by rw[←HPP.out,←hq];by_cases h:x.kind=kd<;>simp[h])
    have kI:ag ((l.take (i+1)).filter p=(l.take i).filter p++if p x then[x] else[]):=hZ (by
     rw[gV,s7,HX.out]
     cases h:p x<;>simp[h])
    clear ar;cases q
    · have Bp:m≤i:=by
       have h1:=HO.out.len.1;have h2:=(xt (lt:=dP cD) ((l.take i).filter p)).length_eq;have h3:=KO p (l.take i);rw[j'.out] at h2;rw[gD] at h3;omega
      have HM:ag (m≤i∧i<n∧n≤1000000):=hZ ⟨Bp,aL.out,HN.out.2⟩;have apL:ag (m≤c5):=hZ (by obtain⟨A',c',e,h1,-⟩:=HO.out.slice;injection e with _ e2 e3;omega);have dC:ag (out.length=m):=hZ HO.out.len.1.symm;clear cP Bp;go_wp2_with fail;obtain⟨wi,uc⟩:∃wi:ae,wi=wr:=⟨_,rfl⟩;rw[←uc] at HB HO⊢;have uI:ag (Below wi.heap.size wi wi):=hZ (bK _ _)
      have qU:ag (∀W,Below wi.heap.size wi W→W.rangeAt b (i*18) x.cells):=hZ fun W h=>by
       obtain⟨e,b',HE',nk,apI,y_⟩:=at9 HA HN (HB.out.trans (h.mono HB.out.size)) aL.out;have:=HE'.out;rw[HX.out] at this;cases this;injection nk with nk;injection nk with nk;subst nk;exact y_
      clear uc y0 d1
      go_loopw [7] (fun kv wr=> ∃k:Nat,kv=.int .i64 (k:Int)∧k≤m∧ag (∀j y,k≤j→out[j]?=some y→dP cD x y=true)∧ag (Below wi.heap.size wi wr)) (fun v _=>(intOf v).toNat)
      case atStart=>exact⟨m,rfl,aB _,hZ fun j y hj hy=>(by have:=(dL.1 hy).1;have:=dC.out;omega),uI⟩
      case round=>
       clear uI;obtain⟨k,rfl,hk,HK,aG⟩:=hrel
       by_cases fp:0<k
       · obtain⟨k1,fJ⟩:=oQ (k-1)
         have hLm:=dC.out;obtain⟨g,cg,e1,hg,f_,tV,yN⟩:=HO.out.form (by omega);(have e2:A5=some ⟨g,0,none⟩:=by injection e1);subst e2;obtain⟨y,hy⟩:∃y,out[k1]?=some y:=⟨_,bp (by omega)⟩;have HY:=hZ hy;have tW:=HM.out;(have TS:aQ.wrap ((k:Int)-1)=(k1:Int):=by rw[aS];omega);(have z3:(0:Int)≤(k1:Int):=by omega);(have z4:(k1:Int)<(m:Int):=by omega);(have d2:decide (0<k)=true:=by simp[fp]);obtain⟨ny,RX⟩:=oQ (cD y);obtain⟨nx',RW⟩:=oQ (cD x);have Vx:=hZ (fun W=>abo y W);have Vw:=hZ (fun W=>abo x W);rw[RX] at Vx;rw[RW] at Vw;obtain⟨q,hq⟩:=oQ (decide (nx'<ny));have Aq:ag (dP cD x y=q):=hZ (by unfold dP;rw[RW,RX];exact hq);have kH:ag (∀W,Below wi.heap.size wi W→W.rangeAt g (k1*18) y.cells∧W.rangeAt b (i*18) x.cells):=hZ fun W h=>⟨fun j v hv=>(h.cell (p:=⟨g,k1*18+j,none⟩) f_).trans (HO.out.row HY.out j v hv),qU.out W h⟩;have fR:ag (k1+1=k):=hZ (by omega);clear fJ e1 hg f_ tV yN hy RX RW tW fp hLm;go_wp2_with fail;refine cJ (fun U=>U.rangeAt g (k1*18) y.cells∧U.rangeAt b (i*18) x.cells) (kH.out wr.drew (eR aG.out)) fun hHeld=>?_;have bA:ag (Below wi.heap.size wi wr.drew):=hZ (eR aG.out);refine bg 0 1 2 3 ?_;refine dr 4 5 6 ?_;refine tl 7 rfl (yx g (k1*18) (IE _).out bk (fun w hw=>hw.1)) ?_;refine dr 9 10 11 ?_;refine tl 12 rfl (yx b (i*18) (IE _).out bk (fun w hw=>hw.2)) ?_;refine rE 8 fun K hK=>?_
         go_simp
         (with_reducible refine(Vx.out _).mono ?_)
         rintro r Va ⟨rfl,hb⟩;have bA:=aw bA hb;clear hb;refine kk hK (kH.out _ bA.out) fun hHeld=>?_;clear hK K;refine rE 13 fun K hK=>?_;go_simp
         (with_reducible refine(Vw.out _).mono ?_)
         rintro r Vb ⟨rfl,hb⟩;have bA:=aw bA hb;clear hb;refine kk hK (kH.out _ bA.out) fun hHeld=>?_;clear hK K;refine eC 14 15 ?_;refine dn ?_;clear hHeld;cases q
         · have fw:ag (∀z,0<k→out[k-1]?=some z→dP cD x z=false):=hZ fun z _ hz=>(by have:=fR.out;rw[show k-1=k1 by omega,HY.out] at hz;cases hz;exact Aq.out)
           obtain⟨U1,qU1⟩:=oQ (Vb);rw[qU1] at bA⊢;clear qU1;have dW:ag (k≤m∧m≤1000000∧(out.take k).length=k∧(out.drop k).length=m-k):=hZ (by have:=HM.out;have:=dC.out;rw[gD,pP];omega);have kE:=hZ (HO.out.below bA.out (aB _))
           go_wp2_with (first
            |((with_reducible refine BV rfl rfl (.tmp 43) (.tmp 44) (.tmp 42) (.tmp 45) 25 rfl rfl mZ (fun _=>rfl) ma kE.out ?h1 k dW.out.1 ?hx ?hk ?hv ?hy ?_);(case h1=>exact⟨dW.out.2.1,by decide⟩);(case hx=>rfl);(case hk=>rfl);(case hv=>rfl);(case hy=>rfl);intro v1 V1 h1 aq;have cA:=hZ h1;have aF:=hZ aq;have kF:=hZ (qU.out _ (bA.out.trans (aq.mono bA.out.size)));clear h1 aq)
            |(with_reducible refine lx (.tmp 50) b (i*18) kF.out (IE _).out bk ?_)
            |((with_reducible refine sT rfl rfl (.tmp 51) (.tmp 47) (.tmp 52) 25 rfl rfl mZ ?h1 x rfl ?h2 x.val ?hx ?hr v1 (out.take k) k ?h3 U1.heap.size aF.out.size cA.out ?hv ?hy ?_);(case h1=>decide);(case h2=>exact ma _);(case hr=>exact fun w=>zx w _);(case h3=>(have:=dW.out;omega));(case hx=>rfl);(case hv=>rfl);(case hy=>rfl);intro A2 c2 V2 h2 aA;have cI:=hZ h2;have a_:=hZ (aF.out.trans aA);have gL:=hZ (kE.out.below a_.out (aB _));clear h2 aA)
            |((with_reducible refine BW rfl rfl (.tmp 55) (.tmp 56) (.tmp 54) (.tmp 57) 25 rfl rfl mZ (fun _=>rfl) ma gL.out ?h1 k dW.out.1 ?hx ?hk (.slice A2 (k+1) c2) (out.take k++[x]) (m+1) ?h3 U1.heap.size a_.out.size cI.out ?hv ?hy ?_);(case h1=>exact⟨dW.out.2.1,by decide⟩);(case h3=>(have:=dW.out;rw[eV];simp only[uy];omega));(case hx=>rfl);(case hk=>rfl);(case hv=>rfl);(case hy=>rfl);intro A3 c3 V3 h3 aK;have mu:=hZ h3;have bJ:=hZ (a_.out.trans aK);clear h3 aK)
            |fail)
           have Cx:ag (dc (dP cD) ((l.take (i+1)).filter p)=(out.take k++[x])++out.drop k):=hZ (by rw[kI.out,HQ.out];show dc _ (_++[x])=_;rw[Nr,j'.out,←MH (E0 cD) (by rw[←j'.out];exact zC (E0 cD) _) (by have:=dW.out;have:=dC.out;omega) fw.out HK.out];simp)
           go_roundw
           case rel=>exact⟨i+1,A3,_,c3,_,rfl,rfl,aL.out,Cx,hZ (mu.out.base (aV HB.out.size bA.out.size)),hZ ((HB.out.trans (bA.out.mono HB.out.size)).trans (bJ.out.mono (aV HB.out.size bA.out.size)))⟩
           case measure=>simp[intOf];have:=aL.out;omega
         · go_wp2_with fail
           go_round
           case rel=>exact⟨k1,rfl,by have:=fR.out;omega,hZ fun j z hj hz=>(by
            rcases Nat.lt_or_ge k1 j with h|h
            · exact HK.out j z (by have:=fR.out;omega) hz
            · obtain rfl:j=k1:=by omega
              rw[HY.out] at hz;cases hz;exact Aq.out),bA⟩
           case measure=>simp[intOf];have:=fR.out;omega
       · obtain rfl:k=0:=by omega
         (have d2:decide ((0:Int)<((0:Nat):Int))=false:=by decide);have fw:ag (∀z,0<0→out[0-1]?=some z→dP cD x z=false):=hZ fun z h=>absurd h (by decide);have bA:ag (Below wi.heap.size wi wr.drew):=hZ (eR aG.out);go_wp2_with fail;refine cJ (fun _=>True) trivial fun hHeld=>?_;refine dr 0 1 2 ?_;refine tn 3 ?_;refine tn 4 ?_;refine tn 5 ?_;refine tn 6 ?_;refine tn 7 ?_;refine tn 8 ?_;refine tn 9 ?_;refine tn 10 ?_;refine tn 11 ?_;refine tn 12 ?_;refine tn 13 ?_;refine tn 14 ?_;refine tk 15 ?_;refine dn ?_;clear hHeld;obtain⟨U1,qU1⟩:=oQ (wr.drew);rw[qU1] at bA⊢;clear qU1;have dW:ag (0≤m∧m≤1000000∧(out.take 0).length=0∧(out.drop 0).length=m-0):=hZ (by have:=HM.out;have:=dC.out;rw[gD,pP];omega);have kE:=hZ (HO.out.below bA.out (aB _))
         go_wp2_with (first
          |((with_reducible refine BV rfl rfl (.tmp 43) (.tmp 44) (.tmp 42) (.tmp 45) 25 rfl rfl mZ (fun _=>rfl) ma kE.out ?h1 0 dW.out.1 ?hx ?hk ?hv ?hy ?_);(case h1=>exact⟨dW.out.2.1,by decide⟩);(case hx=>rfl);(case hk=>rfl);(case hv=>rfl);(case hy=>rfl);intro v1 V1 h1 aq;have cA:=hZ h1;have aF:=hZ aq;have kF:=hZ (qU.out _ (bA.out.trans (aq.mono bA.out.size)));clear h1 aq)
          |(with_reducible refine lx (.tmp 50) b (i*18) kF.out (IE _).out bk ?_)
          |((with_reducible refine sT rfl rfl (.tmp 51) (.tmp 47) (.tmp 52) 25 rfl rfl mZ ?h1 x rfl ?h2 x.val ?hx ?hr v1 (out.take 0) 0 ?h3 U1.heap.size aF.out.size cA.out ?hv ?hy ?_);(case h1=>decide);(case h2=>exact ma _);(case hr=>exact fun w=>zx w _);(case h3=>(have:=dW.out;omega));(case hx=>rfl);(case hv=>rfl);(case hy=>rfl);intro A2 c2 V2 h2 aA;have cI:=hZ h2;have a_:=hZ (aF.out.trans aA);have gL:=hZ (kE.out.below a_.out (aB _));clear h2 aA)
          |((with_reducible refine BW rfl rfl (.tmp 55) (.tmp 56) (.tmp 54) (.tmp 57) 25 rfl rfl mZ (fun _=>rfl) ma gL.out ?h1 0 dW.out.1 ?hx ?hk (.slice A2 (0+1) c2) (out.take 0++[x]) (m+1) ?h3 U1.heap.size a_.out.size cI.out ?hv ?hy ?_);(case h1=>exact⟨dW.out.2.1,by decide⟩);(case h3=>(have:=dW.out;rw[eV];simp only[uy];omega));(case hx=>rfl);(case hk=>rfl);(case hv=>rfl);(case hy=>rfl);intro A3 c3 V3 h3 aK;have mu:=hZ h3;have bJ:=hZ (a_.out.trans aK);clear h3 aK)
          |fail)
         have Cx:ag (dc (dP cD) ((l.take (i+1)).filter p)=(out.take 0++[x])++out.drop 0):=hZ (by rw[kI.out,HQ.out];show dc _ (_++[x])=_;rw[Nr,j'.out,←MH (E0 cD) (by rw[←j'.out];exact zC (E0 cD) _) (by have:=dW.out;have:=dC.out;omega) fw.out HK.out];simp)
         go_roundw
         case rel=>exact⟨i+1,A3,_,c3,_,rfl,rfl,aL.out,Cx,hZ (mu.out.base (aV HB.out.size bA.out.size)),hZ ((HB.out.trans (bA.out.mono HB.out.size)).trans (bJ.out.mono (aV HB.out.size bA.out.size)))⟩
         case measure=>simp[intOf];have:=aL.out;omega
    · have gL:ag (dc (dP cD) ((l.take (i+1)).filter p)=out):=hZ (by rw[kI.out,HQ.out];simpa using j'.out)
      go_wp2_with fail
      go_roundw
      case rel=>exact⟨i+1,A5,m,c5,out,rfl,rfl,aL.out,gL,HO,HB⟩
      case measure=>simp[intOf];have:=aL.out;omega
  · have d1:decide (i<n)=false:=by simp;omega
    have oz:ag (dc (dP cD) (l.filter p)=out):=hZ (by rw[←j'.out,eE (by have:=HN.out.1;omega)]);go_wp2_with fail;go_ret;rw[oz.out];exact⟨_,rfl,HO.out,HB.out⟩
def If (M:Nat) (V:ae) (L:List (ai×List af)):Prop:=∀p∈L,OL V M 33 18 af.cells p.1 p.2
theorem If.add {M:Nat} {V V':ae} {L:List (ai×List af)} (h:If M V L) {v:ai} {l:List af} (ho:OL V' M 33 18 af.cells v l) (hb:Below V.heap.size V V'):If M V' (L++[(v,l)]):=fun p hp=>by
 rcases List.mem_append.1 hp with q|q
 · exact(h p q).below hb (aB _)
 · rw[fQ.1 q];exact ho
theorem take_len (d:Int) (acc:List af) (e:af):(eQ (eT d) aI dF acc e).length≤acc.length+1:=by
 unfold eQ
 split
 · split
   · simp
   · split
     · simp
     · omega
 · omega
theorem aiW {d:Int} (l:List af):(tL (eT d) aI dF l).length≤l.length:=by
 have h:∀(b a:List af),(b.foldl (eQ (eT d) aI dF) a).length≤a.length+b.length:=by
  intro b
  induction b with
  |nil=>intro a;simp
  |cons x b ih=>intro a;have h1:=ih (eQ (eT d) aI dF a x);have h2:=take_len d a x;simp only[List.foldl_cons,List.length_cons];omega
 have:=h l [];unfold tL;simpa using this
theorem am0 {w:ae} {N:Nat} {vf:Nat→ai} {lf:Nat→List af} (h:∀j,j<9→OL w N 33 18 af.cells (vf j) (lf j)):(BH vf lf).val=.agg (nine vf)∧dH w (bV w) (BH vf lf):=by
 have hv:∀j,j<9→mi (addrOf (vf j)) (lf j).length (yw (vf j))=vf j:=fun j hj=>by
  obtain⟨A,cap,e,_,_⟩:=(h j hj).slice;rw[e];rfl
 refine⟨?_,⟨fun i hi=>?_,fun i hi=>?_,fun i hi=>?_⟩⟩
 · unfold bP.val bP.cells BH nine
   simp only[hv 0 (by decide),hv 1 (by decide),hv 2 (by decide),hv 3 (by decide),hv 4 (by decide),hv 5 (by decide),hv 6 (by decide),hv 7 (by decide),hv 8 (by decide)]
 all_goals
  have hr:=h i hi;obtain⟨A,cap,e,h1,h2⟩:=hr.slice
 · show eW w (bV w) (addrOf (vf i)) (lf i)
   rw[e] at hr⊢;exact eW.iW hr fun b hb=>(hr.lt b (by show Value.ownBlock (mi A _ _)=some b;rw[show A=some ⟨b,0,none⟩ from hb];rfl)).2
 · show(lf i).length≤yw (vf i)∧yw (vf i)≤cH
   rw[e];exact⟨h1,h2⟩
 · show addrOf (vf i)=none→yw (vf i)=0
   rw[e] at hr⊢;exact hr.FZ
theorem zl {M:Nat} {V:ae} {L:List (ai×List af)} (h:If M V L) {j:Nat} {v:ai} {l:List af} (hj:L[j]?=some (v,l)):OL V M 33 18 af.cells v l:=h _ (mP hj)
theorem abS (l:List af) (A:Option bI) (n c:Nat) (day:Int) (w:ae) (hA:eW w (bV w) A l) (hn:l.length=n∧n≤1000000) (hw:∀e∈l,e.j6) (hp:dY w):
 ax ah 42 #[.slice A n c,.int .i64 day] w fun e w'=> ∃B:bP,e=.returned B.val∧dH w' (bV w') B∧(∀j,j<9→B.ls j=gB l day j)∧Below w.heap.size w w':=by
 have dO:ag ((eG l day).length≤1000000):=hZ (by
  have h1:(tL (eT day) aI dF l).length≤l.length:=aiW l;have h2:=KO (fun e:af=> !e.gone) (tL (eT day) aI dF l)
  unfold eG;omega)
 obtain⟨b4,w1,q1,q2,q3,hf,bU⟩:=(At.start w).eX (.cells sP 36);have HQ:=hZ (ay q1 q2);have HF:=hZ hf;have H4:=hZ (ay q3 bU);have OX:=hZ (amo l A n c day w1 (hA.below hf.below) hn hw (hp.below hf.below));clear hA hn hw hp q1 q2 q3 hf bU
 go_enter Tryz.func42,Tryz.ntmps42
 go_upto_region 1 with(fail)
 obtain⟨q1,q2⟩:=HQ.out;rw[q1,show w.alloc (.cells #[.slice none 0 0,.slice none 0 0,.slice none 0 0,.slice none 0 0,.slice none 0 0,.slice none 0 0,.slice none 0 0,.slice none 0 0,.slice none 0 0] 36)=w1 from q2];clear q1 q2
 go_wp2_with (first
  | (go_at_call 87;(with_reducible refine OX.out.mono ?_);rintro r V0 ⟨v0,rfl,ho,hb⟩
     obtain⟨A0,c0,rfl,-,-⟩:=ho.slice;have rT:=hZ (HF.out.below.trans (hb.mono HF.out.below.size));have r8:ag (b4+1≤V0.heap.size):=hZ (by have:=hb.size;have:=H4.out;omega);have tq:=hZ ((hb.block b4 (by have:=H4.out;omega)).trans (HF.out.has (b4,.cells sP 36 (0,0)) (by simp)));have nR:ag (eW V0 (bV V0) A0 (eG l day)):=hZ (eW.iW ho fun b hb=>(ho.lt b (by rw[hb];rfl)).2);have yf:=hZ (fun(kd:Int) W (h:Below V0.heap.size V0 W)=>amw (eG l day) A0 _ c0 kd W (nR.out.below h) ⟨rfl,dO.out⟩);have de:ag (Below V0.heap.size V0 V0):=hZ (bK _ _);have mU:ag (If (b4+1) V0 []):=hZ fun p h=>by cases h
     clear ho hb)
  |(go_at_call 88;(with_reducible refine(yf.out 1 _ de.out).mono ?_);rintro r V1 ⟨v1,rfl,ho,hb⟩;obtain⟨A1,c1,rfl,-,-⟩:=ho.slice;have aF:=aw de hb;have kF:=hZ (mU.out.add (ho.base (aV r8.out de.out.size)) hb);clear ho hb)
  |(go_at_call 88;(with_reducible refine(yf.out 2 _ aF.out).mono ?_);rintro r V2 ⟨v2,rfl,ho,hb⟩;obtain⟨A2,c2,rfl,-,-⟩:=ho.slice;have aG:=aw aF hb;have j_:=hZ (kF.out.add (ho.base (aV r8.out aF.out.size)) hb);clear ho hb)
  |(go_at_call 88;(with_reducible refine(yf.out 3 _ aG.out).mono ?_);rintro r V3 ⟨v3,rfl,ho,hb⟩;obtain⟨A3,c3,rfl,-,-⟩:=ho.slice;have a_:=aw aG hb;have sc:=hZ (j_.out.add (ho.base (aV r8.out aG.out.size)) hb);clear ho hb)
  |(go_at_call 88;(with_reducible refine(yf.out 4 _ a_.out).mono ?_);rintro r V4 ⟨v4,rfl,ho,hb⟩;obtain⟨A4,c4,rfl,-,-⟩:=ho.slice;have bJ:=aw a_ hb;have k_:=hZ (sc.out.add (ho.base (aV r8.out a_.out.size)) hb);clear ho hb)
  |(go_at_call 88;(with_reducible refine(yf.out 5 _ bJ.out).mono ?_);rintro r V5 ⟨v5,rfl,ho,hb⟩;obtain⟨A5,c5,rfl,-,-⟩:=ho.slice;have cT:=aw bJ hb;have Lh:=hZ (k_.out.add (ho.base (aV r8.out bJ.out.size)) hb);clear ho hb)
  |(go_at_call 88;(with_reducible refine(yf.out 6 _ cT.out).mono ?_);rintro r V6 ⟨v6,rfl,ho,hb⟩;obtain⟨A6,c6,rfl,-,-⟩:=ho.slice;have dM:=aw cT hb;have HR6:=hZ (Lh.out.add (ho.base (aV r8.out cT.out.size)) hb);clear ho hb)
  |(go_at_call 88;(with_reducible refine(yf.out 7 _ dM.out).mono ?_);rintro r V7 ⟨v7,rfl,ho,hb⟩;obtain⟨A7,c7,rfl,-,-⟩:=ho.slice;have jD:=aw dM hb;have wC:=hZ (HR6.out.add (ho.base (aV r8.out dM.out.size)) hb);clear ho hb)
  |(go_at_call 88;(with_reducible refine(yf.out 8 _ jD.out).mono ?_);rintro r V8 ⟨v8,rfl,ho,hb⟩;obtain⟨A8,c8,rfl,-,-⟩:=ho.slice;have gj:=aw jD hb;have HR8:=hZ (wC.out.add (ho.base (aV r8.out jD.out.size)) hb);clear ho hb)
  |(go_at_call 88;(with_reducible refine(yf.out 9 _ gj.out).mono ?_);rintro r V9 ⟨v9,rfl,ho,hb⟩;obtain⟨A9,c9,rfl,-,-⟩:=ho.slice;have eK:=aw gj hb;have jF:=hZ (HR8.out.add (ho.base (aV r8.out gj.out.size)) hb);clear ho hb)
  |((with_reducible refine nK rfl 36 (.tmp 4) (.tmp 27) rfl rfl b4 #[.slice A1 (dc (dP cD) ((eG l day).filter fun e=>decide (e.kind=1))).length c1,.slice A2 (dc (dP cD) ((eG l day).filter fun e=>decide (e.kind=2))).length c2,.slice A3 (dc (dP cD) ((eG l day).filter fun e=>decide (e.kind=3))).length c3,.slice A4 (dc (dP cD) ((eG l day).filter fun e=>decide (e.kind=4))).length c4,.slice A5 (dc (dP cD) ((eG l day).filter fun e=>decide (e.kind=5))).length c5,.slice A6 (dc (dP cD) ((eG l day).filter fun e=>decide (e.kind=6))).length c6,.slice A7 (dc (dP cD) ((eG l day).filter fun e=>decide (e.kind=7))).length c7,.slice A8 (dc (dP cD) ((eG l day).filter fun e=>decide (e.kind=8))).length c8,.slice A9 (dc (dP cD) ((eG l day).filter fun e=>decide (e.kind=9))).length c9] sP ?hx ?hy ?hi ?hn ?ho ?h1 ?_);(case hx=>rfl);(case hy=>rfl);(case hi=>kernel_rfl);(case hn=>exact(eK.out.block b4 (by have:=r8.out;omega)).trans tq.out);(case ho=>rfl);(case h1=>simp[lH]);intro V hc ht;have HV:=hZ hc;have Hy:=hZ ht;clear hc ht)
  |fail)
 refine bodyPost_ret (vM rfl _ _ b4 [.slice A1 (dc (dP cD) ((eG l day).filter fun e=>decide (e.kind=1))).length c1,.slice A2 (dc (dP cD) ((eG l day).filter fun e=>decide (e.kind=2))).length c2,.slice A3 (dc (dP cD) ((eG l day).filter fun e=>decide (e.kind=3))).length c3,.slice A4 (dc (dP cD) ((eG l day).filter fun e=>decide (e.kind=4))).length c4,.slice A5 (dc (dP cD) ((eG l day).filter fun e=>decide (e.kind=5))).length c5,.slice A6 (dc (dP cD) ((eG l day).filter fun e=>decide (e.kind=6))).length c6,.slice A7 (dc (dP cD) ((eG l day).filter fun e=>decide (e.kind=7))).length c7,.slice A8 (dc (dP cD) ((eG l day).filter fun e=>decide (e.kind=8))).length c8,.slice A9 (dc (dP cD) ((eG l day).filter fun e=>decide (e.kind=9))).length c9] _ rfl (bl HV.out) je rfl (by kernel_rfl)) rfl ?_;obtain⟨vf,hvf⟩:∃vf:Nat→ai,vf=fun j=>([.slice A1 (dc (dP cD) ((eG l day).filter fun e=>decide (e.kind=1))).length c1,.slice A2 (dc (dP cD) ((eG l day).filter fun e=>decide (e.kind=2))).length c2,.slice A3 (dc (dP cD) ((eG l day).filter fun e=>decide (e.kind=3))).length c3,.slice A4 (dc (dP cD) ((eG l day).filter fun e=>decide (e.kind=4))).length c4,.slice A5 (dc (dP cD) ((eG l day).filter fun e=>decide (e.kind=5))).length c5,.slice A6 (dc (dP cD) ((eG l day).filter fun e=>decide (e.kind=6))).length c6,.slice A7 (dc (dP cD) ((eG l day).filter fun e=>decide (e.kind=7))).length c7,.slice A8 (dc (dP cD) ((eG l day).filter fun e=>decide (e.kind=8))).length c8,.slice A9 (dc (dP cD) ((eG l day).filter fun e=>decide (e.kind=9))).length c9]:List ai).getD j undef:=⟨_,rfl⟩
 have aj9:∀j,j<9→OL V (b4+1) 33 18 af.cells (vf j) (gB l day j):=fun j hj=>by
  have hk:OL V9 (b4+1) 33 18 af.cells (vf j) (gB l day j):=by
   rw[hvf];obtain rfl|rfl|rfl|rfl|rfl|rfl|rfl|rfl|rfl:j=0∨j=1∨j=2∨j=3∨j=4∨j=5∨j=6∨j=7∨j=8:=by omega
   · exact zl jF.out (j:=0) rfl
   · exact zl jF.out (j:=1) rfl
   · exact zl jF.out (j:=2) rfl
   · exact zl jF.out (j:=3) rfl
   · exact zl jF.out (j:=4) rfl
   · exact zl jF.out (j:=5) rfl
   · exact zl jF.out (j:=6) rfl
   · exact zl jF.out (j:=7) rfl
   · exact zl jF.out (j:=8) rfl
  exact hk.keep fun g hg=>Hy.out.block g (hk.lt g hg).2 (fun e=>by have:=(hk.lt g hg).1;omega)
 obtain⟨h1,h2⟩:=am0 aj9;refine⟨BH vf (gB l day),?_,h2,fun j _=>rfl,Hy.out.below (rT.out.trans (eK.out.mono rT.out.size)) (aB _) (fun k hk=>by have:=H4.out;omega)⟩;rw[h1,hvf];rfl
end Go.Proofs.YteeifhlhpiimoaaGreatDoor
end
section
namespace Go.Proofs.YteeifhlhpiimoaaGreatDoor
open Go Go.RowKit Go.Shelf Wr
attribute [local go_sem] Oper.semAt_some
abbrev eM (q:Int×Int×Int):List ai:=[.int .i64 q.1,.int .i64 q.2.1,.int .i64 q.2.2]
theorem ahX {W:ae} {b:Nat} {q r:Int×Int×Int} (h:W.heap[b]?=some (.cells (eM q++eM r).toArray 67 (0,0))) {j:Nat} {x:Int×Int×Int} (hx:[q,r][j]?=some x):W.rangeAt b (j*3) (eM x):=by
 intro i v hv;have hi:i<3:=(dL.1 hv).1;have:=mA (f:=eM) (s:=3) (fun _=>rfl) [q,r] j x hx i hi;exact aJ h (by simpa using this.trans hv)
theorem anr (y:gX):(iq y).j6:=let t:=ant y;⟨t.ln,t.ld,t.hn,t.hd,t.rn,t.rd,t.text⟩
theorem akR (l:List af) (A:Option bI) (n c:Nat) (hn:l.length=n∧n≤cH) (x:List gX) (A2:Option bI) (n2 c2:Nat) (cN:x.length=n2) (fT:n2≤cH) (hx:∀y∈x,y.Ok) (dv aN aM aT:Int) (hd:iN dv) (h1:iN aN) (h2:iN aM) (h3:iN aT) (w:ae) (hp:dY w) (hA:tj w w.heap.size A 18 af.cells l) (hX:EU w A2 x):
 ax ah 8 #[.slice A n c,.slice A2 n2 c2,.int .i64 dv,.agg #[.int .i64 aN,.int .i64 aM,.int .i64 aT]] w (cC w true):=by
 have IB:=fun B:bP=>hZ (qx B);have FW:=hZ (fun W (h:Below w.heap.size w W)=>aje l A n c hn W (hA.up h));have SW:=hZ (fun W (h:Below w.heap.size w W)=>anu x A2 n2 c2 cN fT hx W (hX.below h));obtain⟨m,hm⟩:=oQ ((x.take 30).map iq);have Hg:ag ((∀e∈m,e.j6)∧m.length≤30):=hZ ⟨fun e he=>by rw[←hm] at he;obtain⟨y,_,rfl⟩:=List.mem_map.1 he;exact anr y,by rw[←hm];simp;omega⟩;rw[hm] at SW;have PK:∀(x n p:Int),iN x→1≤n→n≤100→dA x n=p→∀W,ax ah 13 #[.int .i64 x,.int .i64 n] W fun e W'=>e=.returned (.int .i64 p)∧W=W':=fun x n p hx h1 h2 hp W=>by rw[←hp];exact al5 W x n hx.1 hx.2 h1 (by omega)
 have r1:=kU aN (n:=4) (by omega);have r2:=kU aM (n:=4) (by omega);obtain⟨p1,Ju⟩:=oQ (dA aN 4);obtain⟨p2,eH⟩:=oQ (dA aM 4);obtain⟨p3,rm⟩:=oQ (dA aT 80);obtain⟨p4,ik⟩:=oQ (dA dv 31);have P1:=hZ (PK aN 4 p1 h1 (by omega) (by omega) Ju);have P2:=hZ (PK aM 4 p2 h2 (by omega) (by omega) eH);have P3:=hZ (PK aT 80 p3 h3 (by omega) (by omega) rm);have P4:=hZ (PK dv 31 p4 hd (by omega) (by omega) ik);rw[Ju] at r1;rw[eH] at r2;obtain⟨s1,aP⟩:=oQ (1+p1);obtain⟨s2,eO⟩:=oQ (1+p2);have TS:aQ.wrap (1+p1)=s1:=by rw[aS];omega
 have D4:aQ.wrap (1+p2)=s2:=by rw[aS];omega
 obtain⟨b7,w1,q1,q2,q3,hf,bU⟩:=(At.start w).eX (.cells #[.int .i64 aN,.int .i64 aM,.int .i64 aT] 67);have HF:ag (St w w1 [(b7,.cells (eM (aN,aM,aT)).toArray 67 (0,0))] []):=hZ ⟨hf,fun B h=>absurd h (by simp),hp.below hf.below⟩;have HQ:=hZ (ay q1 q2);clear hn cN fT hx hd h1 h2 h3 hp hA hX hm PK r1 r2 Ju eH rm ik aP eO q1 q2 q3 hf bU
 go_enter Tryz.func8,Tryz.ntmps8
 go_upto_region 1 with(fail)
 obtain⟨q1,q2⟩:=HQ.out;rw[q1,q2];clear q1 q2 HQ
 go_upto_region 4 with(first
  |(go_at_call 11;(with_reducible refine(anc _ HF.out.pow).mono ?_);rintro e2 w2 ⟨rfl,hb⟩;have au:=HF.out.step hb;have HF:=hZ au;clear hb au)
  | (go_at_call 19;(with_reducible refine(FW.out _ HF.out.at_.below).mono ?_);rintro e2 w3 ⟨l2,v0,rfl,ZJ,ho,hb⟩
     obtain⟨Al,cl,rfl,ri,pz⟩:=ho.slice;have au:=(HF.out.step hb).add (abL (eW.iW (Y:=bV w3) ho (fun b e=>by have:=(ho.lt b (by rw[e];rfl)).2;exact this)) ⟨ri,pz⟩ ho.FZ);have HF:=hZ au;have EB:=hZ ZJ;obtain⟨nl,DG⟩:=oQ (l2.length);have Hh:=hZ DG;rw[DG]
     clear hb au ZJ ho ri pz DG FW)
  | (go_at_call 12;(with_reducible refine(SW.out _ HF.out.at_.below).mono ?_);rintro e2 w4 ⟨v0,rfl,ho,hb⟩
     obtain⟨Am,cm,rfl,ri,pz⟩:=ho.slice;have au:=(HF.out.step hb).add (abL (eW.iW (Y:=bV w4) ho (fun b e=>by have:=(ho.lt b (by rw[e];rfl)).2;exact this)) ⟨ri,pz⟩ ho.FZ);have HF:=hZ au;obtain⟨nm,qo⟩:=oQ (m.length);have ED:=hZ qo;rw[qo]
     clear hb au ho ri pz qo SW)
  |fail)
 go_cut [11] from 29 to 40 (fun v U=> ∃yu,v=.pointer (some ⟨yu,0,none⟩)∧St w U [(yu,.cells (eM (s1,s2,p3)).toArray 67 (0,0)),(b7,.cells (eM (aN,aM,aT)).toArray 67 (0,0))] [iH m Am cm,iH l2 Al cl])
 case first=>
  have x0:=HF.out.at_.cell (b:=b7) (cs:=(eM (aN,aM,aT)).toArray) (t:=67) (by simp) (i:=0) rfl;have x1:=HF.out.at_.cell (b:=b7) (cs:=(eM (aN,aM,aT)).toArray) (t:=67) (by simp) (i:=1) rfl;have x2:=HF.out.at_.cell (b:=b7) (cs:=(eM (aN,aM,aT)).toArray) (t:=67) (by simp) (i:=2) rfl;have HK:ag (∀o,(w4.drew.alloc o).cell? ⟨b7,0,none⟩=some (.int .i64 aN)∧(w4.drew.alloc o).cell? ⟨b7,1,none⟩=some (.int .i64 aM)∧(w4.drew.alloc o).cell? ⟨b7,2,none⟩=some (.int .i64 aT)):=hZ fun o=>⟨(HF.out.drew.step (aY _ o)).at_.cell (b:=b7) (cs:=(eM (aN,aM,aT)).toArray) (t:=67) (by simp) (i:=0) rfl,(HF.out.drew.step (aY _ o)).at_.cell (b:=b7) (cs:=(eM (aN,aM,aT)).toArray) (t:=67) (by simp) (i:=1) rfl,(HF.out.drew.step (aY _ o)).at_.cell (b:=b7) (cs:=(eM (aN,aM,aT)).toArray) (t:=67) (by simp) (i:=2) rfl⟩
  go_region_held3 (fun U=>U.cell? ⟨b7,0,none⟩=some (.int .i64 aN)∧U.cell? ⟨b7,1,none⟩=some (.int .i64 aM)∧U.cell? ⟨b7,2,none⟩=some (.int .i64 aT)) (first|exact⟨x0,x1,x2⟩|exact HK.out _|go_keep) (first
   |(go_at_call 13;(with_reducible refine(P1.out _).mono ?_);rintro e2 W2 ⟨rfl,rfl⟩)
   |(go_at_call 13;(with_reducible refine(P2.out _).mono ?_);rintro e2 W2 ⟨rfl,rfl⟩)
   |(go_at_call 13;(with_reducible refine(P3.out _).mono ?_);rintro e2 W2 ⟨rfl,rfl⟩)
   |fail)
  all_goals
   go_wp2_with fail
   go_meet
   case rel=>exact⟨_,rfl,(HF.out.drew.step (aY _ _)).put (World.alloc_heap_new _ _)⟩
 case rest=>
 obtain⟨yu,rfl,bW⟩:=hcut;have HF:=hZ bW;clear bW;have Pz:=hZ (fun W=>abM l2 Al nl cl Hh.out W);have ahz:=hZ (fun W=>abM m Am nm cm ED.out W);have lL:ag (∀W L Bs,St w W L Bs→iH l2 Al cl∈Bs→ax ah 15 #[.slice Al nl cl,.int .i64 dv] W fun e w'=> ∃B:bP,e=.returned B.val∧dH w' (bV w') B∧(∀j,j<9→B.ls j=gB l2 dv j)∧Below W.heap.size W w'):=hZ fun W L Bs h hb=>J0 l2 dv Al nl cl Hh.out (by have:=EB.out.2;have:=Hh.out;omega) W ((h.eA _ hb).at_ 0 (by decide)) (fun e he=>(EB.out.1 e he).TR) h.pow;have gL:ag (∀W L Bs,St w W L Bs→iH m Am cm∈Bs→ax ah 15 #[.slice Am nm cm,.int .i64 p4] W fun e w'=> ∃B:bP,e=.returned B.val∧dH w' (bV w') B∧(∀j,j<9→B.ls j=gB m p4 j)∧Below W.heap.size W w'):=hZ fun W L Bs h hb=>J0 m p4 Am nm cm ED.out (by have:=Hg.out.2;have:=ED.out;omega) W ((h.eA _ hb).at_ 0 (by decide)) (fun e he=>(Hg.out.1 e he).TR) h.pow;have Cz:ag (∀W L Bs,St w W L Bs→iH l2 Al cl∈Bs→ax ah 42 #[.slice Al nl cl,.int .i64 dv] W fun e w'=> ∃B:bP,e=.returned B.val∧dH w' (bV w') B∧(∀j,j<9→B.ls j=gB l2 dv j)∧Below W.heap.size W w'):=hZ fun W L Bs h hb=>abS l2 Al nl cl dv W ((h.eA _ hb).at_ 0 (by decide)) ⟨Hh.out,by have:=EB.out.2;have:=Hh.out;omega⟩ EB.out.1 h.pow;have mT:ag (∀W L Bs,St w W L Bs→iH m Am cm∈Bs→ax ah 42 #[.slice Am nm cm,.int .i64 p4] W fun e w'=> ∃B:bP,e=.returned B.val∧dH w' (bV w') B∧(∀j,j<9→B.ls j=gB m p4 j)∧Below W.heap.size W w'):=hZ fun W L Bs h hb=>abS m Am nm cm p4 W ((h.eA _ hb).at_ 0 (by decide)) ⟨ED.out,by have:=Hg.out.2;have:=ED.out;omega⟩ Hg.out.1 h.pow
 go_wp2_with (first
  |(go_at_call 15;(with_reducible refine(lL.out _ _ _ HF.out (by simp)).mono ?_);rintro e2 w5 ⟨B1,rfl,hB,hI,hb⟩;have au:=(HF.out.step hb).add hB;have HF:=hZ au;have o_:=hZ hI;clear hb hB hI au)
  |(go_at_call 32;(with_reducible refine(Pz.out _).mono ?_);rintro e2 w6 ⟨rfl,hb⟩;have au:=HF.out.step hb;have HF:=hZ au;clear hb au)
  |(go_at_call 13;(with_reducible refine(P4.out _).mono ?_);rintro e2 W2 ⟨rfl,rfl⟩)
  |(go_at_call 15;(with_reducible refine(gL.out _ _ _ HF.out (by simp)).mono ?_);rintro e2 w7 ⟨B3,rfl,hB,hI,hb⟩;have au:=(HF.out.step hb).add hB;have HF:=hZ au;have Wf:=hZ hI;clear hb hB hI au)
  |(go_at_call 32;(with_reducible refine(ahz.out _).mono ?_);rintro e2 w8 ⟨rfl,hb⟩;have au:=HF.out.step hb;have HF:=hZ au;clear hb au)
  |((with_reducible refine ao6 rfl 4 #[(0,.tmp 43),(1,.tmp 45),(2,.tmp 49),(3,.tmp 51)] rfl ?hn [B1,iH l2 Al cl,B3,iH m Am cm] ?hl ?hp ?_);(case hn=>decide);(case hl=>rfl);(case hp=>kernel_rfl);intro bb V fS hb cL;have au:=(HF.out.step hb).put cL;have HF:=hZ au;clear hb fS cL au)
  |fail)
 have uI:ag (∀B∈[B1,iH l2 Al cl,B3,iH m Am cm],∀j,j<9→(B.ls j).length≤30):=hZ fun B hB j hj=>by
  have z1:=EB.out.2;have z2:=Hg.out.2;simp only[List.mem_cons,List.not_mem_nil,or_false] at hB;rcases hB with rfl|rfl|rfl|rfl
  · rw[o_.out j hj];exact aV (aaT _ _ _) z1
  · exact z1
  · rw[Wf.out j hj];exact aV (aaT _ _ _) z2
  · exact z2
 obtain⟨Bs,L0,bW,m7,m11,mb,IN⟩:∃Bs L,St w V L Bs∧(b7,.cells (eM (aN,aM,aT)).toArray 67 (0,0))∈L∧(yu,.cells (eM (s1,s2,p3)).toArray 67 (0,0))∈L∧(bb,.cells ([B1,iH l2 Al cl,B3,iH m Am cm].flatMap bP.cells).toArray 36 (0,0))∈L∧(∀B∈[B1,iH l2 Al cl,B3,iH m Am cm],B∈Bs):=⟨_,_,HF.out,by simp,by simp,by simp,by simp⟩;obtain⟨Ls,Q2⟩:=oQ ([B1,iH l2 Al cl,B3,iH m Am cm]);have fG:ag (iH l2 Al cl∈Bs∧iH m Am cm∈Bs):=hZ ⟨IN _ (by simp),IN _ (by simp)⟩;have HL4:ag (Ls.length=4):=hZ (by rw[←Q2];rfl);rw[Q2] at uI mb IN;have Ak:=hZ (ay m7 (ay m11 (ay mb IN)));have HF:=hZ bW;clear bW m7 m11 mb IN Q2 o_ Wf P1 P2 P3 TS D4
 go_loopw [54] (fun v wr=> ∃i:Nat,v=.int .i64 (i:Int)∧i≤4∧ag (St w wr L0 Bs)) (fun v _=>4-(intOf v).toNat)
 case atStart=>exact⟨0,rfl,by omega,HF⟩
 case round=>
  clear HF;obtain⟨i,rfl,hi,HF⟩:=hrel
  by_cases ar:i<4
  ·
   obtain⟨B,hB⟩:∃B,Ls[i]?=some B:=⟨_,bp (by rw[HL4.out];exact ar)⟩;have QW:=mP hB;have j7:=hZ (Ak.out.2.2.2 B QW);have dO:=hZ (uI.out B QW);have Lj:ag (wr.rangeAt bb (i*9) B.cells):=hZ (am1 (HF.out.at_.has _ Ak.out.2.2.1) hB);(have d1:decide ((i:Int)<4)=true:=by simp;omega);(have z1:(0:Int)≤(i:Int):=by omega);(have z2:(i:Int)<4:=by omega);(have wk:aQ.wrap ((i:Int)+1)=((i+1:Nat):Int):=by rw[aS];omega);have aL:=hZ ar;clear hB QW ar hi
   go_wp2_with (first
    |(with_reducible refine lx (.tmp 56) bb (i*9) Lj.out (IB B).out je ?_)
    |((with_reducible refine xA rfl 36 (.tmp 13) (.tmp 57) rfl rfl B.cells.toArray ?hx ?hy ?hi ?ho ?h1 HF.out ?_);(case hx=>rfl);(case hy=>rfl);(case hi=>exact qx B);(case ho=>rfl);(case h1=>exact SS _);intro jS V13 hb bW;rw[hb];have HF:=hZ bW;clear hb bW)
    |(with_reducible refine lx (.tmp 7) b7 0 (HF.out.row (qI _ Ak.out.1)) (by kernel_rfl) KE ?_)
    |(with_reducible refine lx (.tmp 11) yu 0 (HF.out.row (qI _ Ak.out.2.1)) (by kernel_rfl) KE ?_)
    |fail)
   obtain⟨bq,Xm,q1,q2,-,hf,-⟩:=HF.out.at_.eX (.cells (eM (aN,aM,aT)++eM (s1,s2,p3)).toArray 67);simp only[eM,List.cons_append,List.nil_append] at q2;rw[q1,q2];have bW:St w Xm ((bq,.cells (eM (aN,aM,aT)++eM (s1,s2,p3)).toArray 67 (0,0))::(jS,.cells B.cells.toArray 36 (0,0))::L0) Bs:=⟨hf,fun C hC=>(HF.out.eA C hC).below (by rw[←q2];exact aY _ _),HF.out.pow.below (by rw[←q2];exact aY _ _)⟩;obtain⟨L1,bW,mq,m13,mL⟩:∃L,St w Xm L Bs∧(bq,.cells (eM (aN,aM,aT)++eM (s1,s2,p3)).toArray 67 (0,0))∈L∧(jS,.cells B.cells.toArray 36 (0,0))∈L∧∀p∈L0,p∈L:=⟨_,bW,by simp,by simp,fun p hp=>by simp[hp]⟩;have k9:=hZ (ay mq (ay m13 mL));have HF:=hZ bW;clear q1 q2 hf bW mq m13 mL d1 z1 z2 Lj
   go_loopw [62] (fun v wr=> ∃j:Nat,v=.int .i64 (j:Int)∧j≤2∧ag (St w wr L1 Bs)) (fun v _=>2-(intOf v).toNat)
   case atStart=>exact⟨0,rfl,by omega,HF⟩
   case round=>
    clear HF;obtain⟨j,rfl,hj,HF⟩:=hrel
    by_cases ar:j<2
    ·
     obtain⟨⟨p,s,t⟩,hq⟩:∃q,[(aN,aM,aT),(s1,s2,p3)][j]?=some q:=⟨_,bp (by simpa using ar)⟩;have WB:ag (wr.rangeAt bq (j*3) (eM (p,s,t))):=hZ (ahX (HF.out.at_.has _ k9.out.1) hq);(have d1:decide ((j:Int)<2)=true:=by simp;omega);(have z1:(0:Int)≤(j:Int):=by omega);(have z2:(j:Int)<2:=by omega);(have D4:aQ.wrap ((j:Int)+1)=((j+1:Nat):Int):=by rw[aS];omega);have Wm:=hZ ar;obtain⟨ks,Fw⟩:=oQ ((l8 B p t).1.text);obtain⟨ko,RM⟩:=oQ ((l8 B p t).2);obtain⟨br,Ri⟩:=oQ ((fk (B.ls 7) p).rn);obtain⟨bd,oM⟩:=oQ ((fk (B.ls 7) p).rd);obtain⟨bo,lX⟩:=oQ (((B.ls 7).any fun e=>decide (e.item=p)));obtain⟨wo,vF⟩:=oQ (((B.ls 3).any fun e=>decide (e.item=p)&&(decide (e.az≤t)&&decide (t≤e.bj))));obtain⟨so,JI⟩:=oQ ((B.ls 6).any (BO p s t));obtain⟨hr,RE⟩:=oQ ((fk (B.ls 1) p).rn);obtain⟨hd,RD⟩:=oQ ((fk (B.ls 1) p).rd);obtain⟨pts,R9⟩:=oQ (vk B p);obtain⟨fs,tT⟩:=oQ (q8 B p);obtain⟨cs,hcs⟩:=oQ (AM B p);have gG:∀j,j<9→(B.ls j).length≤1000000:=fun j h=>aV (dO.out j h) (by decide);have Dd:(iO (B.ls 0) p).length≤31:=aV (KO _ _) (aV (dO.out 0 (by decide)) (by decide));have P_:=hZ (fun W L (h:St w W L Bs)=>SG B p t W (h.eA B j7.out));rw[Fw,RM] at P_;have Qa:=hZ (fun W L (h:St w W L Bs)=>amu B p t W (h.eA B j7.out) (gG 4 (by decide)) (gG 5 (by decide)));rw[Fw,RM] at Qa;have P9:=hZ (fun W L (h:St w W L Bs)=>Xx B p W (h.eA B j7.out));rw[Ri,oM,lX] at P9;have P':=hZ (fun W L (h:St w W L Bs)=>aml B p W (h.eA B j7.out) (gG 7 (by decide)));rw[Ri,oM,lX] at P';have Xf:=hZ (fun W L (h:St w W L Bs)=>ape B p t W (h.eA B j7.out));rw[vF] at Xf
     have Xg:=hZ (fun W L (h:St w W L Bs)=>amF B p t W (h.eA B j7.out) (gG 3 (by decide)));rw[vF] at Xg;have Ib:=hZ (fun W L (h:St w W L Bs)=>anq B p s t W (h.eA B j7.out));rw[ann,JI] at Ib;have Ic:=hZ (fun W L (h:St w W L Bs)=>amB B p s t W (h.eA B j7.out) (gG 6 (by decide)));rw[JI] at Ic;have LC:=hZ (fun W L (h:St w W L Bs)=>ZC B p W (h.eA B j7.out) (gG 0 (by decide)) Dd);unfold EN at LC;rw[RE,RD,R9] at LC;have LD:=hZ (fun W L (h:St w W L Bs)=>ams B p W (h.eA B j7.out) ⟨(gG 0 (by decide)),(gG 1 (by decide))⟩ Dd);unfold EN at LD;rw[RE,RD,R9] at LD;have Xd:=hZ (fun W L (h:St w W L Bs)=>ajd B p W (h.eA B j7.out) (gG 2 (by decide)));rw[tT] at Xd;have Xe:=hZ (fun W L (h:St w W L Bs)=>amr B p W (h.eA B j7.out) (gG 2 (by decide)));rw[tT] at Xe;have Xb:=hZ (fun W L (h:St w W L Bs)=>XQ B p W (h.eA B j7.out) (gG 8 (by decide)));rw[hcs] at Xb;have Xc:=hZ (fun W L (h:St w W L Bs)=>amn B p W (h.eA B j7.out) (gG 8 (by decide)));rw[hcs] at Xc;clear Fw RM Ri oM lX vF JI RE RD R9 tT hcs gG Dd hq ar hj
     go_wp2_with (first
      |(with_reducible refine lx (.tmp 64) bq (j*3) WB.out (by kernel_rfl) KE ?_)
      |((with_reducible refine xA rfl 67 (.tmp 15) (.tmp 65) rfl rfl (eM (p,s,t)).toArray ?hx ?hy ?hi ?ho ?h1 HF.out ?_);(case hx=>rfl);(case hy=>rfl);(case hi=>kernel_rfl);(case ho=>rfl);(case h1=>simp[lH]);intro gO V15 hb bW;rw[hb];have HF:=hZ bW;clear hb bW;have y0:=HF.out.at_.cell (b:=gO) (cs:=(eM (p,s,t)).toArray) (t:=67) (by simp) (i:=0) rfl;have y1:=HF.out.at_.cell (b:=gO) (cs:=(eM (p,s,t)).toArray) (t:=67) (by simp) (i:=1) rfl;have y2:=HF.out.at_.cell (b:=gO) (cs:=(eM (p,s,t)).toArray) (t:=67) (by simp) (i:=2) rfl;have qT:=hZ (HF.out.row (b:=jS) (cs:=B.cells) (t:=36) (by simp[k9.out.2.1])))
      |(with_reducible refine lx (.tmp 13) jS 0 qT.out (IB B).out je ?_)
      |(go_at_call 23;(with_reducible refine(P_.out _ _ HF.out).mono ?_);rintro e2 V16 ⟨rfl,hb⟩;have au:=HF.out.step hb;have HF:=hZ au;clear hb au P_ y0 y1 y2 qT;have y0:=HF.out.at_.cell (b:=gO) (cs:=(eM (p,s,t)).toArray) (t:=67) (by simp) (i:=0) rfl;have y1:=HF.out.at_.cell (b:=gO) (cs:=(eM (p,s,t)).toArray) (t:=67) (by simp) (i:=1) rfl;have y2:=HF.out.at_.cell (b:=gO) (cs:=(eM (p,s,t)).toArray) (t:=67) (by simp) (i:=2) rfl;have qT:=hZ (HF.out.row (b:=jS) (cs:=B.cells) (t:=36) (by simp[k9.out.2.1])))
      |(go_at_call 33;(with_reducible refine(Qa.out _ _ HF.out).mono ?_);rintro e2 V17 ⟨rfl,hb⟩;have au:=HF.out.step hb;have HF:=hZ au;clear hb au Qa y0 y1 y2 qT;have y0:=HF.out.at_.cell (b:=gO) (cs:=(eM (p,s,t)).toArray) (t:=67) (by simp) (i:=0) rfl;have y1:=HF.out.at_.cell (b:=gO) (cs:=(eM (p,s,t)).toArray) (t:=67) (by simp) (i:=1) rfl;have y2:=HF.out.at_.cell (b:=gO) (cs:=(eM (p,s,t)).toArray) (t:=67) (by simp) (i:=2) rfl;have qT:=hZ (HF.out.row (b:=jS) (cs:=B.cells) (t:=36) (by simp[k9.out.2.1])))
      |(go_at_call 24;(with_reducible refine(P9.out _ _ HF.out).mono ?_);rintro e2 V18 ⟨rfl,hb⟩;have au:=HF.out.step hb;have HF:=hZ au;clear hb au P9 y0 y1 y2 qT;have y0:=HF.out.at_.cell (b:=gO) (cs:=(eM (p,s,t)).toArray) (t:=67) (by simp) (i:=0) rfl;have y1:=HF.out.at_.cell (b:=gO) (cs:=(eM (p,s,t)).toArray) (t:=67) (by simp) (i:=1) rfl;have y2:=HF.out.at_.cell (b:=gO) (cs:=(eM (p,s,t)).toArray) (t:=67) (by simp) (i:=2) rfl;have qT:=hZ (HF.out.row (b:=jS) (cs:=B.cells) (t:=36) (by simp[k9.out.2.1])))
      |(go_at_call 34;(with_reducible refine(P'.out _ _ HF.out).mono ?_);rintro e2 V19 ⟨rfl,hb⟩;have au:=HF.out.step hb;have HF:=hZ au;clear hb au P' y0 y1 y2 qT;have y0:=HF.out.at_.cell (b:=gO) (cs:=(eM (p,s,t)).toArray) (t:=67) (by simp) (i:=0) rfl;have y1:=HF.out.at_.cell (b:=gO) (cs:=(eM (p,s,t)).toArray) (t:=67) (by simp) (i:=1) rfl;have y2:=HF.out.at_.cell (b:=gO) (cs:=(eM (p,s,t)).toArray) (t:=67) (by simp) (i:=2) rfl;have qT:=hZ (HF.out.row (b:=jS) (cs:=B.cells) (t:=36) (by simp[k9.out.2.1])))
      |((with_reducible refine xA rfl 29 (.tmp 20) (.tmp 89) rfl rfl (#[.string br,.string bd]) ?hx ?hy ?hi ?ho ?h1 HF.out ?_);(case hx=>rfl);(case hy=>rfl);(case hi=>kernel_rfl);(case ho=>rfl);(case h1=>simp[lH]);intro Xr V20 hb bW;rw[hb];have HF:=hZ bW;clear hb bW y0 y1 y2 qT;have y0:=HF.out.at_.cell (b:=gO) (cs:=(eM (p,s,t)).toArray) (t:=67) (by simp) (i:=0) rfl;have y1:=HF.out.at_.cell (b:=gO) (cs:=(eM (p,s,t)).toArray) (t:=67) (by simp) (i:=1) rfl;have y2:=HF.out.at_.cell (b:=gO) (cs:=(eM (p,s,t)).toArray) (t:=67) (by simp) (i:=2) rfl;have qT:=hZ (HF.out.row (b:=jS) (cs:=B.cells) (t:=36) (by simp[k9.out.2.1])))
      |((with_reducible refine xA rfl 29 (.tmp 22) (.tmp 96) rfl rfl (#[.string br,.string bd]) ?hx ?hy ?hi ?ho ?h1 HF.out ?_);(case hx=>rfl);(case hy=>rfl);(case hi=>kernel_rfl);(case ho=>rfl);(case h1=>simp[lH]);intro Xs Xl hb bW;rw[hb];have HF:=hZ bW;clear hb bW y0 y1 y2 qT;have y0:=HF.out.at_.cell (b:=gO) (cs:=(eM (p,s,t)).toArray) (t:=67) (by simp) (i:=0) rfl;have y1:=HF.out.at_.cell (b:=gO) (cs:=(eM (p,s,t)).toArray) (t:=67) (by simp) (i:=1) rfl;have y2:=HF.out.at_.cell (b:=gO) (cs:=(eM (p,s,t)).toArray) (t:=67) (by simp) (i:=2) rfl;have qT:=hZ (HF.out.row (b:=jS) (cs:=B.cells) (t:=36) (by simp[k9.out.2.1])))
      |fail)
     obtain⟨L2,bW,m13,m15,m20,m22,mL⟩:∃L,St w Xl L Bs∧(jS,.cells (B.cells.toArray:Array ai) 36 (0,0))∈L∧(gO,.cells ((eM (p,s,t)).toArray:Array ai) 67 (0,0))∈L∧(Xr,.cells (#[.string br,.string bd]:Array ai) 29 (0,0))∈L∧(Xs,.cells (#[.string br,.string bd]:Array ai) 29 (0,0))∈L∧∀p∈L1,p∈L:=⟨_,HF.out,by simp[k9.out.2.1],by simp,by simp,by simp,fun p hp=>by simp[hp]⟩;have h_:=hZ (ay m13 (ay m15 (ay m20 (ay m22 mL))));have HS:ag (∀U,St w U L2 Bs→St w U L2 Bs∧U.cell? ⟨gO,0,none⟩=some (.int .i64 p)∧U.cell? ⟨gO,1,none⟩=some (.int .i64 s)∧U.cell? ⟨gO,2,none⟩=some (.int .i64 t)):=hZ fun U h=>⟨h,h.at_.cell h_.out.2.1 (i:=0) rfl,h.at_.cell h_.out.2.1 (i:=1) rfl,h.at_.cell h_.out.2.1 (i:=2) rfl⟩;have bu:=HS.out _ bW.drew;clear HF bW m13 m15 m20 m22 mL y0 y1 y2 d1 z1 z2 WB qT;refine cJ (fun U=>St w U L2 Bs∧U.cell? ⟨gO,0,none⟩=some (.int .i64 p)∧U.cell? ⟨gO,1,none⟩=some (.int .i64 s)∧U.cell? ⟨gO,2,none⟩=some (.int .i64 t)) bu fun hHeld=>?_;obtain⟨Ud,IV⟩:=oQ (Xl.drew);rw[IV] at hHeld⊢;clear IV bu;refine bg 0 1 2 3 ?_;refine bg 4 5 6 7 ?_;refine tk 8 ?_;refine tl 9 rfl (Oi (by rfl) 29 (.tmp 20) rfl Xr 0 (by rfl) [.string br,.string bd] _ (fun W hw=>hw.1.row (cs:=[.string br,.string bd]) h_.out.2.2.1) pM rfl (by kernel_rfl)) ?_;refine tl 10 rfl (Oi (by rfl) 29 (.tmp 22) rfl Xs 0 (by rfl) [.string br,.string bd] _ (fun W hw=>hw.1.row (cs:=[.string br,.string bd]) h_.out.2.2.2.1) pM rfl (by kernel_rfl)) ?_;refine tl 11 rfl (Gq (by rfl) 29 29 (.tmp 107) (.tmp 108) (by rfl) (.agg #[.string br,.string bd]) (.agg #[.string br,.string bd]) (by rfl) (by rfl) false (fun w=>Yq _ _ _ _ w) (fun w=>abg _ _ w)) ?_
     refine bg 12 13 14 15 ?_;refine dr 16 17 18 ?_;refine tl 19 rfl (yx jS 0 (IB B).out je (fun W hw=>hw.1.row (cs:=B.cells) h_.out.1)) ?_;refine eC 20 21 ?_;refine tl 23 rfl (yx jS 0 (IB B).out je (fun W hw=>hw.1.row (cs:=B.cells) h_.out.1)) ?_;refine eC 24 25 ?_;refine rE 22 fun K hK=>?_;go_simp
     (with_reducible refine(LC.out _ _ hHeld.1).mono ?_)
     rintro e1 W22 ⟨v22,rfl,ho,hb⟩;have bW:=HS.out _ (hHeld.1.step hb);obtain⟨A22,c22,rfl,hc,hm⟩:=ho.slice;have Lg:=hZ (iC.iW (f:=fK) (k:=5) (fun _=>rfl) ho);have uJ:=hZ (aV hc hm);clear hb ho hc hm;refine kk hK bW fun hHeld=>?_;clear hK K;refine rE 26 fun K hK=>?_;go_simp
     (with_reducible refine(LD.out _ _ hHeld.1).mono ?_)
     rintro e1 W26 ⟨v26,rfl,ho,hb⟩;have bW:=HS.out _ (hHeld.1.step hb);obtain⟨A26,c26,rfl,hc,hm⟩:=ho.slice;have Lg:=hZ (Lg.out.below hb);have Wy:=hZ (iC.iW (f:=fK) (k:=5) (fun _=>rfl) ho);have uJ:=hZ (aV hc hm);clear hb ho hc hm;refine kk hK bW fun hHeld=>?_;clear hK K;refine rE 27 fun K hK=>?_;go_simp;have js:=am8 hr hd pts A22 A26 _ c22 c26 rfl uJ.out _ Lg.out Wy.out
     (with_reducible refine js.mono ?_)
     rintro e1 W27 ⟨rfl,hb⟩;have bW:=HS.out _ (hHeld.1.step hb);clear hb js uJ;refine kk hK bW fun hHeld=>?_;clear hK K;refine eC 28 29 ?_;refine dn ?_;clear LC LD Lg Wy;go_wp2_with fail;have bu:=HS.out _ hHeld.1.drew;clear hHeld;refine cJ (fun U=>St w U L2 Bs∧U.cell? ⟨gO,0,none⟩=some (.int .i64 p)∧U.cell? ⟨gO,1,none⟩=some (.int .i64 s)∧U.cell? ⟨gO,2,none⟩=some (.int .i64 t)) bu fun hHeld=>?_;obtain⟨Ue,YJ⟩:=oQ (W27.drew);rw[YJ] at hHeld⊢;clear YJ bu;refine tl 0 rfl (yx jS 0 (IB B).out je (fun W hw=>hw.1.row (cs:=B.cells) h_.out.1)) ?_;refine bg 1 2 3 4 ?_;refine tl 6 rfl (yx jS 0 (IB B).out je (fun W hw=>hw.1.row (cs:=B.cells) h_.out.1)) ?_;refine bg 7 8 9 10 ?_;refine rE 5 fun K hK=>?_;go_simp
     (with_reducible refine(Xf.out _ _ hHeld.1).mono ?_)
     rintro e1 W5 ⟨rfl,hb⟩;have bW:=HS.out _ (hHeld.1.step hb);clear hb;refine kk hK bW fun hHeld=>?_;clear hK K;refine rE 11 fun K hK=>?_;go_simp
     (with_reducible refine(Xg.out _ _ hHeld.1).mono ?_)
     rintro e1 W11 ⟨rfl,hb⟩;have bW:=HS.out _ (hHeld.1.step hb);clear hb;refine kk hK bW fun hHeld=>?_;clear hK K;refine eC 12 13 ?_;refine tl 14 rfl (yx jS 0 (IB B).out je (fun W hw=>hw.1.row (cs:=B.cells) h_.out.1)) ?_;refine bg 15 16 17 18 ?_;refine eC 19 20 ?_;refine tl 22 rfl (yx jS 0 (IB B).out je (fun W hw=>hw.1.row (cs:=B.cells) h_.out.1)) ?_;refine bg 23 24 25 26 ?_;refine eC 27 28 ?_;refine rE 21 fun K hK=>?_;go_simp
     (with_reducible refine(Ib.out _ _ hHeld.1).mono ?_)
     rintro e1 W21 ⟨rfl,hb⟩;have bW:=HS.out _ (hHeld.1.step hb);clear hb;refine kk hK bW fun hHeld=>?_;clear hK K;refine rE 29 fun K hK=>?_;go_simp
     (with_reducible refine(Ic.out _ _ hHeld.1).mono ?_)
     rintro e1 W29 ⟨rfl,hb⟩;have bW:=HS.out _ (hHeld.1.step hb);clear hb;refine kk hK bW fun hHeld=>?_;clear hK K;refine dr 30 31 32 ?_;refine tl 33 rfl (yx jS 0 (IB B).out je (fun W hw=>hw.1.row (cs:=B.cells) h_.out.1)) ?_;refine eC 34 35 ?_;refine tl 37 rfl (yx jS 0 (IB B).out je (fun W hw=>hw.1.row (cs:=B.cells) h_.out.1)) ?_;refine eC 38 39 ?_;refine rE 36 fun K hK=>?_;go_simp
     (with_reducible refine(Xd.out _ _ hHeld.1).mono ?_)
     rintro e1 W36 ⟨v36,rfl,ho,hb⟩;have bW:=HS.out _ (hHeld.1.step hb);obtain⟨A36,c36,rfl,hc,hm⟩:=ho.slice;have Pw:=hZ (iC.iW (f:=bD) (k:=3) (fun _=>rfl) ho);have uJ:=hZ (aV hc hm);clear hb ho hc hm;refine kk hK bW fun hHeld=>?_;clear hK K;refine rE 40 fun K hK=>?_;go_simp
     (with_reducible refine(Xe.out _ _ hHeld.1).mono ?_)
     rintro e1 W40 ⟨v40,rfl,ho,hb⟩;have bW:=HS.out _ (hHeld.1.step hb);obtain⟨A40,c40,rfl,hc,hm⟩:=ho.slice;have Pw:=hZ (Pw.out.below hb);have ahx:=hZ (iC.iW (f:=bD) (k:=3) (fun _=>rfl) ho);have uJ:=hZ (aV hc hm);clear hb ho hc hm;refine kk hK bW fun hHeld=>?_;clear hK K;refine rE 41 fun K hK=>?_;go_simp;have js:=am9 fs fs A36 A40 _ c36 _ c40 rfl rfl uJ.out _ Pw.out ahx.out;rw[decide_eq_true rfl] at js
     (with_reducible refine js.mono ?_)
     rintro e1 W41 ⟨rfl,hb⟩;have bW:=HS.out _ (hHeld.1.step hb);clear hb js uJ;refine kk hK bW fun hHeld=>?_;clear hK K;refine dr 42 43 44 ?_;refine tl 45 rfl (yx jS 0 (IB B).out je (fun W hw=>hw.1.row (cs:=B.cells) h_.out.1)) ?_;refine eC 46 47 ?_;refine tl 49 rfl (yx jS 0 (IB B).out je (fun W hw=>hw.1.row (cs:=B.cells) h_.out.1)) ?_;refine eC 50 51 ?_;refine rE 48 fun K hK=>?_;go_simp
     (with_reducible refine(Xb.out _ _ hHeld.1).mono ?_)
     rintro e1 W48 ⟨v48,rfl,ho,hb⟩;have bW:=HS.out _ (hHeld.1.step hb);obtain⟨A48,c48,rfl,hc,hm⟩:=ho.slice;have Px:=hZ (iC.iW (f:=one iv) (k:=1) (fun _=>rfl) ho);have uJ:=hZ (aV hc hm);clear hb ho hc hm;refine kk hK bW fun hHeld=>?_;clear hK K;refine rE 52 fun K hK=>?_;go_simp
     (with_reducible refine(Xc.out _ _ hHeld.1).mono ?_)
     rintro e1 W52 ⟨v52,rfl,ho,hb⟩;have bW:=HS.out _ (hHeld.1.step hb);obtain⟨A52,c52,rfl,hc,hm⟩:=ho.slice;have Px:=hZ (Px.out.below hb);have ahy:=hZ (iC.iW (f:=one iv) (k:=1) (fun _=>rfl) ho);have uJ:=hZ (aV hc hm);clear hb ho hc hm;refine kk hK bW fun hHeld=>?_;clear hK K;refine rE 53 fun K hK=>?_;go_simp;have js:=aca cs cs A48 A52 _ c48 _ c52 rfl rfl uJ.out _ Px.out ahy.out;rw[decide_eq_true rfl] at js
     (with_reducible refine js.mono ?_)
     rintro e1 W53 ⟨rfl,hb⟩;have bW:=HS.out _ (hHeld.1.step hb);clear hb js uJ;refine kk hK bW fun hHeld=>?_;clear hK K;refine eC 54 55 ?_;refine dn ?_;have G7:=hZ (hHeld.1.drop (M:=L1) (Cs:=Bs) h_.out.2.2.2.2 (fun _ h=>h));clear hHeld;go_wp2_with fail
     go_roundw
     case rel=>exact⟨j+1,rfl,Wm.out,G7⟩
     case measure=>simp[intOf];have:=Wm.out;omega
    · have d1:decide ((j:Int)<2)=false:=by simp;omega
      obtain⟨sb,hsb⟩:=oQ (sQ B (iH l2 Al cl));have gG:∀j,j<9→(B.ls j).length≤1000000:=fun j h=>aV (dO.out j h) (by decide);have Ib:=hZ (fun W L (h:St w W L Bs)=>Kc B (iH l2 Al cl) W (h.eA B j7.out) (h.eA _ fG.out.1));have Ic:=hZ (fun W L (h:St w W L Bs)=>amA B (iH l2 Al cl) W (h.eA B j7.out) (h.eA _ fG.out.1) gG (fun j _=>aV EB.out.2 (by decide)));rw[hsb] at Ib Ic;have bu:=HF.out.drew;clear hsb gG ar hj;go_wp2_with fail;refine cJ (fun U=>St w U L1 Bs) bu fun hHeld=>?_;obtain⟨Ud,IV⟩:=oQ (wr.drew);rw[IV] at hHeld⊢;clear IV bu;refine tl 0 rfl (yx jS 0 (IB B).out je (fun W hw=>hw.row (cs:=B.cells) k9.out.2.1)) ?_;refine tk 1 ?_;refine tl 4 rfl (yx jS 0 (IB B).out je (fun W hw=>hw.row (cs:=B.cells) k9.out.2.1)) ?_;refine tk 5 ?_;refine rE 2 fun K hK=>?_;go_simp
      (with_reducible refine(Pz.out _).mono ?_)
      rintro e1 X2 ⟨rfl,hb⟩;have bW:=hHeld.step hb;clear hb;refine kk hK bW fun hHeld=>?_;clear hK K;refine rE 3 fun K hK=>?_;go_simp
      (with_reducible refine(Ib.out _ _ hHeld).mono ?_)
      rintro e1 X3 ⟨rfl,hb⟩;have bW:=hHeld.step hb;clear hb;refine kk hK bW fun hHeld=>?_;clear hK K;refine rE 6 fun K hK=>?_;go_simp
      (with_reducible refine(Pz.out _).mono ?_)
      rintro e1 X6 ⟨rfl,hb⟩;have bW:=hHeld.step hb;clear hb;refine kk hK bW fun hHeld=>?_;clear hK K;refine rE 7 fun K hK=>?_;go_simp
      (with_reducible refine(Ic.out _ _ hHeld).mono ?_)
      rintro e1 X7 ⟨rfl,hb⟩;have bW:=hHeld.step hb;clear hb;refine kk hK bW fun hHeld=>?_;clear hK K;refine tk 8 ?_;refine dn ?_;have G7:=hZ (hHeld.drop (M:=L0) (Cs:=Bs) k9.out.2.2 (fun _ h=>h));clear hHeld;go_wp2_with fail
      go_roundw
      case rel=>exact⟨i+1,rfl,aL.out,G7⟩
      case measure=>simp[intOf];have:=aL.out;omega
  · have d1:decide ((i:Int)<4)=false:=by simp;omega
    clear ar hi
    go_wp2_with (first
     |(go_at_call 15;(with_reducible refine(lL.out _ _ _ HF.out fG.out.1).mono ?_);rintro e2 Y4 ⟨Ba,rfl,hB,hI,hb⟩;have au:=(HF.out.step hb).add hB;have fG:=hZ (ay (qI Ba fG.out.1) (qI Ba fG.out.2));have HF:=hZ au;have ahn:=hZ hI;clear hb hB hI au)
     |(go_at_call 42;(with_reducible refine(Cz.out _ _ _ HF.out fG.out.1).mono ?_);rintro e2 Y7 ⟨Bb,rfl,hB,hI,hb⟩;have au:=(HF.out.step hb).add hB;have fG:=hZ (ay (qI Bb fG.out.1) (qI Bb fG.out.2));have HF:=hZ au;have aho:=hZ hI;clear hb hB hI au)
     |(go_at_call 14;have js:=Kc Ba Bb Y7 (HF.out.eA Ba (by simp)) (HF.out.eA Bb (by simp));rw[(BN Ba Bb).2 fun j hj=>(ahn.out j hj).trans (aho.out j hj).symm] at js;(with_reducible refine js.mono ?_);rintro e2 Y8 ⟨rfl,hb⟩;have au:=HF.out.step hb;have HF:=hZ au;clear hb au js)
     |(go_at_call 13;(with_reducible refine(P4.out _).mono ?_);rintro e2 W2 ⟨rfl,rfl⟩)
     |(go_at_call 15;(with_reducible refine(gL.out _ _ _ HF.out fG.out.2).mono ?_);rintro e2 Y14 ⟨Bc,rfl,hB,hI,hb⟩;have au:=(HF.out.step hb).add hB;have fG:=hZ (ay (qI Bc fG.out.1) (qI Bc fG.out.2));have HF:=hZ au;have ahp:=hZ hI;clear hb hB hI au)
     |(go_at_call 42;(with_reducible refine(mT.out _ _ _ HF.out fG.out.2).mono ?_);rintro e2 Y18 ⟨Bd,rfl,hB,hI,hb⟩;have au:=(HF.out.step hb).add hB;have fG:=hZ (ay (qI Bd fG.out.1) (qI Bd fG.out.2));have HF:=hZ au;have ahq:=hZ hI;clear hb hB hI au)
     |(go_at_call 14;have js:=Kc Bc Bd Y18 (HF.out.eA Bc (by simp)) (HF.out.eA Bd (by simp));rw[(BN Bc Bd).2 fun j hj=>(ahp.out j hj).trans (ahq.out j hj).symm] at js;(with_reducible refine js.mono ?_);rintro e2 Y19 ⟨rfl,hb⟩;have au:=HF.out.step hb;have HF:=hZ au;clear hb au js)
     |fail)
    go_ret;exact⟨rfl,HF.out.at_.below⟩
end Go.Proofs.YteeifhlhpiimoaaGreatDoor
end
