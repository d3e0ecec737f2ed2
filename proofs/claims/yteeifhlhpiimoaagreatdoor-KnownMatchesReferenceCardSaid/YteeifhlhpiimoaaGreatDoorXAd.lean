/-
  Contracts of package integer's parse and both; the like for what stands beside it. Conditions: the texts are valid integers (parse); at most 1000000 bytes (both).
-/
import Derived.Test.YteeifhlhpiimoaaGreatDoorXAc
import Derived.Lib.SmallJoins
import Derived.Test.YteeifhlhpiimoaaGreatDoorXAb
import Derived.Lib.OthersKept
import Derived.Lib.AppendIntMem
import Derived.Shelf.Strings.BuilderK
import Derived.Deep.RegionHeld3
import Derived.Test.YteeifhlhpiimoaaGreatDoorXAa
set_option maxHeartbeats 8000000
set_option maxRecDepth 100000
open And renaming intro→ay
open Array renaming getElem?_eq_some_iff→fU,getElem?_modify→qB,length_toList→oo
open Bool renaming and_eq_true→sU,and_self→acW,false_eq_true→acX,or_eq_true→Gr
open Go renaming Calls→ax,Ending→qC,TypeId→bF,Value→ai,World→ae,bodyPost_ret→et,callsIn_wide→z_,results→xN,run_loadVar_mid→agf,run_takeDeferred→Ab,undef→cM
open Go.CallsIn renaming mono→Kr
open Go.Fence renaming wide→gU
open Go.Lib renaming BuilderAtF→ac1,OthersKept→uq,below_grow→ac3,byteCells→pL,decDigits→Uj,decFrom→ac5,digitVal→ac6,repeatL→Uk,strCells→NT
open Go.Proofs.Tryz renaming func140→Uu,func141→Kt,func203→Ux,func208→adA,ntmps140→UJ,ntmps141→Kz,ntmps203→UM,ntmps208→aeI,prog→ah,underlying232→Oa
open Go.RowKit.Below renaming heap_alloc→Ee,heap_setCell→fA,refl→bK
open Go.World renaming alloc_heap_new→bG,cell?→sZ,putObj_heap_other→kZ,putObj_heap_same→Ei,setCell→uw,size_alloc→gI
open List renaming all_eq_true→Ej,append_nil→Vj,ext_getElem→On,flatMap_append→Oq,flatMap_cons→rN,flatMap_def→agH,flatMap_map→agI,flatMap_nil→agJ,length_append→eV,length_cons→eF,length_drop→pP,length_eq_zero_iff→rO,length_replicate→agR,nil_append→xS,range→dU,replicate→jY
open Nat renaming div_le_self→GP,eq_zero_or_pos→fL,gcd→qJ,gcd_comm→OB,le_of_lt→uz,le_refl→aB,le_trans→aV,lt_of_lt_of_le→iX,mod_lt→rQ,pow_le_pow_right→GV,pow_mul→Vs
open Option.some renaming inj→mR
section
namespace Go.Proofs.YteeifhlhpiimoaaGreatDoor
open Go Go.RowKit Go.Shelf
attribute [local go_sem] Oper.semAt_some
theorem aiL {c:UInt8} (h:dy c=true):ac6 c=some (lU c):=by
 have key:∀n:Fin 256,dy (UInt8.ofNat n.val)=true→ac6 (UInt8.ofNat n.val)=some (lU (UInt8.ofNat n.val)):=by decide+kernel
 have:=key ⟨c.toNat,c.toNat_lt⟩;simpa using this (by simpa using h)
theorem aiD:∀(l:List UInt8) (a:Nat),(∀c∈l,dy c=true)→ac5 a l=some (du a l):=by
 intro l
 induction l with
 |nil=>intro a _;rfl
 | cons c l ih=>
   intro a h;rw[ac5,aiL (h c (by simp)),du];exact ih _ fun x hx=>h x (by simp[hx])
theorem ahZ {l:List UInt8} (hn:l≠[]) (h:∀c∈l,dy c=true):Lib.atoi l=some ((du 0 l:Nat):Int):=by
 cases l with
 |nil=>exact(hn rfl).elim
 | cons c l=>
   have hc:=h c (by simp)
   have h1:(c==45)=false:=by
    rw[beq_eq_false_iff_ne];rintro rfl;revert hc;decide
   have h2:(c==43)=false:=by
    rw[beq_eq_false_iff_ne];rintro rfl;revert hc;decide
   rw[Lib.atoi,h1,h2];simp only[acX,if_false];unfold Lib.decNat;rw[aiD _ _ h];rfl
theorem E5 {W:ae} {b:Nat} {x y z:ai} {T:bF} {fr:Nat×Nat} (h:W.heap[b]?=some (.cells #[x,y] T fr)):(W.setCell ⟨b,1,none⟩ z).heap[b]?=some (.cells #[x,z] T fr):=by
 simp only[uw,qB,h];simp
theorem E4 {W:ae} {b:Nat} {x y z:ai} {T:bF} {fr:Nat×Nat} (h:W.heap[b]?=some (.cells #[x,y] T fr)):(W.setCell ⟨b,0,none⟩ z).heap[b]?=some (.cells #[z,y] T fr):=by
 simp only[uw,qB,h];simp
theorem fm {W:ae} {b:Nat} {x y:ai} {T:bF} {fr:Nat×Nat} (h:W.heap[b]?=some (.cells #[x,y] T fr)):W.cell? ⟨b,0,none⟩=some x:=by simp[sZ,h]
theorem fg {W:ae} {b:Nat} {x y:ai} {T:bF} {fr:Nat×Nat} (h:W.heap[b]?=some (.cells #[x,y] T fr)):W.cell? ⟨b,1,none⟩=some y:=by simp[sZ,h]
theorem cY {W:ae} {b:Nat} {cs:Array ai} {T:bF} (h:W.heap[b]?=some (.cells cs T (0,0))) (i:Nat):W.frozen? ⟨b,i,none⟩=false:=by simp[World.frozen?,h]
theorem bt {W:ae} {b:Nat} {o:Obj} (h:W.heap[b]?=some o):b<W.heap.size:=(fU.1 h).1
theorem ajt {l:List UInt8} (h:0<l.length):qc l=du 0 (l.drop (l.length-4))::qc (l.take (l.length-4)):=by rw[qc,if_neg (by omega)]
def ahL (w:ae) (neg:Bool) (n:Nat) (e:qC) (w':ae):Prop:=∃u,e=.returned (.agg #[.bool neg,u])∧aX w' u (aD n)∧Below w.heap.size w w'
theorem al1 (s:ByteArray) (hs:s.size≤1000000) (ds:List UInt8) (jU:eU s.data.toList=ds) (Rq:∀c∈ds,dy c=true) (w:ae):
 ax ah 243 #[.string s] w (ahL w (decide (ds.length<s.size)) (du 0 ds)):=by
 obtain⟨d0,uZ⟩:∃d:ByteArray,d=⟨ds.toArray⟩:=⟨_,rfl⟩;have ua:=fun W=>Tryz.strings_TrimPrefix s ⟨#[45]⟩ W;rw[show(⟨#[45]⟩:ByteArray).data.toList=[45] from rfl,TN,jU,←uZ] at ua;have wD:=hZ ua;have VP:Hid (d0.data.toList=ds):=hZ (by rw[uZ]);have aU:d0.size=ds.length:=by rw[uZ];rfl
 have hlen:ds.length≤s.size:=by
  rw[←jU]
  have:(eU s.data.toList).length≤s.data.toList.length:=by
   cases s.data.toList with
   |nil=>exact aB _
   |cons c l=>rw[vO];split<;>simp
  have h2:s.data.toList.length=s.size:=oo;omega
 have HDG:=hZ Rq;obtain⟨neg,jo⟩:=oQ (decide (ds.length<s.size));have aj1:decide (d0.size<s.size)=neg:=by rw[aU];exact jo
 have aj2:(d0.size<s.size)↔neg=true:=by rw[←aj1];simp
 rw[jo];have gM:=hZ aU;have kC:=hZ (aju Rq);have qP:=hZ hlen;clear uZ ua jU Rq jo aU aj2
 go_enter Tryz.func243,Tryz.ntmps243
 go_wp2_with (first|(go_at_call 139;refine(wD.out _).mono ?_;rintro e w' ⟨rfl,rfl⟩)|fail)
 obtain⟨b2,aA⟩:=oQ (w.heap.size);rw[aA];obtain⟨b4,cQ⟩:=oQ (b2+1);rw[cQ];obtain⟨W0,gP⟩:=oQ ((w.alloc (.cells #[.bool false,.slice none 0 0] 232)).alloc (.cells #[.bool neg,.slice none 0 0] 232))
 have L9:W0.heap[b2]?=some (.cells #[.bool false,.slice none 0 0] 232 (0,0))∧W0.heap[b4]?=some (.cells #[.bool neg,.slice none 0 0] 232 (0,0))∧W0.heap.size=b4+1∧Below w.heap.size w W0:=by
  rw[←gP];refine⟨?_,?_,by rw[gI,gI];omega,((bK _ _).alloc (aB _) _).alloc (by simp) _⟩
  · rw[Ee _ _ _ (by rw[gI];omega),←aA];exact bG w _
  · have:=bG (w.alloc (.cells #[.bool false,.slice none 0 0] 232)) (.cells #[.bool neg,.slice none 0 0] 232)
    rw[gI,aA,cQ] at this;exact this
 obtain⟨x2,x4,xs,xb⟩:=L9;have Ck:=hZ (ay aA cQ);rw[gP];clear gP aA cQ
 go_loopw [3,5,6,7] (fun v3 _ _ _ wr=> ∃(dg:ByteArray) (out:List Nat) (v:ai),v3=.string dg∧Hid (qc ds=out++qc dg.data.toList)∧Hid (∀c∈dg.data.toList,dy c=true)∧Hid (dg.size≤ds.length∧out.length+dg.size≤ds.length)∧pg wr (b4+1) v out∧
  wr.heap[b2]?=some (.cells #[.bool false,.slice none 0 0] 232 (0,0))∧wr.heap[b4]?=some (.cells #[.bool neg,v] 232 (0,0))∧Below w.heap.size w wr∧b4<wr.heap.size) (fun v _ _ _ _=>match v with|.string d=>d.size|_=>0)
 case atStart=>exact⟨d0,[],_,rfl,hZ (by rw[VP.out];rfl),hZ (by rw[VP.out];exact HDG.out),hZ (by rw[gM.out];exact⟨aB _,by simp⟩),OL.nil,x2,x4,xb,by omega⟩
 case round=>
  obtain⟨dg,out,v,rfl,HG,G5,jR,gb,y2,y4,hB,ar⟩:=hrel;obtain⟨r,hr⟩:=oQ (dg.size);have Mx:r≤1000000∧out.length+r≤1000000:=by have:=jR.out;have:=qP.out;omega
  obtain⟨ol,RY⟩:=oQ (out.length);have Ap:=hZ RY;rw[RY] at Mx;clear x2 x4 xs xb RY
  by_cases h0:0<r
  · obtain⟨f,hf⟩:=oQ (r-4)
    obtain⟨t1,sN⟩:=oQ (dg.extract f r);obtain⟨t2,mH⟩:=oQ (dg.extract 0 f);have gR:dg.data.toList.length=r:=by rw[←hr];exact oo
    have e1:t1.data.toList=dg.data.toList.drop f:=by
     rw[←sN];simp only[ByteArray.data_extract,Array.toList_extract,List.extract_eq_take_drop];exact List.take_of_length_le (by rw[pP,gR];exact aB _)
    have e2:t2.data.toList=dg.data.toList.take f:=by rw[←mH];simp
    have s1:t1.size=r-f:=by
     have:t1.data.toList.length=t1.size:=oo;rw[←this,e1,pP,gR]
    have s2:t2.size=f:=by
     have:t2.data.toList.length=t2.size:=oo;rw[←this,e2,List.length_take,gR];omega
    obtain⟨k,hk⟩:=oQ (du 0 t1.data.toList)
    have ZS:t1.data.toList≠[]:=by
     intro e;have:t1.data.toList.length=t1.size:=oo;rw[e,s1] at this;simp at this;omega
    have mD:=Tryz.strconv_Atoi t1 (k:Int) (by omega) (by rw[←hk];exact ahZ ZS (fun c hc=>G5.out c (by rw[e1] at hc;exact List.mem_of_mem_drop hc)));have pS:=hZ mD
    have hg:qc ds=(out++[k])++qc t2.data.toList:=by
     rw[HG.out,ajt (by rw[gR];exact h0),gR,hf,←e1,←e2,hk,List.append_assoc];rfl
    have ye:=hZ hg;have ahj:Hid (∀c∈t2.data.toList,dy c=true):=hZ (fun c hc=>G5.out c (by rw[e2] at hc;exact List.mem_of_mem_take hc));have lg:=hZ (ay s1 s2);(have oP:f≤r:=by omega);have jg:=hZ gb;have HB:=hZ hB;have EM:=hZ y2;have WY:=hZ y4;(have mx:max (0:Int) ((r:Int)-4)=(f:Int):=by omega);(have z1:(0:Int)≤(f:Int):=by omega);(have z2:(f:Int)≤(r:Int):=by omega);(have d1:decide (0<r)=true:=by simp[h0]);have ajF:=Ck.out;have RA:∀W1,Below wr.heap.size wr W1→W1.cell? ⟨b4,1,none⟩=some v:=fun W1 hb=>(hb.cell (p:=⟨b4,1,none⟩) ar).trans (fg y4);have HFX:=hZ RA;clear e1 e2 s1 s2 hk ZS mD hg gR gb hB y2 y4 hf RA ajF
    go_wp2_with (first
     | (go_at_call 264;refine(pS.out _).mono ?_;rintro e w1 ⟨rfl,tt,lD⟩;have aq:Below wr.heap.size wr w1:=by rw[lD];exact Go.Joins.below_bytesWorld _ _ _ _ (aB _)
        have cx:=HFX.out w1 aq;have aF:=hZ aq
        clear lD aq)
     | (at_builtin;refine nJ rfl (.tmp 31) (.tmp 33) 230 rfl Iy _ _ ol Ap.out rfl ((jg.out.below aF.out (aB _)).alloc _) k w1.heap.size #[.int .i64 k] rfl ?hc rfl rfl (by simp[one,nv,Value.oneCell']) (by have:=Ap.out;unfold maxLen;omega) (by have:=Ap.out;omega) (by have:=aF.out.size;simp;omega) ?_;(case hc=>exact bG _ _);intro g3 c3 w3 h3 _ _ _ aK
        have hy:∀b,b<b4+1→w3.heap[b]?=wr.heap[b]?:=fun b hb=>(aK.block b hb).trans ((Ee _ _ _ (by have:=aF.out.size;omega)).trans (aF.out.block b (by omega)));have y4:=(hy b4 (by omega)).trans WY.out;have y2:=hZ ((hy b2 (by have:=Ck.out;omega)).trans EM.out);have cz:=fg y4;have fz:=cY y4 1;have ahF:=hZ y4;have a_:Hid (Below w.heap.size w w3):=hZ (((HB.out.trans (aF.out.mono HB.out.size)).alloc (by have:=HB.out.size;have:=aF.out.size;omega) _).trans (aK.mono (by have:=Ck.out;omega)));have V_:=hZ h3;have HZ3:Hid (b4<w3.heap.size):=hZ (bt y4)
        clear hy y4 aK h3)
     |fail)
    refine⟨⟨t2,out++[k],_,rfl,ye,ahj,hZ ?_,V_.out.keep (fun q hq=>fA _ _ _ _ ?_),(fA _ _ _ _ ?_).trans y2.out,E5 ahF.out,a_.out.setCell ?_ _,by rw[show(w3.setCell ⟨b4,1,none⟩ _).heap.size=w3.heap.size by simp[uw]];exact HZ3.out⟩,?_⟩
    · have h1:=jR.out;have h2:=lg.out;rw[hr,Ap.out] at h1;rw[eV,Ap.out,h2.2];simp;omega
    · have:=(V_.out.lt q hq).1;show q≠b4;omega
    · have:=Ck.out;show b2≠b4;omega
    · have:=Ck.out;show w.heap.size≤b4;omega
    · simp;rw[lg.out.2];omega
  · obtain rfl:r=0:=by omega
    have Zt:dg.data.toList=[]:=by
     have:dg.data.toList.length=dg.size:=oo;exact rO.1 (by omega)
    (have ct:qc ds=out:=by rw[HG.out,Zt,show qc []=[] by(rw[qc];rfl),Vj]);have c1:=fg y4;have c0:=fm y4;have f1:=cY y4 1;have f20:=cY y2 0;have f21:=cY y2 1;have z20:=fm y2;have z21:=fg y2;obtain⟨A,cc,rfl,q1,q2,q3,q4⟩:=aX.iW gb;have oC:=hZ (D0 A cc out ol Ap.out (by have:=Ap.out;omega) q2 q3 wr q4 (by omega));rw[←ct,kC.out] at oC;rw[Ap.out] at c1 y4;have iL:Hid (gK (b4+1) (.slice A ol cc)):=hZ gb.fresh.cut;have YT:=Ck.out;(have bf:b2≠b4:=by omega);(have RT:b4≠b2:=by omega);(have d1:decide (0<0)=false:=by decide);have HB:=hZ hB;have WY:=hZ y4;have EM:=hZ y2;clear gb q1 q2 q3 q4 ct Zt hB y2 y4 YT
    go_wp2_with (first
     | (go_at_call 245;refine oC.out.mono ?_;rintro e w9 ⟨⟨v5,rfl,ry,Be⟩,rfl⟩
        have lK:=hZ (Be (b4+1) iL.out);have pd:=hZ ry;obtain⟨A5,c5,aav,-⟩:=ry;obtain⟨n5,Fy⟩:=oQ ((aD (du 0 ds)).length);rw[Fy] at aav;subst aav
        clear Fy Be)
     |fail)
    have e4:(w9.setCell ⟨b4,1,none⟩ (.slice A5 n5 c5)).heap[b2]?=some (.cells #[.bool false,.slice none 0 0] 232 (0,0)):=(fA _ _ _ _ bf).trans EM.out;have e5:=E5 (z:=.slice A5 n5 c5) (E4 (z:=.bool neg) e4);have YT:=Ck.out;refine et (BL rfl _ _ b2 [.bool neg,.slice A5 n5 c5] _ rfl (fun i v hv=>?_) Oa rfl (by kernel_rfl)) rfl ⟨_,rfl,?_,?_⟩
    · match i,hv with
      |0,hv=>cases hv;exact fm e5
      |1,hv=>cases hv;exact fg e5
    · exact((pd.out.set lK.out ⟨b4,1,none⟩ (by show b4<b4+1;omega) _).set lK.out ⟨b2,0,none⟩ (by show b2<b4+1;omega) _).set lK.out ⟨b2,1,none⟩ (by show b2<b4+1;omega) _
    · exact((HB.out.setCell (p:=⟨b4,1,none⟩) (by show w.heap.size≤b4;omega) _).setCell (p:=⟨b2,0,none⟩) (by show w.heap.size≤b2;omega) _).setCell (p:=⟨b2,1,none⟩) (by show w.heap.size≤b2;omega) _
theorem abe {l:List UInt8} (h:cR l=true):decide ((eU l).length<l.length)=decide (bC l<0)∧(bC l).natAbs=du 0 (eU l):=by
 have h2:=h;unfold cR at h2;simp only[sU,Gr,decide_eq_true_eq,Ej] at h2;obtain⟨⟨⟨h1,h2⟩,h3⟩,h4⟩:=h2;unfold bC
 cases l with
 |nil=>exact(h1 rfl).elim
 | cons c l=>
   rw[vO] at h1 h3 h4⊢
   by_cases hc:c=45
   · subst hc
     rw[if_pos rfl] at h1 h3 h4⊢;have hp:0<du 0 l:=XV h1 h3 (by rcases h4 with h4|h4;(cases h4);exact h4);rw[if_pos (by rfl)];refine⟨?_,by omega⟩;rw[decide_eq_true (by simp),decide_eq_true (by omega)]
   · rw[if_neg hc]
     rw[if_neg (by intro e;injection e with e;exact hc e)];refine⟨?_,by omega⟩;rw[decide_eq_false (by simp),decide_eq_false (by omega)]
theorem Gi {l:List UInt8} (h:cR l=true):(aD (bC l).natAbs).length≤50:=by
 have h2:=h;unfold cR at h2;simp only[sU,Gr,decide_eq_true_eq,Ej] at h2;obtain⟨⟨⟨h1,h2⟩,h3⟩,h4⟩:=h2;rw[(abe h).2];apply BJ;have hl:=Is (eU l) h3;have e:(10000:Nat)^50=10^200:=by rw[show(10000:Nat)=10^4 by rfl,←Vs]
 rw[e];exact iX hl (GV (by decide) h2)
def SgP (w:ae) (z:Int) (e:qC) (w':ae):Prop:=∃u,e=.returned (.agg #[.bool (decide (z<0)),u])∧aX w' u (aD z.natAbs)∧Below w.heap.size w w'
theorem abz (s:ByteArray) (hs:s.size≤1000000) (h:cR s.data.toList=true) (w:ae):
 ax ah 243 #[.string s] w (SgP w (bC s.data.toList)):=by
 have h2:=h;unfold cR at h2;simp only[sU,Gr,decide_eq_true_eq,Ej] at h2;obtain⟨n1,n2⟩:=abe h;refine(al1 s hs _ rfl h2.1.2 w).mono ?_;rintro e w' ⟨u,rfl,hu,hb⟩;refine⟨u,?_,by rw[n2];exact hu,hb⟩;rw[←n1,show s.size=s.data.toList.length from oo.symm]
def Vu (w:ae) (e:qC) (w':ae):Prop:=e=.returned (.tuple #[.agg #[.bool false,.slice none 0 0],.agg #[.bool false,.slice none 0 0],.bool false])∧Below w.heap.size w w'
def KT (w:ae) (x y:Int) (e:qC) (w':ae):Prop:=∃u v,e=.returned (.tuple #[.agg #[.bool (decide (x<0)),u],.agg #[.bool (decide (y<0)),v],.bool true])∧aX w' u (aD x.natAbs)∧aX w' v (aD y.natAbs)∧Below w.heap.size w w'
theorem kV (w:ae) (c1 c2:Array ai) (T1 T2:bF):((w.alloc (.cells c1 T1)).alloc (.cells c2 T2)).heap[w.heap.size]?=some (.cells c1 T1 (0,0))∧((w.alloc (.cells c1 T1)).alloc (.cells c2 T2)).heap[w.heap.size+1]?=some (.cells c2 T2 (0,0))∧
 ((w.alloc (.cells c1 T1)).alloc (.cells c2 T2)).heap.size=w.heap.size+2∧Below w.heap.size w ((w.alloc (.cells c1 T1)).alloc (.cells c2 T2)):=by
 refine⟨?_,?_,by rw[gI,gI],((bK _ _).alloc (aB _) _).alloc (by simp) _⟩
 · rw[Ee _ _ _ (by rw[gI];omega)];exact bG w _
 · have:=bG (w.alloc (.cells c1 T1)) (.cells c2 T2)
   rw[gI] at this;exact this
def oD (b:Nat) (T1 T2:bF) (x0 x1 y0 y1:ai) (W:ae):Prop:=W.heap[b]?=some (.cells #[x0,x1] T1 (0,0))∧W.heap[b+1]?=some (.cells #[y0,y1] T2 (0,0))
theorem oD.below {b:Nat} {T1 T2:bF} {x0 x1 y0 y1:ai} {W W':ae} (h:oD b T1 T2 x0 x1 y0 y1 W) (hb:Below W.heap.size W W'):oD b T1 T2 x0 x1 y0 y1 W':=
 ⟨(hb.block _ (bt h.1)).trans h.1,(hb.block _ (bt h.2)).trans h.2⟩
theorem oD.facts {b:Nat} {T1 T2:bF} {x0 x1 y0 y1:ai} {W:ae} (h:oD b T1 T2 x0 x1 y0 y1 W):
 (W.cell? ⟨b,0,none⟩=some x0∧W.cell? ⟨b,1,none⟩=some x1∧W.cell? ⟨b+1,0,none⟩=some y0∧W.cell? ⟨b+1,1,none⟩=some y1)∧
 (W.frozen? ⟨b,0,none⟩=false∧W.frozen? ⟨b,1,none⟩=false∧W.frozen? ⟨b+1,0,none⟩=false∧W.frozen? ⟨b+1,1,none⟩=false):=
 ⟨⟨fm h.1,fg h.1,fm h.2,fg h.2⟩,⟨cY h.1 0,cY h.1 1,cY h.2 0,cY h.2 1⟩⟩
theorem oD.put {b:Nat} {T1 T2:bF} {x0 x1 y0 y1:ai} {W:ae} (h:oD b T1 T2 x0 x1 y0 y1 W) (u0 u1 v0 v1:ai):
 oD b T1 T2 u0 u1 v0 v1 ((((W.setCell ⟨b,0,none⟩ u0).setCell ⟨b,1,none⟩ u1).setCell ⟨b+1,0,none⟩ v0).setCell ⟨b+1,1,none⟩ v1):=by
 have h1:=E5 (z:=u1) (E4 (z:=u0) h.1);have h2:((W.setCell ⟨b,0,none⟩ u0).setCell ⟨b,1,none⟩ u1).heap[b+1]?=some (.cells #[y0,y1] T2 (0,0)):=(fA _ _ _ _ (by simp)).trans ((fA _ _ _ _ (by simp)).trans h.2);exact⟨(fA _ _ _ _ (by simp)).trans ((fA _ _ _ _ (by simp)).trans h1),E5 (E4 h2)⟩
theorem Te {P:Program} {fn:Func} {p q t:Tmp} {ty:bF} (h:fn.results=#[.cell p ty,.cell q ty,.tmp t]) (tmps:Array ai) (w:ae) (b c:Nat) (cs ds:List ai) (d:TypeDesc)
 (hp:tmps.getD p cM=.pointer (some ⟨b,0,none⟩)) (hq:tmps.getD q cM=.pointer (some ⟨c,0,none⟩)) (hc:w.rangeAt b 0 cs) (hd:w.rangeAt c 0 ds) (hu:P.underlying ty=some d) (hr:d.isRow=true)
 (hi:(P.info? ty).map (·.size)=some cs.length) (hl:ds.length=cs.length):
 (xN fn tmps).run P w=.ok (.tuple #[.agg cs.toArray,.agg ds.toArray,tmps.getD t cM]) w:=by
 have ij:tmps[p]?.getD cM=.pointer (some ⟨b,0,none⟩):=by simpa using hp
 have vu:tmps[q]?.getD cM=.pointer (some ⟨c,0,none⟩):=by simpa using hq
 simp[xN,h,ij,vu,asAddr,agf w b 0 ty cs d hc hu hr hi,agf w c 0 ty ds d hd hu hr (by rw[hl];exact hi)]
theorem F3 {W:ae} {b:Nat} {x y:ai} (h0:W.cell? ⟨b,0,none⟩=some x) (h1:W.cell? ⟨b,1,none⟩=some y):W.rangeAt b 0 [x,y]:=fun i v hv=>by
 match i,hv with
 |0,hv=>cases hv;exact h0
 |1,hv=>cases hv;exact h1
theorem ah4 (s t:ByteArray) (hs:s.size≤1000000) (ht:t.size≤1000000) (h:(cR s.data.toList&&cR t.data.toList)=false) (w:ae):
 ax ah 203 #[.string s,.string t] w (Vu w):=by
 have H1:=hZ (fun w=>JW s hs w);have H2:=hZ (fun w=>JW t ht w);obtain⟨b1,aq⟩:=oQ (cR s.data.toList);obtain⟨b2,aA⟩:=oQ (cR t.data.toList);rw[aq] at H1 h;rw[aA] at H2 h;obtain⟨k1,k2,k3,k4⟩:=kV w #[.bool false,.slice none 0 0] #[.bool false,.slice none 0 0] 232 232;have HK:=hZ (show oD w.heap.size 232 232 (.bool false) (.slice none 0 0) (.bool false) (.slice none 0 0) _ from⟨k1,k2⟩);have tw:=hZ k3;have pa:=hZ k4;clear aq aA k1 k2 k3 k4;cases b1
 · clear h
   go_enter Ux,UM
   go_wp2_with (first
    |(go_at_call 242;(with_reducible refine(H1.out _).mono ?_);rintro e w1 ⟨rfl,aq⟩;have HT:=hZ (HK.out.below aq);have HB:=hZ (pa.out.trans (aq.mono (by rw[tw.out];omega)));obtain⟨⟨c1,c2,c3,c4⟩,⟨f1,f2,f3,f4⟩⟩:=HT.out.facts;clear aq)|fail)
   obtain⟨⟨e1,e2,e3,e4⟩,-⟩:=(HT.out.put (.bool false) (.slice none 0 0) (.bool false) (.slice none 0 0)).facts;refine et (Te rfl _ _ w.heap.size (w.heap.size+1) [.bool false,.slice none 0 0] [.bool false,.slice none 0 0] _ rfl rfl (F3 e1 e2) (F3 e3 e4) Oa rfl (by kernel_rfl) rfl) rfl ⟨rfl,?_⟩;exact(((HB.out.setCell (p:=⟨w.heap.size,0,none⟩) (aB _) _).setCell (p:=⟨w.heap.size,1,none⟩) (aB _) _).setCell (p:=⟨w.heap.size+1,0,none⟩) (by simp) _).setCell (p:=⟨w.heap.size+1,1,none⟩) (by simp) _
 · obtain rfl:b2=false:=by simpa using h
   clear h
   go_enter Ux,UM
   go_wp2_with (first
    |(go_at_call 242;(with_reducible refine(H1.out _).mono ?_);rintro e w1 ⟨rfl,aq⟩;have PM:=hZ (HK.out.below aq);have aF:=hZ (pa.out.trans (aq.mono (by rw[tw.out];omega)));clear aq)
    |(go_at_call 242;(with_reducible refine(H2.out _).mono ?_);rintro e w2 ⟨rfl,aA⟩;have HT:=hZ (PM.out.below aA);have HB:=aw aF aA;obtain⟨⟨c1,c2,c3,c4⟩,⟨f1,f2,f3,f4⟩⟩:=HT.out.facts;clear aA)|fail)
   obtain⟨⟨e1,e2,e3,e4⟩,-⟩:=(HT.out.put (.bool false) (.slice none 0 0) (.bool false) (.slice none 0 0)).facts;refine et (Te rfl _ _ w.heap.size (w.heap.size+1) [.bool false,.slice none 0 0] [.bool false,.slice none 0 0] _ rfl rfl (F3 e1 e2) (F3 e3 e4) Oa rfl (by kernel_rfl) rfl) rfl ⟨rfl,?_⟩;exact(((HB.out.setCell (p:=⟨w.heap.size,0,none⟩) (aB _) _).setCell (p:=⟨w.heap.size,1,none⟩) (aB _) _).setCell (p:=⟨w.heap.size+1,0,none⟩) (by simp) _).setCell (p:=⟨w.heap.size+1,1,none⟩) (by simp) _
theorem aX.M9 {W:ae} {v:ai} {l:List Nat} (h:aX W v l) {b:Nat} {x y:ai} {T:bF} (hx:W.heap[b]?=some (.cells #[x,y] T (0,0))) (hb:(∀k n,x≠.int k n)∧(∀k n,y≠.int k n)) (i:Nat) (u:ai):aX (W.setCell ⟨b,i,none⟩ u) v l:=by
 obtain⟨A,c,rfl,h1,h2,h3,h4⟩:=h;refine⟨A,c,rfl,h1,h2,h3,fun j z hz=>?_⟩;obtain⟨a,rfl,hl,hc⟩:=h4 j z hz;refine⟨a,rfl,by simpa[uw] using hl,?_⟩
 have bf:(a.add j).block≠b:=fun e=>by
  unfold sZ at hc;rw[e,hx] at hc;simp only at hc
  split at hc
  · cases hc
  · unfold nv at hc
    match (a.add j).off,hc with
    |0,hc=>exact hb.1 _ _ (by simpa using hc)
    |1,hc=>exact hb.2 _ _ (by simpa using hc)
    |n+2,hc=>simp at hc
 rw[World.cell?_setCell_other _ _ _ _ (fun e=>bf (by rw[←e]))];exact hc
theorem abq {b:Nat} {T1 T2:bF} {p q:Bool} {W:ae} {k m:Option Addr} {i1 i2 i3 i4:Nat} (h:oD b T1 T2 (.bool p) (.slice k i1 i2) (.bool q) (.slice m i3 i4) W) {v:ai} {l:List Nat} (hv:aX W v l) {p' q':Bool} {k' m':Option Addr} {j1 j2 j3 j4:Nat}:
 aX ((((W.setCell ⟨b,0,none⟩ (.bool p')).setCell ⟨b,1,none⟩ (.slice k' j1 j2)).setCell ⟨b+1,0,none⟩ (.bool q')).setCell ⟨b+1,1,none⟩ (.slice m' j3 j4)) v l:=by
 have no:∀(r:Bool) (a:Option Addr) (i j:Nat),(∀k n,Value.bool r≠.int k n)∧(∀k n,Value.slice a i j≠.int k n):=fun _ _ _ _=>⟨fun _ _=>by simp,fun _ _=>by simp⟩;have h1:=E4 (z:=.bool p') h.1;have h2:=E5 (z:=.slice k' j1 j2) h1;have h3:((W.setCell ⟨b,0,none⟩ (.bool p')).setCell ⟨b,1,none⟩ (.slice k' j1 j2)).heap[b+1]?=_:=(fA _ _ _ _ (by simp)).trans ((fA _ _ _ _ (by simp)).trans h.2);have h4:=E4 (z:=.bool q') h3;exact(((hv.M9 h.1 (no _ _ _ _) 0 _).M9 h1 (no _ _ _ _) 1 _).M9 h3 (no _ _ _ _) 0 _).M9 h4 (no _ _ _ _) 1 _
theorem Qq (s t:ByteArray) (hs:s.size≤1000000) (ht:t.size≤1000000) (h1:cR s.data.toList=true) (h2:cR t.data.toList=true) (w:ae):
 ax ah 203 #[.string s,.string t] w (KT w (bC s.data.toList) (bC t.data.toList)):=by
 have H1:=hZ (fun w=>JW s hs w);have H2:=hZ (fun w=>JW t ht w);have H3:=hZ (fun w=>abz s hs h1 w);have H4:=hZ (fun w=>abz t ht h2 w);rw[h1] at H1;rw[h2] at H2;obtain⟨x,hx⟩:=oQ (bC s.data.toList);obtain⟨y,hy⟩:=oQ (bC t.data.toList);rw[hx] at H3⊢;rw[hy] at H4⊢;obtain⟨k1,k2,k3,k4⟩:=kV w #[.bool false,.slice none 0 0] #[.bool false,.slice none 0 0] 232 232;have HK:=hZ (show oD w.heap.size 232 232 (.bool false) (.slice none 0 0) (.bool false) (.slice none 0 0) _ from⟨k1,k2⟩);have tw:=hZ k3;have pa:=hZ k4;clear hx hy k1 k2 k3 k4 h1 h2
 go_enter Ux,UM
 go_wp2_with (first
  |(go_at_call 242;(with_reducible refine(H1.out _).mono ?_);rintro e w1 ⟨rfl,aq⟩;have PM:=hZ (HK.out.below aq);have aF:=hZ (pa.out.trans (aq.mono (by rw[tw.out];omega)));clear aq)
  |(go_at_call 242;(with_reducible refine(H2.out _).mono ?_);rintro e w2 ⟨rfl,aA⟩;have dD:=hZ (PM.out.below aA);have aG:=aw aF aA;clear aA)
  |(go_at_call 243;(with_reducible refine(H3.out _).mono ?_);rintro e w3 ⟨u,rfl,hu,aK⟩;have sh:=hZ (dD.out.below aK);have a_:=aw aG aK;have HU:=hZ hu;obtain⟨A1,c1,jN,-⟩:=hu;obtain⟨n1,cO⟩:=oQ ((aD x.natAbs).length);rw[cO] at jN;subst jN;clear aK cO)
  |(go_at_call 243;(with_reducible refine(H4.out _).mono ?_);rintro e w4 ⟨v,rfl,hv,cQ⟩;have HT:=hZ (sh.out.below cQ);have HB:=aw a_ cQ;have HU4:=hZ (HU.out.below cQ);have HV:=hZ hv;obtain⟨A2,c2,fO,-⟩:=hv;obtain⟨n2,cN⟩:=oQ ((aD y.natAbs).length);rw[cN] at fO;subst fO;clear cN;obtain⟨⟨d1,d2,d3,d4⟩,⟨f1,f2,f3,f4⟩⟩:=HT.out.facts;clear cQ)|fail)
 obtain⟨⟨e1,e2,e3,e4⟩,-⟩:=(HT.out.put (.bool (decide (x<0))) (.slice A1 n1 c1) (.bool (decide (y<0))) (.slice A2 n2 c2)).facts;refine et (Te rfl _ _ w.heap.size (w.heap.size+1) [.bool (decide (x<0)),.slice A1 n1 c1] [.bool (decide (y<0)),.slice A2 n2 c2] _ rfl rfl (F3 e1 e2) (F3 e3 e4) Oa rfl (by kernel_rfl) rfl) rfl ⟨_,_,rfl,?_,?_,?_⟩
 · exact abq HT.out HU4.out
 · exact abq HT.out HV.out
 · exact(((HB.out.setCell (p:=⟨w.heap.size,0,none⟩) (aB _) _).setCell (p:=⟨w.heap.size,1,none⟩) (aB _) _).setCell (p:=⟨w.heap.size+1,0,none⟩) (by simp) _).setCell (p:=⟨w.heap.size+1,1,none⟩) (by simp) _
def FO (s t:List UInt8):Int:=if cR s&&cR t then dZ (bC s) (bC t) else 0
theorem ail {x y:Int}:dZ x y=if x<0 then(if y<0 then kj y.natAbs x.natAbs else -1) else(if y<0 then 1 else kj x.natAbs y.natAbs):=by
 unfold dZ kj
 split<;>rename_i h<;>split<;>rename_i h2<;>try split
 all_goals (first|rfl|omega|(split<;>first|rfl|omega|(split<;>first|rfl|omega)))
theorem aki (s t:ByteArray) (hs:s.size≤1000000) (ht:t.size≤1000000) (h1:cR s.data.toList=true) (h2:cR t.data.toList=true) (w:ae):
 ax ah 141 #[.string s,.string t] w fun e w'=>e=.returned (.int .i64 (dZ (bC s.data.toList) (bC t.data.toList)))∧Below w.heap.size w w':=by
 have HB:=hZ (Qq s t hs ht h1 h2 w);have kx:=Gi h1;have ga:=Gi h2;obtain⟨x,hx⟩:=oQ (bC s.data.toList);obtain⟨y,hy⟩:=oQ (bC t.data.toList);rw[hx] at HB kx⊢;rw[hy] at HB ga⊢;rw[ail];have r7:=hZ kx;have qO:=hZ ga;clear h1 h2 hx hy kx ga;unfold KT at HB
 by_cases hx:x<0<;>by_cases hy:y<0
 all_goals (first|rw[if_pos hx]|rw[if_neg hx])
 all_goals (first|rw[if_pos hy]|rw[if_neg hy])
 all_goals (first|rw[decide_eq_true hx] at HB|rw[decide_eq_false hx] at HB)
 all_goals (first|rw[decide_eq_true hy] at HB|rw[decide_eq_false hy] at HB)
 all_goals clear hx hy
 · go_enter Kt,Kz
   go_wp2_with (first
    |(go_at_call 203;(with_reducible refine HB.out.mono ?_);rintro e w1 ⟨u,v,rfl,hu,hv,aq⟩;have HU:=hZ hu;have HV:=hZ hv;obtain⟨A1,c1,jN,-⟩:=hu;obtain⟨n1,cO⟩:=oQ ((aD x.natAbs).length);rw[cO] at jN;subst jN;clear cO;obtain⟨A2,c2,fO,-⟩:=hv;obtain⟨n2,cN⟩:=oQ ((aD y.natAbs).length);rw[cN] at fO;subst fO;clear cN;have aF:=hZ aq;clear aq)
    |(go_at_call 209;have KB:=hZ (kV w1 #[.bool true,.slice A1 n1 c1] #[.bool true,.slice A2 n2 c2] 232 232).2.2.2;(with_reducible refine(Qu y.natAbs x.natAbs _ _ _ (HV.out.below KB.out) (HU.out.below KB.out) (aV qO.out (by omega)) (aV r7.out (by omega))).mono ?_);rintro e w2 ⟨rfl,aA⟩;have aG:=hZ (aF.out.trans ((KB.out.mono (aF.out.size)).trans (aA.mono (aV aF.out.size KB.out.size))));clear aA)
    |fail)
   go_ret;exact⟨rfl,aG.out⟩
 · go_enter Kt,Kz
   go_wp2_with (first
    |(go_at_call 203;(with_reducible refine HB.out.mono ?_);rintro e w1 ⟨u,v,rfl,hu,hv,aq⟩;have HU:=hZ hu;have HV:=hZ hv;obtain⟨A1,c1,jN,-⟩:=hu;obtain⟨n1,cO⟩:=oQ ((aD x.natAbs).length);rw[cO] at jN;subst jN;clear cO;obtain⟨A2,c2,fO,-⟩:=hv;obtain⟨n2,cN⟩:=oQ ((aD y.natAbs).length);rw[cN] at fO;subst fO;clear cN;have aF:=hZ aq;clear aq)
    |fail)
   go_ret;exact⟨rfl,aF.out.trans ((kV w1 #[.bool true,.slice A1 n1 c1] #[.bool false,.slice A2 n2 c2] 232 232).2.2.2.mono aF.out.size)⟩
 · go_enter Kt,Kz
   go_wp2_with (first
    |(go_at_call 203;(with_reducible refine HB.out.mono ?_);rintro e w1 ⟨u,v,rfl,hu,hv,aq⟩;have HU:=hZ hu;have HV:=hZ hv;obtain⟨A1,c1,jN,-⟩:=hu;obtain⟨n1,cO⟩:=oQ ((aD x.natAbs).length);rw[cO] at jN;subst jN;clear cO;obtain⟨A2,c2,fO,-⟩:=hv;obtain⟨n2,cN⟩:=oQ ((aD y.natAbs).length);rw[cN] at fO;subst fO;clear cN;have aF:=hZ aq;clear aq)
    |fail)
   go_ret;exact⟨rfl,aF.out.trans ((kV w1 #[.bool false,.slice A1 n1 c1] #[.bool true,.slice A2 n2 c2] 232 232).2.2.2.mono aF.out.size)⟩
 · go_enter Kt,Kz
   go_wp2_with (first
    |(go_at_call 203;(with_reducible refine HB.out.mono ?_);rintro e w1 ⟨u,v,rfl,hu,hv,aq⟩;have HU:=hZ hu;have HV:=hZ hv;obtain⟨A1,c1,jN,-⟩:=hu;obtain⟨n1,cO⟩:=oQ ((aD x.natAbs).length);rw[cO] at jN;subst jN;clear cO;obtain⟨A2,c2,fO,-⟩:=hv;obtain⟨n2,cN⟩:=oQ ((aD y.natAbs).length);rw[cN] at fO;subst fO;clear cN;have aF:=hZ aq;clear aq)
    |(go_at_call 209;have KB:=hZ (kV w1 #[.bool false,.slice A1 n1 c1] #[.bool false,.slice A2 n2 c2] 232 232).2.2.2;(with_reducible refine(Qu x.natAbs y.natAbs _ _ _ (HU.out.below KB.out) (HV.out.below KB.out) (aV r7.out (by omega)) (aV qO.out (by omega))).mono ?_);rintro e w2 ⟨rfl,aA⟩;have aG:=hZ (aF.out.trans ((KB.out.mono (aF.out.size)).trans (aA.mono (aV aF.out.size KB.out.size))));clear aA)
    |fail)
   go_ret;exact⟨rfl,aG.out⟩
theorem aaB (s t:ByteArray) (hs:s.size≤1000000) (ht:t.size≤1000000) (h:(cR s.data.toList&&cR t.data.toList)=false) (w:ae):
 ax ah 141 #[.string s,.string t] w fun e w'=>e=.returned (.int .i64 0)∧Below w.heap.size w w':=by
 have HB:=hZ (ah4 s t hs ht h w);unfold Vu at HB;clear h
 go_enter Kt,Kz
 go_wp2_with (first
  |(go_at_call 203;(with_reducible refine HB.out.mono ?_);rintro e w1 ⟨rfl,aq⟩;have aF:=hZ aq;clear aq)
  |fail)
 go_ret;exact⟨rfl,aF.out.trans ((kV w1 #[.bool false,.slice none 0 0] #[.bool false,.slice none 0 0] 232 232).2.2.2.mono aF.out.size)⟩
theorem aaC (s t:ByteArray) (hs:s.size≤1000000) (ht:t.size≤1000000) (w:ae):
 ax ah 141 #[.string s,.string t] w fun e w'=>e=.returned (.int .i64 (FO s.data.toList t.data.toList))∧Below w.heap.size w w':=by
 unfold FO
 by_cases h1:cR s.data.toList=true
 · by_cases h2:cR t.data.toList=true
   · rw[h1,h2,acW,if_pos rfl];exact aki s t hs ht h1 h2 w
   · have e:(cR s.data.toList&&cR t.data.toList)=false:=by simp[h1,h2]
     rw[e,if_neg (by simp)];exact aaB s t hs ht e w
 · have e:(cR s.data.toList&&cR t.data.toList)=false:=by simp[h1]
   rw[e,if_neg (by simp)];exact aaB s t hs ht e w
def nW (w A:ae):Prop:=∀k cs t fz,mw w k→A.heap[k]?≠some (.cells cs t fz)
theorem nW.self (w:ae):nW w w:=fun k cs t fz h e=>by
 have:=(fU.1 e).1;rcases h with h|h<;>omega
theorem nW.of {w A:ae} {d:Option (List Deferred)} {l:Loop} (hd:A.heap[w.heap.size]?=some (.deferred d)) (hl:A.heap[w.heap.size+1]?=some (.loop l)):nW w A:=fun k cs t fz h e=>by
 rcases h with rfl|rfl
 · rw[hd] at e;cases e
 · rw[hl] at e;cases e
theorem apb {P:Program} {α:Type} {g:Operand} {ps:Array Tmp} {assign body:Code} {Q:Exit→Act→ae→Prop} {a:Act} {w:ae}
 {gf:Nat} {lb:Array ai} (hg:a.eval g=.func (.func gf) #[] lb) (eg:∀args w,(callFunc gf args).run P w=.ok (.enter gf args) w)
 {my:α→Array ai} {Z:Nat→Prop} {Kp:ae→ae→Prop} {S Sp:List α→Prop} {N:Nat} {w0:ae} (DP:tG P gf lb my Z Kp S Sp N w0) (dt:Below w0.heap.size w0 w)
 (hZ:∀k,Z k→k<w.heap.size) (nu:∀x,(my x).size=ps.size)
 (uU:∀{A B C:ae},Kp A B→Kp B C→Kp A C) (wN:∀(W:ae) (o:Obj),Kp W (W.putObj (w.heap.size+1) o))
 (I:List α→ae→Prop) (Ix:Code→List α→ae→Prop)
 (hI:∀s A B,I s A→nW w A→nW w B→aO (fun k=>Z k∨mw w k) A B→I s B) (hIx:∀c s A B,Ix c s A→aO (fun k=>Z k∨mw w k) A B→Ix c s B) (h0:I [] w) (Il:α→Act)
 (Di:∀(l:Nat) (x:α) (W:ae) (K:Act→ae→Prop),K (Il x) W→
   assign.wpIn (gU.inRound l) 1 P (Exit.then K (fun _ _ _=>False)) {tmps:=(ps.zip (my x)).foldl (fun t (p,v)=>t.setIfInBounds p v) a.tmps,defers:=[]} W)
 (Dl:∀(l:Nat) (pre:List α) (x:α) (W:ae),w.heap.size+2≤W.heap.size→nW w W→I pre W→pre.length<N→body.wpIn (gU.inRound l) 1 P (M1 w.heap.size Kp I Ix (pre++[x]) W) (Il x) W)
 (Dp:∀(xs:List α) (W:ae),S xs→I xs W→W.heap[w.heap.size]?=some (.deferred (some []))→Q .normal {a with defers:={target:=.collected w.heap.size,args:=#[]}::a.defers} W)
 (DQ:∀(c:Code) (pre:List α) (W:ae),Sp pre→Ix c pre W→W.heap[w.heap.size]?=some (.deferred (some []))→c.wpIn gU 3 P Q {a with defers:={target:=.collected w.heap.size,args:=#[]}::a.defers} W):
 (Code.rangeFunc g ps assign body).wpIn gU 3 P Q a w:=by
 refine wpIn_rangeFunc fun fn sG=>?_;obtain⟨rc,iU⟩:∃rc:LoopState→Option Code→Loop,rc=fun st pe=>{state:=st,pending:=pe,fn,tmps:=a.tmps,params:=ps,assign,body,defers:=w.heap.size}:=⟨_,rfl⟩;obtain⟨W1,b_⟩:=oQ ((w.alloc (.deferred (some []))).alloc (.loop (rc .ready none)));have aU:W1.heap.size=w.heap.size+2:=by rw[←b_];simp
 have qg:W1.heap[w.heap.size+1]?=some (.loop (rc .ready none)):=by
  have:=bG (w.alloc (.deferred (some []))) (.loop (rc .ready none));rw[gI] at this;rw[←b_];exact this
 have Fg:W1.heap[w.heap.size]?=some (.deferred (some [])):=by
  rw[←b_];exact(Ee _ _ _ (by simp)).trans (bG w _)
 have oH:aO (fun k=>Z k∨mw w k) w W1:=by rw[←b_];exact(aO.alloc _ _).trans (aO.alloc _ _)
 have aq:Below w0.heap.size w0 W1:=by
  rw[←b_];exact(dt.alloc dt.size _).alloc (by have:=dt.size;simp;omega) _
 have yV:¬Z w.heap.size:=fun e=>by have:=hZ _ e;omega
 have yW:¬Z (w.heap.size+1):=fun e=>by have:=hZ _ e;omega
 refine⟨w.heap.size+1,[{target:=.collected w.heap.size,args:=#[]}],W1,{target:=.fn (.func gf) lb,args:=#[.func (.yield (w.heap.size+1)) #[] #[]]},W1,gf,
  #[.func (.yield (w.heap.size+1)) #[] #[]]++lb,W1,?_,?_,fun _ _=>trivial,?_,fun h=>by simp[gU] at h,?_⟩
 · rw[←b_,iU];exact run_enterLoop_outer _ _ _ _ _
 · simp only[resolve,hg]
   simp[go_sem]
 · simp[invoke,go_sem,eg]
 · refine(DP (w.heap.size+1)
    (fun pre W=>I pre W∧w.heap.size+2≤W.heap.size∧W.heap[w.heap.size+1]?=some (.loop (rc .ready none))∧W.heap[w.heap.size]?=some (.deferred (some [])))
    (fun pre W=> ∃c,Ix c pre W∧w.heap.size+2≤W.heap.size∧W.heap[w.heap.size+1]?=some (.loop (rc .done (some c)))∧W.heap[w.heap.size]?=some (.deferred (some [])))
    W1 aq
    (fun s A B h t=>⟨hI s A B h.1 (nW.of h.2.2.2 h.2.2.1) (nW.of ((t.block _ (by omega) yV).trans h.2.2.2) ((t.block _ (by omega) yW).trans h.2.2.1)) (t.mono fun _ e=>.inl e),aV h.2.1 t.size,(t.block _ (by omega) yW).trans h.2.2.1,(t.block _ (by omega) yV).trans h.2.2.2⟩)
    (fun s A B h t=>by
      obtain⟨c,hc,hs,hl,hd⟩:=h
      exact⟨c,hIx c s A B hc (t.mono fun _ e=>.inl e),aV hs t.size,(t.block _ (by omega) yW).trans hl,(t.block _ (by omega) yV).trans hd⟩)
    ?_ ⟨hI _ _ _ h0 (nW.self w) (nW.of Fg qg) oH,by omega,qg,Fg⟩).mono ?_
   · rintro pre x W ⟨hi,hs,hl,hd⟩ hlen
     have hy:=run_yield (P:=P) (args:=my x) hl (by rw[iU];exact nu x);rw[iU] at hy;refine⟨fn,_,assign,body,hy,roundIn_of_wpIn sG (Di _ x W _ ⟨_,run_beginRound hl (by rw[iU]),?_⟩)⟩;obtain⟨W2,eY⟩:∃W2,W.putObj (w.heap.size+1) (.loop {rc .ready none with state:=.busy})=W2:=⟨_,rfl⟩;(have eO:w.heap.size+2≤W2.heap.size:=by rw[←eY];simpa using hs);(have ga:W2.heap[w.heap.size+1]?=some (.loop {rc .ready none with state:=.busy}):=by rw[←eY];exact Ei (by omega));(have gQ:W2.heap[w.heap.size]?=some (.deferred (some [])):=by rw[←eY];exact(kZ (by omega)).trans hd);(have Bg:I pre W2:=by exact hI _ W _ hi (nW.of hd hl) (nW.of gQ ga) (by rw[←eY];exact aO.putObj _ _ _ (.inr (.inr rfl))));(have kt:Kp W W2:=by rw[←eY];exact wN _ _);rw[eY];refine wpIn_mono (Dl _ pre x W2 eO (nW.of gQ ga) Bg hlen) ?_
     have fin:∀(jump:Option Code) (W3:ae),KeepsFrom w.heap.size W2 W3→∃W4,W4=W3.putObj (w.heap.size+1) (.loop (rc (if jump.isNone then .ready else .done) jump))∧
      (Instr.endRound (w.heap.size+1) jump).run P W3=.ok (.bool jump.isNone) W4∧aO (fun k=>Z k∨mw w k) W3 W4∧w.heap.size+2≤W4.heap.size∧
      W4.heap[w.heap.size+1]?=some (.loop (rc (if jump.isNone then .ready else .done) jump))∧W4.heap[w.heap.size]?=some (.deferred (some [])):=by
      intro jump W3 hk;have vn:=hk.same _ _ (by omega) ga rfl;have kO:=hk.same _ _ (by omega) gQ rfl;have jM:=aV eO hk.size;have he:=run_endRound (P:=P) jump vn;rw[iU] at he⊢;exact⟨_,rfl,he,aO.putObj _ _ _ (.inr (.inr rfl)),by simpa using jM,Ei (by omega),(kZ (by omega)).trans kO⟩
     rintro e a3 W3 hp
     cases e with
     | normal=>
       obtain⟨W4,e4,hr,ht,gy,jW,jK⟩:=fin none W3 hp.1
       exact⟨_,W4,hr,.inl ⟨rfl,⟨hI _ W3 _ hp.2.2 (nW.of (hp.1.same _ _ (by omega) gQ rfl) (hp.1.same _ _ (by omega) ga rfl)) (nW.of jK jW) ht,gy,jW,jK⟩,uU kt (uU hp.2.1 (by rw[e4];exact wN _ _))⟩⟩
     | ret=>
       obtain⟨W4,_,hr,ht,gy,jW,jK⟩:=fin (some .ret) W3 hp.1
       exact⟨_,W4,hr,.inr ⟨rfl,.ret,hIx _ _ _ _ hp.2 ht,gy,jW,jK⟩⟩
     | exit id=>
       obtain⟨W4,_,hr,ht,gy,jW,jK⟩:=fin (some (.exit id)) W3 hp.1
       exact⟨_,W4,hr,.inr ⟨rfl,.exit id,hIx _ _ _ _ hp.2 ht,gy,jW,jK⟩⟩
     | goto t=>
       obtain⟨W4,_,hr,ht,gy,jW,jK⟩:=fin (some (.goto t)) W3 hp.1
       exact⟨_,W4,hr,.inr ⟨rfl,.goto t,hIx _ _ _ _ hp.2 ht,gy,jW,jK⟩⟩
     |panic ch=>exact hp.elim
     |outgrown=>exact hp.elim
   · rintro e W2 ⟨⟨v,rfl⟩,(⟨xs,hS,hi,hs,hl,hd⟩|⟨pre,IU,c,hi,hs,hl,hd⟩)⟩
     · have he:=run_endLoop (P:=P) hl (by rw[iU];simp)
       rw[iU] at he;exact⟨none,_,he,Dp _ _ hS (hI _ _ _ hi (nW.of hd hl) (nW.of ((kZ (by omega)).trans hd) (Ei (by omega))) (aO.putObj _ _ _ (.inr (.inr rfl)))) ((kZ (by omega)).trans hd)⟩
     · have he:=run_endLoop (P:=P) hl (by rw[iU];simp)
       rw[iU] at he;exact⟨some c,_,he,DQ c pre _ IU (hIx _ _ _ _ hi (aO.putObj _ _ _ (.inr (.inr rfl)))) ((kZ (by omega)).trans hd)⟩
def dY (w:ae):Prop:=Lib.TabIs ah w "internal/strconv.uint64pow10" .u64 Lib.pow10Tab
theorem dY.below {w w':ae} (h:dY w) (hb:Below w.heap.size w w'):dY w':=by
 unfold dY Lib.TabIs World.var? at h⊢
 cases hg:ah.globalNamed "internal/strconv.uint64pow10" with
 |none=>rw[hg] at h;cases h
 | some g=>
   rw[hg] at h;simp only[Option.bind_some] at h⊢
   cases e:w.heap[g]? with
   |none=>rw[e] at h;cases h
   |some o=>rw[hb.block g (bt e),e];rw[e] at h;exact h
theorem akz (n:Nat):Lib.itoa (n:Int)=bX n:=by
 rw[Lib.itoa,if_neg (by omega),show(n:Int).toNat=n by omega]
 have:∀k n,n≤k→Uj n=bX n:=by
  intro k
  induction k with
  |zero=>intro n h;rw[Uj,bX];simp[show n<10 by omega]
  | succ k ih=>
    intro n h;rw[Uj,bX]
    split
    · rfl
    · rw[ih _ (by omega)]
 exact this n n (aB _)
def BD (W:ae) (B b:Nat) (l:List UInt8):Prop:=Lib.IsBuilderF 118 5 B b (pL l) W
theorem BD.keep {Z:Nat→Prop} {W W':ae} {B b:Nat} {l:List UInt8} (h:BD W B b l) (u:aO Z W W') (hb:¬Z b) (hz:∀k cs fz,Z k→W.heap[k]?≠some (.cells cs 5 fz)):BD W' B b l:=by
 have aux:∀p,ac1 118 5 B b p (pL l) W→ac1 118 5 B b p (pL l) W':=by
  rintro p ⟨hB,v,oN,jq,bf⟩;refine⟨hB,v,(u.block b (bt oN) hb).trans oN,?_,bf⟩;refine⟨jq.1,?_⟩;rcases jq.2 with hn|⟨g,cap,cur,fz,hv,Rc,hg,r⟩
  · exact .inl hn
  · exact .inr ⟨g,cap,cur,fz,hv,Rc,(u.block g (bt hg) (fun q=>hz g cur fz q hg)).trans hg,r⟩
 rcases h with h|h
 · exact .inl (aux _ h)
 · exact .inr (aux _ h)
theorem BD.below {W W':ae} {B b:Nat} {l:List UInt8} (h:BD W B b l) (hb:Below W.heap.size W W'):BD W' B b l:=h.keep (aO.gH (Z:=fun _=>False) hb) id (fun _ _ _ e=>e.elim)
theorem BD.new (W:ae) {B:Nat} (hB:B≤W.heap.size):BD (W.alloc (.cells #[.pointer none,.slice none 0 0] 118)) B W.heap.size []:=by
 refine .inl ⟨hB,.slice none 0 0,bG W _,World.ownsRowF_nil _ _ _ _,by simp[Value.ownBlock]⟩
theorem Xv {W:ae} {B b:Nat} {l:List UInt8} (h:BD W B b l) (s:ByteArray) (hl:l.length+s.size≤1000000000) (hB:B≤W.heap.size):
 ax ah 123 #[.pointer (some ⟨b,0,none⟩),.string s] W fun e W'=>e=.returned (.tuple #[.int .i64 s.size,.nilIface])∧BD W' B b (l++s.data.toList)∧Below B W W'∧uq 5 (some b) W W':=by
 refine(Any.Builder_WriteString_k {Tryz.aaU with} Tryz.Vv B b (pL l) s W h (by rw[Lib.byteCells_length];omega) hB).mono ?_;rintro e W' ⟨rfl,h1,h2,h3⟩;refine⟨rfl,.inr ?_,h2,h3⟩;have:pL l++NT s=pL (l++s.data.toList):=by unfold pL NT;simp
 rw[←this];exact h1
theorem ah0 {W:ae} {B b:Nat} {l:List UInt8} (h:BD W B b l) (hB:B≤W.heap.size):
 ax ah 65 #[.pointer (some ⟨b,0,none⟩)] W fun e W'=>e=.returned (.string ⟨l.toArray⟩)∧Below B W W'∧uq 5 (some b) W W':=by
 refine(Tryz.Builder_String_any_k B b l W h hB).mono ?_;rintro e W' ⟨rfl,h1,h2,h3⟩;exact⟨rfl,h2,h3⟩
theorem amG (f:Nat):Uk [48] f=jY f 48:=by
 induction f with
 |zero=>rfl
 |succ f ih=>rw[Uk,ih];rfl
theorem alF {n d:Nat} (h:(aD n).getLast?=some d):0<d:=by
 have : ∀ k n,n≤k→(aD n).getLast?=some d→0<d:=by
  intro k
  induction k with
  | zero => intro n hn h;obtain rfl:n=0:=by omega
            rw[oY] at h;cases h
  | succ k ih=>
    intro n hn h;rcases fL n with rfl|h0
    · rw[oY] at h;cases h
    · rw[xh h0] at h
      by_cases h1:n/10000=0
      · rw[h1,oY] at h
        simp at h;omega
      · rw[List.getLast?_cons_of_ne_nil (fun e=>h1 (DU.1 e))] at h
        exact ih _ (by omega) h
 exact this n n (aB _) h
def zp (l:List Nat) (i:Fin l.length):List UInt8:=if i.val+1<l.length then o5 (l.getD i.val 0) else bX (l.getD i.val 0)
theorem abB {l:List Nat} (h:mr l) (i:Fin l.length):(zp l i).length≤4:=by
 have:=pw h i.val;have hd:=LM 4 (l.getD i.val 0) (by decide) (by omega);unfold zp o5
 split
 · rw[eV,agR];omega
 · exact hd
theorem pieces {l:List Nat} (h:mr l) (h0:0<l.length) (ht:∀d,l.getLast?=some d→0<d) {xs:List (Fin l.length)} (hx:xs.map Fin.val=(dU l.length).reverse):xs.flatMap (zp l)=bX (cU l):=by
 have e1:xs.flatMap (zp l)=(xs.map Fin.val).flatMap (fun i=>if i+1<l.length then o5 (l.getD i 0) else bX (l.getD i 0)):=by
  rw[agI];rfl
 obtain⟨n,hn⟩:∃n,l.length=n+1:=⟨l.length-1,by omega⟩;rw[e1,hx,hn,J8,rN,if_neg (by omega)]
 have e2:((dU n).reverse.flatMap (fun i=>if i+1<n+1 then o5 (l.getD i 0) else bX (l.getD i 0)))=((dU n).reverse.map (fun i=>l.getD i 0)).flatMap o5:=by
  rw[agI,agH,agH]
  congr 1
  apply List.map_congr_left;intro i hi;rw[if_pos (by simp at hi;omega)]
 rw[e2,an8]
 · have e3:l.getD n 0::(dU n).reverse.map (fun i=>l.getD i 0)=((n::(dU n).reverse).map (fun i=>l.getD i 0)):=rfl
   rw[e3,←J8,←List.map_reverse,List.reverse_reverse,←hn]
   congr 2
   apply On (by simp);intro i h1 h2;rw[List.getElem_map,List.getElem_range,ra h2]
 · refine ht _ ?_
   rw[List.getLast?_eq_getElem?,hn,ra (by omega)];simp
 · intro x hx
   obtain⟨i,hi,rfl⟩:=List.mem_map.1 hx;exact pw h i
def LG (w:ae) (neg:Bool) (n:Nat) (e:qC) (w':ae):Prop:=
 (if 200<(bX n).length then e=.returned (.tuple #[.string ⟨#[]⟩,.int .i64 30]) else e=.returned (.tuple #[.string ⟨((if neg&&decide (n≠0) then[45] else[])++bX n).toArray⟩,.int .i64 0]))∧Below w.heap.size w w'
theorem acy (neg:Bool) (n:Nat) (v:ai) (w:ae) (h:aX w v (aD n)) (hl:(aD n).length≤900) (hp:dY w):
 ax ah 208 #[.agg #[.bool neg,v]] w (LG w neg n):=by
 obtain⟨A,c,rfl,fX,eo,fh,hA⟩:=h;obtain⟨k,hk⟩:=oQ ((aD n).length);rw[hk] at hl⊢;have HA:=hZ hA;have HK:=hZ hk;have HP:=hZ hp;clear hA hk hp;rcases fL k with rfl|fp
 · have l6:n=0:=by
    have h:=HK.out;rw[←om n,rO.1 h];rfl
   have d1:(((0:Nat):Int)==0)=true:=by decide
   go_enter adA,aeI
   go_wp2_with fail
   have hT:LG w neg n (.returned (.tuple #[.string ⟨#[48]⟩,.int .i64 0])) (w.alloc (.cells #[.bool neg,.slice A 0 c] 232)):=by
    subst l6;(have e:bX 0=[48]:=by rw[bX];rfl);unfold LG;rw[e,if_neg (by simp)];refine⟨by simp,(bK _ _).alloc (aB _) _⟩
   refine et (v:=.tuple #[.string ⟨#[48]⟩,.int .i64 0]) (by simp[xN]) rfl hT
 have d1:((k:Int)==0)=false:=by simp;omega
 refine(z_ (n:=3)).1 ?_;refine callsIn_of_wp_marks adA rfl trivial ?_ rfl;simp only[aeI,List.size_toArray,eF,List.length_nil,Nat.reduceAdd,Nat.reduceSub,Array.replicate_succ,Array.replicate_zero,List.push_toArray,List.append_toArray,xS,List.cons_append];refine wpIn_wide.2 ?_
 go_wp2_with (first
  |(go_at_call 244;refine(Qo _ _ _ _).mono ?_;rintro e w5 ⟨rfl,rfl⟩)
  |fail)
 obtain⟨b0,dt⟩:=oQ (w.heap.size);rw[dt];obtain⟨b1,aq⟩:=oQ (b0+1);rw[aq];obtain⟨b2,aA⟩:=oQ (b1+1);rw[aA];obtain⟨l,qn⟩:=oQ (aD n);obtain⟨W1,b_⟩:=oQ ((((w.alloc (.cells #[.bool neg,.slice A k c] 232)).alloc (.cells #[.pointer none,.slice none 0 0] 118)).alloc (.cells #[.slice A k c] 230)))
 have wM:W1.heap[b0]?=some (.cells #[.bool neg,.slice A k c] 232 (0,0))∧BD W1 b1 b1 []∧Boxed W1 b2 230 (.slice A k c)∧W1.heap.size=b2+1∧Below w.heap.size w W1:=by
  obtain⟨u1,ob⟩:=oQ (w.alloc (.cells #[.bool neg,.slice A k c] 232));have s1:u1.heap.size=b1:=by rw[←ob,gI,dt,aq]
  have y1:u1.heap[b0]?=some (.cells #[.bool neg,.slice A k c] 232 (0,0)):=by rw[←ob,←dt];exact bG w _
  have c1:Below w.heap.size w u1:=by rw[←ob];exact(bK _ _).alloc (aB _) _
  rw[ob] at b_;obtain⟨u2,nB⟩:=oQ (u1.alloc (.cells #[.pointer none,.slice none 0 0] 118));have s2:u2.heap.size=b2:=by rw[←nB,gI,s1,aA]
  have y2:BD u2 b1 b1 []:=by rw[←nB,←s1];exact BD.new u1 (aB _)
  have c2:Below u1.heap.size u1 u2:=by rw[←nB];exact(bK _ _).alloc (aB _) _
  rw[nB] at b_;have c3:Below u2.heap.size u2 W1:=by rw[←b_];exact pj _ _ _
  refine⟨(c3.block b0 (by omega)).trans ((c2.block b0 (by omega)).trans y1),y2.below c3,?_,by rw[←b_,gI,s2],(c1.trans (c2.mono (by omega))).trans (c3.mono (by omega))⟩;rw[←b_,←s2];exact Boxed.new u2 _ _
 obtain⟨z0,z1,z2,aP,sD⟩:=wM;obtain⟨A0,mB,qe⟩:=HA.out.addr;rw[HK.out] at mB;have rR:=hZ ((HA.out.below sD).more sD.size);have yP:mr l:=by rw[←qn];exact rA n
 rw[qn] at rR HK;have Ct:=hZ yP;have HL:=hZ qn;have cy:Hid (w.heap.size=b0∧b0+1=b1∧b1+1=b2):=hZ ⟨dt,aq,aA⟩;rw[b_];clear b_ yP qn;refine(wpIn_wide (n:=3)).1 ?_
 refine apb (gf:=265) (lb:=#[.pointer (some ⟨b2,0,none⟩)]) rfl (enters_of Tryz.func265 (by kernel_rfl) rfl)
  (Qp A A0 l k HK.out mB c b2 (by omega) W1 z2 rR.out) (bK _ _) (fun k hk=>hk.elim) (fun _=>rfl) (fun h k=>h.trans k)
  (fun W o=>lP.put (n:=b2+1) (by omega) (fun q hq=>by have:=qe q hq;omega) (by omega) W o)
  (fun pre W=>W.heap[b0]?=some (.cells #[.bool neg,.slice A k c] 232 (0,0))∧Boxed W b2 230 (.slice A k c)∧BD W b1 b1 (pre.flatMap (zp l))∧Below w.heap.size w W)
  (fun _ _ _=>False)
  (fun s U V h n1 n2 t=>by
    have oN:∀k,(fun _=>False) k∨mw W1 k→b2<k:=fun k e=>by rcases e with e|e|e;exact(e:False).elim;all_goals omega
    refine⟨(t.block b0 (bt h.1) (fun e=>by have:=oN _ e;omega)).trans h.1,t.boxed h.2.1 (fun e=>by have:=oN _ e;omega),h.2.2.1.keep t (fun e=>by have:=oN _ e;omega) (fun q cs fz e=>n1 q cs _ fz (by rcases e with e|e;exact(e:False).elim;exact e)),t.below h.2.2.2 (aB _) (fun k e=>by have:=oN _ e;omega)⟩)
  (fun _ _ _ _ h _=>h.elim)
  ⟨z0,z2,z1,sD⟩ ?a1 ?assign ?body ?done ?stop
 case assign=>
  intro l x W K hK
  dsimp only[tM]
  gi_wp2
  exact hK
 case body=>
  rintro l0 pre x W hW hnc ⟨kT,JT,oM,dK⟩ pB;have oc:x.val<k:=by have:=x.isLt;have:=HK.out;omega
  obtain⟨d,hd⟩:=oQ (l.getD x.val 0);have lZ:=pw Ct.out x.val;have nu:=abB Ct.out x
  have mF:(pre.flatMap (zp l)).length≤4*pre.length:=by
   clear oM pB
   induction pre with
   |nil=>simp
   |cons y pre ih=>rw[rN,eV,eF];have:=abB Ct.out y;omega
  have sa:Hid ((pre.flatMap (zp l)).length≤4000):=hZ (by have:=HK.out;omega)
  have gx:zp l x=if x.val+1<k then o5 d else bX d:=by
   have:=HK.out;unfold zp;rw[hd]
   by_cases q:x.val+1<k
   · rw[if_pos (by omega),if_pos q]
   · rw[if_neg (by omega),if_neg q]
  rw[←ra x.isLt];rw[hd] at lZ⊢;have hit:=Tryz.strconv_Itoa (d:Int) (by omega) (by omega) W (HP.out.below dK);rw[akz] at hit;obtain⟨D,hD⟩:∃D:ByteArray,D=⟨(bX d).toArray⟩:=⟨_,rfl⟩;rw[←hD] at hit;have i':=hZ hit;have IP:D.size=(bX d).length:=by rw[hD];rfl
  have hD4:=LM 4 d (by decide) (by omega);obtain⟨dz,Ja⟩:=oQ (D.size);have OV:=hZ Ja;have HD:=hZ hD;have apV:dz≤4:=by omega
  have CA:=hZ gx;have HPS:=hZ nu;have MB:=fg kT;have qW:=hZ kT;have lO:=hZ JT;have o':=hZ oM;have fi:=hZ dK;obtain⟨xi,xd⟩:=oQ (x.val);rw[xd] at oc CA⊢;have hsW:=dK.size;clear hd nu mF gx hD Ja hit IP hD4 kT JT oM dK xd z0 z1 z2 sD mB;obtain⟨k1,fJ⟩:=oQ (k-1);have w1:IntKind.i64.wrap ((k:Int)-1)=(k1:Int):=by rw[IntKind.wrap_i64];omega
  have kD:=hZ fJ;clear fJ
  by_cases RP:xi+1<k
  · have d2:decide (xi<k1)=true:=by have:=kD.out;simp;omega
    (have w2:IntKind.i64.wrap ((4:Int)-(dz:Int))=((4-dz:Nat):Int):=by rw[IntKind.wrap_i64];omega);have Ja:=OV.out
    gi_wp2_with fail
    refine⟨trivial,Kr (F:=gU) (n:=0) (z_.2 (i'.out)) ?_⟩;rintro e W2 ⟨rfl,dk,os,eY⟩;(have aA:Below W.heap.size W W2:=by rw[eY];exact ac3 _ _ (aB _) _ _);have aaz:=(aA.cell (p:=⟨b0,1,none⟩) (bt qW.out)).trans MB;have aG:=hZ aA;clear eY aA MB
    gi_wp2_with fail
    obtain⟨f,hf⟩:=oQ (4-dz);rw[hf];have HF:=hZ hf;have Sh:=Tryz.strings_Repeat ⟨#[48]⟩ f W2 (by omega) (by have:(⟨#[48]⟩:ByteArray).size=1:=rfl;rw[this];omega);obtain⟨R,hR⟩:∃R:ByteArray,R=⟨(Uk (⟨#[48]⟩:ByteArray).data.toList f).toArray⟩:=⟨_,rfl⟩;rw[←hR] at Sh;have HR:=hZ hR;have HRP:=hZ Sh;clear hf hR Sh w2;refine⟨trivial,Kr (F:=gU) (n:=0) (z_.2 (HRP.out)) ?_⟩;rintro e W3 ⟨rfl,aK⟩;have a_:=hZ aK
    have yJ:R.data.toList=jY f 48:=by
     rw[HR.out];exact amG f
    have hno:¬9223372036854775807<R.size+dz:=by
     have h1:R.data.toList.length=R.size:=oo;rw[yJ,agR] at h1;have:=HF.out;omega
    have fG:=hZ yJ;clear aK aaz yJ
    gi_wp2_with fail
    have yJ:=fG.out;have sE:D.data.toList=bX d:=by rw[HD.out]
    have Rl:(R++D).data.toList=o5 d:=by
     have hf:=HF.out;(have jU:(bX d).length=dz:=by rw[←sE,←OV.out];exact oo);rw[ByteArray.data_append,Array.toList_append,yJ,sE,←hf];unfold o5;rw[jU]
    have I5:=(o'.out.below aG.out).below a_.out
    have ik:(R++D).size≤4:=by
     have h1:=HPS.out;rw[CA.out,if_pos RP,←Rl] at h1;exact h1
    have ahh:=hZ Rl;have jM:=aV aG.out.size a_.out.size;refine⟨trivial,Kr (F:=gU) (n:=0) (z_.2 (Xv I5 (R++D) (by have:=sa.out;omega) (by have:=cy.out;omega))) ?_⟩;rintro e W9 ⟨rfl,I6,cZ,oZ⟩;have eK:=hZ cZ;have lM:=hZ oZ;have OO:=hZ I6;clear I5 I6 cZ oZ Rl yJ sE
    gi_wp2_with fail
    have TG:W.heap.size≤W9.heap.size:=aV jM eK.out.size;have fp:∀q o,W.heap[q]?=some o→q≠b1→(∀c fz,o≠.cells c 5 fz)→W9.heap[q]?=some o:=fun q o ho hq hc=>lM.out q o ((a_.out.block q (iX (bt ho) aG.out.size)).trans ((aG.out.block q (bt ho)).trans ho)) (fun e=>hq (mR e)) hc;have bb:=((aG.out.mono (by have:=cy.out;omega)).trans (a_.out.mono (by have:=cy.out;have:=aG.out.size;omega))).trans eK.out;have IJ:lP b2 A0 W W9:=⟨(fp b2 _ lO.out (by have:=cy.out;omega) (fun c fz e=>by injection e with e1 e2 e3;exact absurd e2 (by decide))).trans lO.out.symm,fun q hq=>bb.block _ (by have:=qe q hq;have:=cy.out;omega)⟩;refine⟨⟨TG,fun q o hq ho hc=>fp q o ho (fun e=>by have:=cy.out;omega) (fun c fz e=>by rw[e] at hc;cases hc)⟩,IJ,?_,IJ.1.trans lO.out,?_,fi.out.trans (bb.mono (by have:=cy.out;omega))⟩
    · exact fp b0 _ qW.out (by have:=cy.out;omega) (fun c fz e=>by injection e with e1 e2 e3;exact absurd e2 (by decide))
    · rw[Oq,rN,agJ,Vj,CA.out]
      rw[if_pos RP,←ahh.out];exact OO.out
  · have d2:decide (xi<k1)=false:=by have:=kD.out;simp;omega
    gi_wp2_with fail
    refine⟨trivial,Kr (F:=gU) (n:=0) (z_.2 (i'.out)) ?_⟩;rintro e W2 ⟨rfl,dk,os,eY⟩;(have aA:Below W.heap.size W W2:=by rw[eY];exact ac3 _ _ (aB _) _ _);have aaz:=(aA.cell (p:=⟨b0,1,none⟩) (bt qW.out)).trans MB;have aG:=hZ aA;clear eY aA MB
    gi_wp2_with fail
    (have sE:D.data.toList=bX d:=by rw[HD.out]);have I5:=o'.out.below aG.out;have jM:=aG.out.size;refine⟨trivial,Kr (F:=gU) (n:=0) (z_.2 (Xv I5 D (by have:=sa.out;have:=OV.out;omega) (by have:=cy.out;omega))) ?_⟩;rintro e W9 ⟨rfl,I6,cZ,oZ⟩;have eK:=hZ cZ;have lM:=hZ oZ;have OO:=hZ I6;have VQ:=hZ sE;clear I5 I6 cZ oZ sE
    gi_wp2_with fail
    have TG:W.heap.size≤W9.heap.size:=aV jM eK.out.size;have fp:∀q o,W.heap[q]?=some o→q≠b1→(∀c fz,o≠.cells c 5 fz)→W9.heap[q]?=some o:=fun q o ho hq hc=>lM.out q o ((aG.out.block q (bt ho)).trans ho) (fun e=>hq (mR e)) hc;have bb:=(aG.out.mono (by have:=cy.out;omega)).trans eK.out;have IJ:lP b2 A0 W W9:=⟨(fp b2 _ lO.out (by have:=cy.out;omega) (fun c fz e=>by injection e with e1 e2 e3;exact absurd e2 (by decide))).trans lO.out.symm,fun q hq=>bb.block _ (by have:=qe q hq;have:=cy.out;omega)⟩;refine⟨⟨TG,fun q o hq ho hc=>fp q o ho (fun e=>by have:=cy.out;omega) (fun c fz e=>by rw[e] at hc;cases hc)⟩,IJ,?_,IJ.1.trans lO.out,?_,fi.out.trans (bb.mono (by have:=cy.out;omega))⟩
    · exact fp b0 _ qW.out (by have:=cy.out;omega) (fun c fz e=>by injection e with e1 e2 e3;exact absurd e2 (by decide))
    · rw[Oq,rN,agJ,Vj,CA.out]
      rw[if_neg RP,←VQ.out];exact OO.out
 case done=>
  rintro xs W hS ⟨kT,JT,oM,dK⟩ hK;have l6:0<l.length:=by rw[HK.out];exact fp
  have Sr:=pieces Ct.out l6 (fun d hd=>by
   rw[←HL.out] at hd
   exact alF hd) hS
  have hvl:cU l=n:=by rw[←HL.out,om]
  rw[hvl] at Sr;rw[Sr] at oM;have ZV:n≠0:=fun e=>by rw[←HL.out,e,oY] at l6;simp at l6
  have HNZ:=hZ ZV;have Gm:=fm kT;have qW:=hZ kT;have o':=hZ oM;have fi:=hZ dK;have fR:=hZ hK;have hsW:=dK.size;have wP:b1<W.heap.size:=by have:=cy.out;have:=bt JT;omega
  obtain⟨D,hD⟩:∃D:ByteArray,(⟨(bX n).toArray⟩:ByteArray)=D:=⟨_,rfl⟩;obtain⟨dz,Ja⟩:=oQ (D.size);have gR:(bX n).length=dz:=by rw[←Ja,←hD];rfl
  have HD:=hZ (ay hD gR);clear hS l6 Sr hvl ZV kT JT oM dK hK z0 z1 z2 sD mB qe rR HA hD gR
  have f3 :Hid (∀(e:qC) (W9:ae),W.heap.size≤W9.heap.size→Below b1 W W9→uq 5 (some b1) W W9→(if 200<dz then e=.returned (.tuple #[.string ⟨#[]⟩,.int .i64 30]) else e=.returned (.tuple #[.string (if neg then⟨#[45]⟩++D else D),.int .i64 0]))→
   W9.heap[W1.heap.size]?=some (.deferred (some []))∧LG w neg n e (W9.putObj W1.heap.size (.deferred none))):=hZ (fun e W9 h0 hb hk he=>by
   have lZ:W9.heap[W1.heap.size]?=some (.deferred (some [])):=hk _ _ fR.out (fun e=>by have:=cy.out;have:=mR e;omega) (fun c fz e=>by cases e);refine⟨lZ,?_,?_⟩
   · rw [HD.out.2]
     split at he
     · rw[if_pos (by assumption)];exact he
     · rw [if_neg (by assumption),he]
       (have cO:decide (n≠0)=true:=by simp;exact HNZ.out);(have jU:D.data=(bX n).toArray:=by rw[←HD.out.1]);cases neg
       · rw[if_neg (by simp)];simp[←HD.out.1]
       · rw[if_pos rfl,cO]
         have:(⟨#[45]⟩:ByteArray)++D=⟨([45]++bX n).toArray⟩:=by
          apply ByteArray.ext;rw[ByteArray.data_append,jU];simp
         simp[this]
   · exact(aO.putObj (Z:=fun k=>k=W1.heap.size) _ _ _ rfl).below (fi.out.trans (hb.mono (by have:=cy.out;omega))) (aB _) (fun k e=>by have:=cy.out;omega))
  have Rj:=ah0 o'.out (by omega);rw[HD.out.1] at Rj;have OP:=hZ Rj;clear Rj wP
  by_cases rb:200<dz
  · have d2:decide (200<dz)=true:=by simp[rb]
    clear Gm
    go_wp2_with (first
     | (go_at_call 65;(with_reducible refine OP.out.mono ?_);rintro e W9 ⟨rfl,cZ,oZ⟩;have BX:=ay cZ.size (oZ b0 _ qW.out (fun e=>by have:=cy.out;have:=mR e;omega) (fun c fz e=>by injection e with e1 e2 e3;exact absurd e2 (by decide)))
        have Gm:=fm BX.2;have eK:=hZ cZ;have qN:=hZ oZ
        clear cZ oZ BX)
     |fail)
    have hf:=f3.out (.returned (.tuple #[.string ⟨#[]⟩,.int .i64 30])) W9 eK.out.size eK.out qN.out (by rw[if_pos rb]);rw[aP] at hf;refine⟨by simp,.inl ⟨_,_,rfl,Ab hf.1,.tuple #[.string ⟨#[]⟩,.int .i64 30],?_,hf.2⟩⟩;simp[xN]
  have d2:decide (200<dz)=false:=by simp[rb]
  have hno:¬9223372036854775807<1+dz:=by omega
  have h45:(⟨#[45]⟩:ByteArray).size=1:=rfl;cases neg
  · clear Gm
    go_wp2_with (first
     | (go_at_call 65;(with_reducible refine OP.out.mono ?_);rintro e W9 ⟨rfl,cZ,oZ⟩;have BX:=ay cZ.size (oZ b0 _ qW.out (fun e=>by have:=cy.out;have:=mR e;omega) (fun c fz e=>by injection e with e1 e2 e3;exact absurd e2 (by decide)))
        have Gm:=fm BX.2;have eK:=hZ cZ;have qN:=hZ oZ
        clear cZ oZ BX)
     |fail)
    have hf:=f3.out (.returned (.tuple #[.string D,.int .i64 0])) W9 eK.out.size eK.out qN.out (by rw[if_neg rb];rfl);rw[aP] at hf;refine⟨by simp,.inl ⟨_,_,rfl,Ab hf.1,.tuple #[.string D,.int .i64 0],?_,hf.2⟩⟩;simp[xN]
  · clear Gm
    go_wp2_with (first
     | (go_at_call 65;(with_reducible refine OP.out.mono ?_);rintro e W9 ⟨rfl,cZ,oZ⟩;have BX:=ay cZ.size (oZ b0 _ qW.out (fun e=>by have:=cy.out;have:=mR e;omega) (fun c fz e=>by injection e with e1 e2 e3;exact absurd e2 (by decide)))
        have Gm:=fm BX.2;have eK:=hZ cZ;have qN:=hZ oZ
        clear cZ oZ BX)
     |fail)
    have hf:=f3.out (.returned (.tuple #[.string (⟨#[45]⟩++D),.int .i64 0])) W9 eK.out.size eK.out qN.out (by rw[if_neg rb];rfl);rw[aP] at hf;refine⟨by simp,.inl ⟨_,_,rfl,Ab hf.1,.tuple #[.string (⟨#[45]⟩++D),.int .i64 0],?_,hf.2⟩⟩;simp[xN]
 case stop=>
  rintro cd pre W _ h;exact h.elim
end Go.Proofs.YteeifhlhpiimoaaGreatDoor
end
section
namespace Go.Proofs.YteeifhlhpiimoaaGreatDoor
open Go Go.RowKit Go.Shelf
attribute [local go_sem] Oper.semAt_some
theorem dJ.uniq {w:ae} {B:Nat} {A:Option Addr} {l m:List Nat} (h:dJ w B A nv l) (k:dJ w B A nv m) (hl:l.length=m.length):l=m:=by
 apply On hl;intro i h1 h2;obtain⟨a,ha,-,hc⟩:=h.get h1;obtain⟨a',YM,-,kM⟩:=k.get h2;rw[ha] at YM;cases YM;rw[hc] at kM;unfold nv at kM;injection kM with e;injection e with _ e;omega
theorem aX.uniq {w:ae} {v:ai} {a b:Nat} (h:aX w v (aD a)) (k:aX w v (aD b)):a=b:=by
 obtain⟨A,c,rfl,-,-,-,h4⟩:=h;obtain⟨A',c',e,-,-,-,k4⟩:=k;injection e with e1 e2 e3;subst e1;rw[←om a,h4.uniq k4 e2,om]
open Classical in
noncomputable def numOf (v:ai) (w:ae):Nat:=if h:∃b,aX w v (aD b) then h.choose else 0
theorem abk {v:ai} {w:ae} {b:Nat} (h:aX w v (aD b)):numOf v w=b:=by
 have hx:∃b,aX w v (aD b):=⟨b,h⟩;rw[numOf,dif_pos hx];exact hx.choose_spec.uniq h
def OG (w:ae) (n:Nat) (e:qC) (w':ae):Prop:=e=.returned (.tuple #[.string ⟨(bX n).toArray⟩,.int .i64 0])∧Below w.heap.size w w'
theorem an9 (neg:Bool) (n:Nat) (v:ai) (w:ae) (h:aX w v (aD n)) (hl:(bX n).length≤200) (hp:dY w) (jo:neg=false):
 ax ah 208 #[.agg #[.bool neg,v]] w (OG w n):=by
 have h5:(aD n).length≤50:=by
  apply BJ;have h1:=Is (bX n) (C0 n);rw[wI] at h1;have e:(10000:Nat)^50=10^200:=by rw[show(10000:Nat)=10^4 by rfl,←Vs]
  rw[e];exact iX h1 (GV (by decide) hl)
 refine(acy neg n v w h (by omega) hp).mono ?_;rintro e w' ⟨h1,h2⟩;rw[if_neg (by omega)] at h1;subst jo;exact⟨by simpa using h1,h2⟩
theorem C8 {n:Nat} {l:List UInt8} (hv:cR l=true) (h:n≤(bC l).natAbs):(bX n).length≤200:=by
 have h1:=(acI hv).2;have h2:=Is (bX (bC l).natAbs) (C0 _);rw[wI] at h2;exact LM 200 n (by decide) (Nat.lt_of_le_of_lt h (iX h2 (GV (by decide) h1)))
theorem ajo (s t:ByteArray) (hs:s.size≤1000000) (ht:t.size≤1000000) (h1:cR s.data.toList=true) (h2:cR t.data.toList=true) (w:ae) (hp:dY w):
 ax ah 201 #[.string s,.string t] w (OG w (qJ (bC s.data.toList).natAbs (bC t.data.toList).natAbs)):=by
 have HB:=hZ (Qq s t hs ht h1 h2 w);have kx:=Gi h1;have ga:=Gi h2
 have fc:(bX (qJ (bC s.data.toList).natAbs (bC t.data.toList).natAbs)).length≤200:=by
  rcases fL (bC s.data.toList).natAbs with e|e
  · rw[e,Nat.gcd_zero_left];exact C8 h2 (aB _)
  · exact C8 h1 (Nat.le_of_dvd e (Nat.gcd_dvd_left _ _))
 obtain⟨x,hx⟩:=oQ (bC s.data.toList);obtain⟨y,hy⟩:=oQ (bC t.data.toList);rw[hx] at HB kx fc⊢;rw[hy] at HB ga fc⊢;obtain⟨g,hg⟩:=oQ (qJ x.natAbs y.natAbs);rw[hg] at fc⊢;have HG:=hZ hg;have r7:=hZ kx;have qO:=hZ ga;have tE:=hZ fc;clear hg;have HP:=hZ hp;clear h1 h2 hx hy kx ga fc hp;unfold KT at HB;obtain⟨p,Jz⟩:=oQ (decide (x<0));obtain⟨q,Z8⟩:=oQ (decide (y<0));rw[Jz,Z8] at HB;clear Jz Z8
 go_enter Tryz.func201,Tryz.ntmps201
 go_wp2_with (first
  |(go_at_call 203;(with_reducible refine HB.out.mono ?_);rintro e w1 ⟨u,v,rfl,hu,hv,aq⟩;have HU:=hZ hu;have HV:=hZ hv;obtain⟨A1,c1,jN,-⟩:=hu;obtain⟨n1,cO⟩:=oQ ((aD x.natAbs).length);rw[cO] at jN;subst jN;clear cO;obtain⟨A2,c2,fO,-⟩:=hv;obtain⟨n2,cN⟩:=oQ ((aD y.natAbs).length);rw[cN] at fO;subst fO;clear cN;have aF:=hZ aq;clear aq)
  |fail)
 go_quiet (fail)
 go_wp2;have kb:=(kV w1 #[.bool p,.slice A1 n1 c1] #[.bool q,.slice A2 n2 c2] 232 232).2.2.2;have Q6:=HU.out.below kb;have lW:=HV.out.below kb;have re:=aF.out.trans (kb.mono aF.out.size);obtain⟨W0,gP⟩:=oQ ((w1.alloc (.cells #[.bool p,.slice A1 n1 c1] 232)).alloc (.cells #[.bool q,.slice A2 n2 c2] 232));rw[gP] at Q6 lW re⊢;have HU2:=hZ Q6;have cI:=hZ lW;have aG:=hZ re;clear gP Q6 lW re kb HU HV aF HB
 go_loopw [9,10,11,12] (fun va vb _ _ wr=> ∃(a b:Nat),aX wr va (aD a)∧aX wr vb (aD b)∧Hid (qJ a b=g)∧Hid ((aD a).length≤50∧(aD b).length≤50)∧Below w.heap.size w wr) (fun _ vb _ _ wr=>numOf vb wr)
 case atStart=>exact⟨x.natAbs,y.natAbs,HU2.out.drewN _,cI.out.drewN _,HG,hZ ⟨r7.out,qO.out⟩,aG.out.trans (Go.Joins.below_draws _ _ _)⟩
 case round=>
  obtain⟨a,b,ha,hb,HG,HL,hB⟩:=hrel;have HA:=hZ ha;have HB:=hZ hb;have fi:=hZ hB;obtain⟨A3,c3,rfl,-⟩:=ha;obtain⟨A4,c4,rfl,-⟩:=hb;obtain⟨n3,pC⟩:=oQ ((aD a).length);obtain⟨n4,ie⟩:=oQ ((aD b).length);rw[pC] at HA⊢;rw[ie] at HB⊢;have HN:=hZ (ay pC ie);have Fk:n4=0↔b=0:=by rw[←ie,rO,DU]
  have Cm:=hZ Fk;clear hB pC ie Fk
  by_cases h0:0<n4
  · have d1:decide (0<n4)=true:=by simp[h0]
    have dt:0<b:=by
     rcases fL b with e|e
     · have:=Cm.out.2 e;omega
     · exact e
    have HM:=hZ (abk HB.out);have HO:=hZ (MZ a b dt _ _ wr HA.out HB.out (by have:=HL.out;omega) (by have:=HL.out;omega));have de:=hZ dt;clear dt
    go_wp2_with (first
     | (go_at_call 204;(with_reducible refine HO.out.mono ?_);rintro e w2 ⟨vq,vr,rfl,hq,hr,aA⟩
        have HR:=hZ hr;have aG:=hZ aA
        clear hq hr aA)
     |fail)
    refine⟨⟨b,a%b,HB.out.below aG.out,HR.out,hZ ?_,hZ ⟨HL.out.2,?_⟩,fi.out.trans (aG.out.mono fi.out.size)⟩,?_⟩
    · rw[←HG.out,OB a b,Nat.gcd_rec b a,OB]
    · exact aV (zm (uz (rQ _ de.out))) HL.out.2
    · have e1:=abk HR.out
      have e2:=HM.out;have:=rQ a de.out;omega
  · obtain rfl:n4=0:=by omega
    obtain rfl:b=0:=Cm.out.1 rfl;(have qk:a=g:=by have:=HG.out;rwa[Nat.gcd_zero_right] at this);subst qk;(have d1:decide (0<0)=false:=by decide);have HT:=hZ (an9 false a _ wr HA.out tE.out (HP.out.below fi.out) rfl)
    go_wp2_with (first
     | (go_at_call 208;(with_reducible refine HT.out.mono ?_);rintro e w2 ⟨rfl,aA⟩
        have aG:=hZ aA
        clear aA)
     |fail)
    refine et (v:=.tuple #[.string ⟨(bX a).toArray⟩,.int .i64 0]) (by simp[xN]) rfl ⟨rfl,fi.out.trans (aG.out.mono fi.out.size)⟩
end Go.Proofs.YteeifhlhpiimoaaGreatDoor
end
section
namespace Go.Proofs.YteeifhlhpiimoaaGreatDoor
open Go Go.RowKit Go.Shelf
attribute [local go_sem] Oper.semAt_some
def xr (neg:Bool) (n:Nat):List UInt8:=(if neg&&decide (n≠0) then[45] else[])++bX n
theorem anj (neg:Bool) (n:Nat):xr neg n=gA (if neg then -(n:Int) else n):=by
 unfold xr gA;cases neg
 · simp only[Bool.false_and,acX,if_false,xS]
   rw[if_neg (by omega)];rfl
 · rcases fL n with rfl|h
   · simp
   · have:decide (n≠0)=true:=by simp;omega
     simp only[this,acW,if_true];rw[if_pos (by omega)];simp
theorem Gb (neg:Bool) (n:Nat) (v:ai) (w:ae) (h:aX w v (aD n)) (hl:(bX n).length≤200) (hp:dY w):
 ax ah 208 #[.agg #[.bool neg,v]] w fun e w'=>e=.returned (.tuple #[.string ⟨(xr neg n).toArray⟩,.int .i64 0])∧Below w.heap.size w w':=by
 have h5:(aD n).length≤50:=by
  apply BJ;have h1:=Is (bX n) (C0 n);rw[wI] at h1;have e:(10000:Nat)^50=10^200:=by rw[show(10000:Nat)=10^4 by rfl,←Vs]
  rw[e];exact iX h1 (GV (by decide) hl)
 refine(acy neg n v w h (by omega) hp).mono ?_;rintro e w' ⟨h1,h2⟩;rw[if_neg (by omega)] at h1;exact⟨h1,h2⟩
theorem alJ (w:ae):ax ah 206 #[] w fun e w'=>e=.returned (.slice (some ⟨w.heap.size,0,none⟩) 1 1)∧aX w' (.slice (some ⟨w.heap.size,0,none⟩) 1 1) (aD 1)∧Below w.heap.size w w':=by
 have h1:aD 1=[1]:=by rw[xh (by omega),show 1/10000=0 by rfl,oY]
 have h2:aX (w.alloc (.cells #[.int .i64 1] 3)) (.slice (some ⟨w.heap.size,0,none⟩) 1 1) (aD 1):=by
  rw[h1];have:=aX.iW (OL.SK (B:=w.heap.size) w 1 (aB _));exact this
 go_enter Tryz.func206,Tryz.ntmps206
 go_wp2;go_ret;exact⟨rfl,h2,(bK _ _).alloc (aB _) _⟩
def ahe (w:ae) (neg:Bool) (q r:Nat) (e:qC) (w':ae):Prop:=e=.returned (.tuple #[.string ⟨(xr neg q).toArray⟩,.string ⟨(bX r).toArray⟩,.int .i64 0])∧Below w.heap.size w w'
def sw (p:Bool) (a b:Nat):Nat:=if p&&decide (0<a%b) then a/b+1 else a/b
def sx (p:Bool) (a b:Nat):Nat:=if p&&decide (0<a%b) then b-a%b else a%b
theorem X5 (p:Bool) (a b:Nat) (h:0<b):sw p a b≤a:=by
 unfold sw
 split
 · rename_i hh
   simp at hh;have h1:=Nat.div_add_mod a b;(have h2:2≤b:=by have:=rQ a h;omega);have h3:2*(a/b)≤b*(a/b):=Nat.mul_le_mul_right _ h2;omega
 · exact GP _ _
theorem X8 (p:Bool) (a b:Nat) (h:0<b):sx p a b≤b:=by
 unfold sx;have:=rQ a h
 split<;>omega
theorem aiO (s t:ByteArray) (hs:s.size≤1000000) (ht:t.size≤1000000) (h1:cR s.data.toList=true) (h2:cR t.data.toList=true) (h3:0<bC t.data.toList) (w:ae) (hp:dY w):
 ax ah 140 #[.string s,.string t] w (ahe w (decide (bC s.data.toList<0)) (sw (decide (bC s.data.toList<0)) (bC s.data.toList).natAbs (bC t.data.toList).natAbs) (sx (decide (bC s.data.toList<0)) (bC s.data.toList).natAbs (bC t.data.toList).natAbs)):=by
 have HB:=hZ (Qq s t hs ht h1 h2 w);have kx:=Gi h1;have ga:=Gi h2;have zf:0<(bC t.data.toList).natAbs:=by omega
 have hq:=fun p=>C8 h1 (X5 p _ _ zf);have hr:=fun p=>C8 h2 (X8 p (bC s.data.toList).natAbs _ zf);have jL:=C8 h1 (GP (bC s.data.toList).natAbs (bC t.data.toList).natAbs);unfold KT at HB;rw[decide_eq_false (show ¬bC t.data.toList<0 by omega)] at HB;obtain⟨p,Jz⟩:=oQ (decide (bC s.data.toList<0));obtain⟨x,hx⟩:=oQ ((bC s.data.toList).natAbs);obtain⟨y,hy⟩:=oQ ((bC t.data.toList).natAbs);have hq:=hq p;have hr:=hr p;rw[Jz,hx,hy] at HB⊢;rw[hx] at kx jL;rw[hy] at ga zf jL;rw[hx,hy] at hq hr;have r7:=hZ kx;have qO:=hZ ga;have EL:=hZ zf;have HP:=hZ hp;clear h1 h2 h3 hx hy Jz kx ga jL hp;obtain⟨r,DN⟩:=oQ (x%y);have ar:=rQ x zf;rw[DN] at ar;have uM:=hZ DN;have aL:=hZ ar;clear zf;cases p
 · have e1:sw false x y=x/y:=by unfold sw;rw[uM.out];simp
   (have e2:sx false x y=r:=by unfold sx;rw[uM.out];simp);rw[e1] at hq⊢;rw[e2] at hr⊢;have HQ:=hZ hq;have HR:=hZ hr;clear e1 e2 hq hr DN ar
   go_enter Uu,UJ
   go_wp2_with (first
    | (go_at_call 203;(with_reducible refine HB.out.mono ?_);rintro e w1 ⟨u,v,rfl,hu,hv,aq⟩;have HU:=hZ hu;have HV:=hZ hv;obtain⟨A1,c1,jN,-⟩:=hu;obtain⟨n1,cO⟩:=oQ ((aD x).length);rw[cO] at jN;subst jN;clear cO;obtain⟨A2,c2,fO,-⟩:=hv;obtain⟨n2,cN⟩:=oQ ((aD y).length);rw[cN] at fO;subst fO
       have d1:((n2:Int)==0)=false:=by
        (have:n2≠0:=fun e=>by rw[e,rO,DU] at cN;have:=EL.out;omega);simp;omega
       obtain⟨k1,k2,k3,k4⟩:=kV w1 #[.bool false,.slice A1 n1 c1] #[.bool false,.slice A2 n2 c2] 232 232;have HT:=hZ (show oD w1.heap.size 232 232 (.bool false) (.slice A1 n1 c1) (.bool false) (.slice A2 n2 c2) _ from⟨k1,k2⟩);have aF:=hZ (aq.trans (k4.mono aq.size));have H6:=hZ (HU.out.below k4);have Aw:=hZ (HV.out.below k4)
       clear cN aq k1 k2 k3 k4)
    | (go_at_call 204;(with_reducible refine(MZ x y EL.out _ _ _ H6.out Aw.out (by have:=r7.out;omega) (by have:=qO.out;omega)).mono ?_);rintro e w2 ⟨vq,vr,rfl,kQ,pE,aA⟩
       rw[uM.out] at pE;have dD:=hZ (HT.out.below aA);have PW:=hZ (Aw.out.below aA);have aG:=aw aF aA;have pY:=hZ kQ;have iB:=hZ pE;obtain⟨A3,c3,pD,-⟩:=kQ;obtain⟨n3,pC⟩:=oQ ((aD (x/y)).length);rw[pC] at pD;subst pD;obtain⟨A4,c4,Bv,-⟩:=pE;obtain⟨n4,ie⟩:=oQ ((aD r).length);rw[ie] at Bv;subst Bv;obtain⟨⟨x0,x1,x2,x3⟩,-⟩:=dD.out.facts
       skip
       clear aA pC ie)
    | (go_at_call 208;(with_reducible refine(Gb false (x/y) _ _ pY.out HQ.out (HP.out.below aG.out)).mono ?_);rintro e w5 ⟨rfl,cn⟩
       have cT:=aw aG cn;have H':=hZ (iB.out.below cn)
       clear cn)
    | (go_at_call 208;(with_reducible refine(Gb false r _ _ H'.out HR.out (HP.out.below cT.out)).mono ?_);rintro e w6 ⟨rfl,eB⟩
       have dM:=aw cT eB
       clear eB)
    |fail)
   refine et (v:=.tuple #[.string ⟨(xr false (x/y)).toArray⟩,.string ⟨(xr false r).toArray⟩,.int .i64 0]) (by simp[xN]) rfl ⟨rfl,dM.out⟩
 rcases fL r with h0|h0
 · subst h0
   (have e1:sw true x y=x/y:=by unfold sw;rw[uM.out];simp);(have e2:sx true x y=0:=by unfold sx;rw[uM.out];simp);rw[e1] at hq⊢;rw[e2] at hr⊢;have HQ:=hZ hq;have HR:=hZ hr;clear e1 e2 hq hr DN ar
   go_enter Uu,UJ
   go_wp2_with (first
    | (go_at_call 203;(with_reducible refine HB.out.mono ?_);rintro e w1 ⟨u,v,rfl,hu,hv,aq⟩;have HU:=hZ hu;have HV:=hZ hv;obtain⟨A1,c1,jN,-⟩:=hu;obtain⟨n1,cO⟩:=oQ ((aD x).length);rw[cO] at jN;subst jN;clear cO;obtain⟨A2,c2,fO,-⟩:=hv;obtain⟨n2,cN⟩:=oQ ((aD y).length);rw[cN] at fO;subst fO
       have d1:((n2:Int)==0)=false:=by
        (have:n2≠0:=fun e=>by rw[e,rO,DU] at cN;have:=EL.out;omega);simp;omega
       obtain⟨k1,k2,k3,k4⟩:=kV w1 #[.bool true,.slice A1 n1 c1] #[.bool false,.slice A2 n2 c2] 232 232;have HT:=hZ (show oD w1.heap.size 232 232 (.bool true) (.slice A1 n1 c1) (.bool false) (.slice A2 n2 c2) _ from⟨k1,k2⟩);have aF:=hZ (aq.trans (k4.mono aq.size));have H6:=hZ (HU.out.below k4);have Aw:=hZ (HV.out.below k4)
       clear cN aq k1 k2 k3 k4)
    | (go_at_call 204;(with_reducible refine(MZ x y EL.out _ _ _ H6.out Aw.out (by have:=r7.out;omega) (by have:=qO.out;omega)).mono ?_);rintro e w2 ⟨vq,vr,rfl,kQ,pE,aA⟩
       rw[uM.out] at pE;have dD:=hZ (HT.out.below aA);have PW:=hZ (Aw.out.below aA);have aG:=aw aF aA;have pY:=hZ kQ;have iB:=hZ pE;obtain⟨A3,c3,pD,-⟩:=kQ;obtain⟨n3,pC⟩:=oQ ((aD (x/y)).length);rw[pC] at pD;subst pD;obtain⟨A4,c4,Bv,-⟩:=pE;obtain⟨n4,ie⟩:=oQ ((aD 0).length);rw[ie] at Bv;subst Bv;obtain⟨⟨x0,x1,x2,x3⟩,-⟩:=dD.out.facts;(have d4:n4=0:=by rw[←ie,oY];rfl);subst d4
       clear aA pC ie)
    | (go_at_call 208;(with_reducible refine(Gb true (x/y) _ _ pY.out HQ.out (HP.out.below aG.out)).mono ?_);rintro e w5 ⟨rfl,cn⟩
       have cT:=aw aG cn;have H':=hZ (iB.out.below cn)
       clear cn)
    | (go_at_call 208;(with_reducible refine(Gb false 0 _ _ H'.out HR.out (HP.out.below cT.out)).mono ?_);rintro e w6 ⟨rfl,eB⟩
       have dM:=aw cT eB
       clear eB)
    |fail)
   refine et (v:=.tuple #[.string ⟨(xr true (x/y)).toArray⟩,.string ⟨(xr false 0).toArray⟩,.int .i64 0]) (by simp[xN]) rfl ⟨rfl,dM.out⟩
 · have mG:0<r:=h0
   (have e1:sw true x y=x/y+1:=by unfold sw;rw[uM.out];simp;omega);(have e2:sx true x y=y-r:=by unfold sx;rw[uM.out];simp;omega);rw[e1] at hq⊢;rw[e2] at hr⊢;have HQ:=hZ hq;have HR:=hZ hr;clear e1 e2 hq hr DN ar;clear mG;have mU:=hZ h0;clear h0
   go_enter Uu,UJ
   go_wp2_with (first
    | (go_at_call 203;(with_reducible refine HB.out.mono ?_);rintro e w1 ⟨u,v,rfl,hu,hv,aq⟩;have HU:=hZ hu;have HV:=hZ hv;obtain⟨A1,c1,jN,-⟩:=hu;obtain⟨n1,cO⟩:=oQ ((aD x).length);rw[cO] at jN;subst jN;clear cO;obtain⟨A2,c2,fO,-⟩:=hv;obtain⟨n2,cN⟩:=oQ ((aD y).length);rw[cN] at fO;subst fO
       have d1:((n2:Int)==0)=false:=by
        (have:n2≠0:=fun e=>by rw[e,rO,DU] at cN;have:=EL.out;omega);simp;omega
       obtain⟨k1,k2,k3,k4⟩:=kV w1 #[.bool true,.slice A1 n1 c1] #[.bool false,.slice A2 n2 c2] 232 232;have HT:=hZ (show oD w1.heap.size 232 232 (.bool true) (.slice A1 n1 c1) (.bool false) (.slice A2 n2 c2) _ from⟨k1,k2⟩);have aF:=hZ (aq.trans (k4.mono aq.size));have H6:=hZ (HU.out.below k4);have Aw:=hZ (HV.out.below k4)
       clear cN aq k1 k2 k3 k4)
    | (go_at_call 204;(with_reducible refine(MZ x y EL.out _ _ _ H6.out Aw.out (by have:=r7.out;omega) (by have:=qO.out;omega)).mono ?_);rintro e w2 ⟨vq,vr,rfl,kQ,pE,aA⟩
       rw[uM.out] at pE;have dD:=hZ (HT.out.below aA);have PW:=hZ (Aw.out.below aA);have aG:=aw aF aA;have pY:=hZ kQ;have iB:=hZ pE;obtain⟨A3,c3,pD,-⟩:=kQ;obtain⟨n3,pC⟩:=oQ ((aD (x/y)).length);rw[pC] at pD;subst pD;obtain⟨A4,c4,Bv,-⟩:=pE;obtain⟨n4,ie⟩:=oQ ((aD r).length);rw[ie] at Bv;subst Bv;obtain⟨⟨x0,x1,x2,x3⟩,-⟩:=dD.out.facts
       have d4:decide (0<n4)=true:=by
        (have:n4≠0:=fun e=>by rw[e,rO,DU] at ie;have:=mU.out;omega);simp;omega
       clear aA pC ie)
    |fail)
   have Rf:=bt dD.out.2;have hle:=aG.out.size
   go_region_held3 (fun V=>V.cell? ⟨w1.heap.size+1,1,none⟩=some (.slice A2 n2 c2)) (first|exact x3|go_keep) (first
    | (go_at_call 206;(with_reducible refine(alJ w2.drew).mono ?_);rintro e w7 ⟨rfl,kS,dE⟩
       have y3:=(dE.cell (p:=⟨w1.heap.size+1,1,none⟩) Rf).trans x3;have HV7:=hZ (show aX w7 (.slice (some ⟨w2.heap.size,0,none⟩) 1 1) (aD 1) from kS);have jD:=hZ dE;have HPW:=hZ (al8 (x/y) 1 _ _ w7 ((show aX w2.drew _ _ from pY.out).below jD.out) HV7.out (aV (zm (GP x y)) (by have:=r7.out;omega)) (by have:(aD 1).length≤1:=BJ (by decide);omega))
       clear kS dE)
    | (go_at_call 205;(with_reducible refine HPW.out.mono ?_);rintro e w8 ⟨v8,rfl,oU,-,eN⟩
       have HV8:=hZ oU;obtain⟨A8,c8,aax,-⟩:=oU;obtain⟨n8,Fz⟩:=oQ ((aD (x/y+1)).length);rw[Fz] at aax;subst aax;have z3:=(eN.cell (p:=⟨w1.heap.size+1,1,none⟩) (iX Rf jD.out.size)).trans y3;have gj:=hZ eN;have HMW:=hZ (aa8 y r (uz aL.out) _ _ w8 (((show aX w2.drew _ _ from PW.out).below jD.out).below gj.out) (((show aX w2.drew _ _ from iB.out).below jD.out).below gj.out) (by have:=qO.out;omega))
       clear eN Fz)
    | (go_at_call 207;(with_reducible refine HMW.out.mono ?_);rintro e w9 ⟨v9,rfl,mJ,-,cZ⟩
       have H8:=hZ mJ;obtain⟨A9,c9,aay,-⟩:=mJ;obtain⟨n9,lA⟩:=oQ ((aD (y-r)).length);rw[lA] at aay;subst aay;have q3:=(cZ.cell (p:=⟨w1.heap.size+1,1,none⟩) (iX (iX Rf jD.out.size) gj.out.size)).trans z3;have eK:=hZ cZ
       clear cZ lA)
    |fail)
   have b3:Below w2.heap.size w2 w9:=((Below.drew (bK w2.heap.size w2)).trans jD.out).trans ((gj.out.mono jD.out.size).trans (eK.out.mono (aV jD.out.size gj.out.size)));have aG:=hZ (aG.out.trans (b3.mono hle));obtain⟨⟨x0,x1,x2,x3⟩,-⟩:=(dD.out.below b3).facts;have ahE:=hZ (HV8.out.below eK.out);clear b3
   go_wp2_with (first
    | (go_at_call 208;(with_reducible refine(Gb true (x/y+1) _ _ ahE.out HQ.out (HP.out.below aG.out)).mono ?_);rintro e w5 ⟨rfl,cn⟩
       have cT:=aw aG cn;have H':=hZ (H8.out.below cn)
       clear cn)
    | (go_at_call 208;(with_reducible refine(Gb false (y-r) _ _ H'.out HR.out (HP.out.below cT.out)).mono ?_);rintro e w6 ⟨rfl,eB⟩
       have dM:=aw cT eB
       clear eB)
    |fail)
   refine et (v:=.tuple #[.string ⟨(xr true (x/y+1)).toArray⟩,.string ⟨(xr false (y-r)).toArray⟩,.int .i64 0]) (by simp[xN]) rfl ⟨rfl,dM.out⟩
end Go.Proofs.YteeifhlhpiimoaaGreatDoor
end
