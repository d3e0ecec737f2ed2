/-
  Contract of yardstickref19.History of at most 31 points of the item; the like for what stands beside it. Conditions: the base lies in memory; its lists' bounds.
-/
import Derived.Test.YteeifhlhpiimoaaGreatDoorXAa
import Derived.Test.YteeifhlhpiimoaaGreatDoorXAs
import Derived.Test.YteeifhlhpiimoaaGreatDoorXAr
import Derived.Test.YteeifhlhpiimoaaGreatDoorXAp
import Derived.BigQuiet
set_option maxHeartbeats 8000000
set_option maxRecDepth 100000
open And renaming intro→ay
open Array renaming length_toList→oo
open Go renaming Calls→ax,Value→ai,World→ae,bodyPost_ret→et
open Go.Act renaming put→sV
open Go.Addr renaming add→jy
open Go.IntKind renaming i64→aQ,wrap_i64→aS
open Go.Joins renaming below_draws→qD
open Go.Lib renaming hasPrefix→B7
open Go.Proofs.Tryz renaming func154→Ku,func193→adw,func194→Uv,func195→Uw,func262→adK,ntmps154→KA,ntmps193→aeE,ntmps194→UK,ntmps195→UL,ntmps262→aeO,prog→ah,underlying33→bk,underlying58→B8
open Go.RowKit renaming Hid→ag
open Go.Value renaming int→vU
open Go.World renaming alloc_heap_new→bG
open Int renaming emod_lt_of_pos→agl,emod_nonneg→agm,mul_comm→xP,mul_ediv_add_emod→ago,mul_neg→GI,natAbs_ediv_le_natAbs→ags
open List renaming eq_nil_of_length_eq_zero→agC,filter_append→s7,getElem?_eq_getElem→bp,getElem?_eq_some_iff→dL,getElem_mem→Cb,length_append→eV,length_drop→pP,length_singleton→uy,length_take→gD,mem_singleton→fQ,setIfInBounds_toArray→ta,set_cons_succ→tc,set_cons_zero→td,take_add_one→gV,take_of_length_le→eE
open Nat renaming div_add_mod→OA,eq_zero_or_pos→fL,le_of_lt→uz,le_refl→aB,le_succ→ag3,le_trans→aV,lt_or_ge→fB,lt_succ_self→OC,mod_lt→rQ,mul_add→GQ,mul_comm→nN,pos_of_ne_zero→ag7,zero_le→ei
section
namespace Go.Proofs.YteeifhlhpiimoaaGreatDoor
open Go Go.RowKit Go.Shelf
attribute [local go_sem] Oper.semAt_some
theorem apo {P:Program} {ops:Array Oper} {S:ae→Prop} {o:Oper} {a:Act} (hw:Region.wanted o (yielded ops a.tmps)=true) (t:TypeId) (parts:Array (Nat×Operand)) (ho:o.op=.build t parts) (cells:Array ai)
 (hb:P.built t (parts.map fun(i,x)=>(i,a.eval x)).toList=some cells):YieldsIf P ops S o (.agg cells) a:=
 .inl ⟨hw,fun w _=>by
  unfold execOp;simp only[ho]
  simp only[Sem.run_bind,run_build w t _ cells hb,Result.andThen_ok,Sem.run_pure]⟩
theorem acp {P:Program} {ops:Array Oper} {o:Oper} {a:Act} {w:ae} {K:Act→ae→Prop} {Q:Exit→Act→ae→Prop} {D:Prop} (ct:o.guard=none) (t:TypeId) (x:Operand) (ho:o.op=.buildSlice t 1 #[(0,x)]) (xv:ai) (hx:a.eval x=xv) (cs:Array ai) (e:TypeId)
 (hr:∀w:ae,(Instr.buildSlice t 1 #[(0,xv)]).run P w=.ok (.slice (some ⟨w.heap.size,0,none⟩) 1 1) (w.alloc (.cells cs e)))
 (hk:∀V,Below w.heap.size w V→V.heap[w.heap.size]?=some (.cells cs e (0,0))→K (a.put o.dst (.slice (some ⟨w.heap.size,0,none⟩) 1 1)) V):
 if Region.wanted o (yielded ops a.tmps)=true then Oper.wp P o a w K Q else D:=by
 rw[if_pos (by simp[Region.wanted,ct])];have h:=hk _ (aY w (.cells cs e)) (bG w _);unfold Oper.wp execOp;simp only[ho,List.map_toArray,List.map_cons,List.map_nil,hx,Sem.run_bind,hr,Result.andThen_ok];exact h
def ui (p:Int):List af→Nat→Int
 |[],_=> -1
 |e::l,o=>if e.item=p then(o:Int) else ui p l (o+1)
theorem abK {p:Int} {l:List af} {k:Nat} {e:af} (he:l[k]?=some e):ui p (l.drop k) k=if e.item=p then(k:Int) else ui p (l.drop (k+1)) (k+1):=by
 obtain⟨h1,h2⟩:=dL.1 he;rw[List.drop_eq_getElem_cons h1,h2];rfl
theorem abJ (p:Int):∀(l:List af) (o:Nat),(ui p l o=-1∧(l.any fun e=>decide (e.item=p))=false)∨∃k e,ui p l o=((o+k:Nat):Int)∧l[k]?=some e∧(l.filter fun e=>decide (e.item=p)).headD aW=e∧(l.any fun e=>decide (e.item=p))=true
 |[],o=>.inl ⟨rfl,rfl⟩
 | e ::l,o=>by
   unfold ui
   by_cases h:e.item=p
   · rw[if_pos h]
     exact .inr ⟨0,e,rfl,rfl,by simp[h],by simp[h]⟩
   · rw[if_neg h]
     rcases abJ p l (o+1) with⟨h1,h2⟩|⟨k,d,h1,h2,h3,h4⟩
     · exact .inl ⟨h1,by simp[h,h2]⟩
     · exact .inr ⟨k+1,d,by rw[h1];congr 1;omega,h2,by simpa[h] using h3,by simp[h,h4]⟩
theorem ajS (B:bP) (p:Int):(ui p (B.ls 1) 0=-1∧fk (B.ls 1) p=aW∧vk B p=[])∨∃(k:Nat) (ev:af),ui p (B.ls 1) 0=(k:Int)∧(B.ls 1)[k]?=some ev∧fk (B.ls 1) p=ev∧vk B p=(dc (dQ af.az af.id) (iO (B.ls 0) p)).map fP:=by
 rcases abJ p (B.ls 1) 0 with⟨h1,h2⟩|⟨k,e,h1,h2,h3,h4⟩
 · exact .inl ⟨h1,Zj h2 aW,by unfold vk;rw[if_neg (by rw[h2];decide)]⟩
 · exact .inr ⟨k,e,by rw[h1];congr 1;omega,h2,h3,by unfold vk;rw[if_pos h4]⟩
theorem ahP {l:List af} {p:Int} {i:Nat} {e:af} (he:l[i]?=some e) (h:e.item≠p):iO (l.take (i+1)) p=iO (l.take i) p:=by
 unfold iO;rw[gV,s7,he];simp[h]
theorem Xo {l:List af} {p:Int} {i:Nat} {e:af} (he:l[i]?=some e) (h:e.item=p):iO (l.take (i+1)) p=iO (l.take i) p++[e]:=by
 unfold iO;rw[gV,s7,he];simp[h]
theorem ams (B:bP) (p:Int) (w:ae) (hB:dH w (bV w) B) (hm:(B.ls 0).length≤1000000∧(B.ls 1).length≤1000000) (Dd:(iO (B.ls 0) p).length≤31):ax ah 35 #[B.val,.int .i64 p] w (EN B p w):=by
 have IE:=fun e:af=>hZ (di (e:=e));have IS:=fun e:af=>hZ (show(ah.info? 33).map (·.size)=some e.cells.toArray.size from di (e:=e));have jF:=hZ (ajS B p);obtain⟨l,A,n,c,hl,HX,HA,HN⟩:=hB.zo (j:=0) (by decide) hm.1;obtain⟨l1,A1,n1,c1,kx,tF,rR,fF⟩:=hB.zo (j:=1) (by decide) hm.2;rw[hl] at Dd jF;rw[kx] at jF;have H31:=hZ Dd;have dI:=hZ (show ∀e w',(∃v,e=.returned (.agg #[.string (fk l1 p).rn,.string (fk l1 p).rd,v])∧OL w' w.heap.size 86 5 fK v (vk B p)∧Below w.heap.size w w')→EN B p w e w' from fun e w' h=>by unfold EN;rw[kx];exact h);refine Calls.mono ?_ dI.out;clear hB hl hm Dd kx dI;obtain⟨b0,w0,q1,q2,q3,hf,bU⟩:=(At.start w).eX (.cells B.cells.toArray 36);obtain⟨b4,w1,r1,r2,r3,jb,aP⟩:=hf.eX (.cells jc 58);have HQ:=hZ (ay q1 (ay (bU.symm.trans r1) (show(w.alloc (.cells B.cells.toArray 36)).alloc (.cells jc 58)=w1 by rw[q2,r2])));have HF:=hZ jb;have bJ:=hZ r3;clear q1 q2 q3 hf bU r1 r2 r3 jb aP
 go_enter Tryz.func35,Tryz.ntmps35
 have wk0:aQ.wrap ((n1:Int)-1)=(n1:Int)-1:=by rw[aS];have:=fF.out;omega
 have x1:w1.cell? ⟨b0,1,none⟩=some (.slice A1 n1 c1):=HF.out.cell (b:=b0) (cs:=B.cells.toArray) (t:=36) (by simp) (i:=1) tF.out
 go_upto_region 1 with(fail)
 obtain⟨q1,q2,q3⟩:=HQ.out;rw[q1,q2,q3];clear q1 q2 q3;go_wp2_with fail;clear x1 wk0
 go_loopw [5,6] (fun rv v wr=> ∃(k:Nat) (z r:Int),v=.int .i64 z∧rv=.int .i64 r∧k≤n1∧z=(k:Int)-1∧ag (ui p (l1.drop k) k=r)∧ag (At w wr [(b4,.cells jc 58 (0,0)),(b0,.cells B.cells.toArray 36 (0,0))])) (fun _ v _=>(intOf v+1).toNat)
 case atStart=>exact⟨n1,_,-1,rfl,rfl,aB _,rfl,hZ (by rw[List.drop_eq_nil_of_le (by have:=fF.out.1;omega)];rfl),HF⟩
 case round =>
  clear HF;obtain⟨k,z,r,rfl,rfl,hk,hz,HR,HF⟩:=hrel;have x1:wr.cell? ⟨b0,1,none⟩=some (.slice A1 n1 c1):=HF.out.cell (b:=b0) (cs:=B.cells.toArray) (t:=36) (by simp) (i:=1) tF.out
  by_cases fp:0<k
  · obtain⟨k1,rfl⟩:∃k1,k=k1+1:=⟨k-1,by omega⟩
    (obtain rfl:z=(k1:Int):=by omega);obtain⟨x,b,HE,rfl,cy,cP⟩:=at9 rR fF HF.out.below (show k1<n1 by omega);have y8:wr.cell? ⟨b,k1*18+8,none⟩=some (.int .i64 x.item):=cP 8 (.int .i64 x.item) rfl;have cO:=fF.out.2;(have z1:(0:Int)≤(k1:Int):=by omega);(have z2:(k1:Int)<(n1:Int):=by omega);(have d1:decide ((0:Int)≤(k1:Int))=true:=by simp);(have wk:aQ.wrap ((k1:Int)-1)=(k1:Int)-1:=by rw[aS];omega);have kD:=hZ hk;clear cP hz fp cO
    by_cases hit:x.item=p
    · have d4:(x.item==p)=true:=by simp[hit]
      have j_:ag (ui p (l1.drop k1) k1=(k1:Int)):=hZ (by rw[abK HE.out,if_pos hit]);clear hit;go_wp2_with fail
      go_roundw
      case rel=>exact⟨k1,_,_,rfl,rfl,by have:=kD.out;omega,rfl,j_,HF⟩
      case measure=>simp[intOf]
    · have d4:(x.item==p)=false:=by simp[hit]
      have j_:ag (ui p (l1.drop k1) k1=r):=hZ (by rw[abK HE.out,if_neg hit];exact HR.out);clear hit;go_wp2_with fail
      go_roundw
      case rel=>exact⟨k1,_,_,rfl,rfl,by have:=kD.out;omega,rfl,j_,HF⟩
      case measure=>simp[intOf]
  · obtain rfl : k=0:=by omega
    (obtain rfl:z=-1:=by omega);have tq:=hZ (HF.out.has (b4,.cells jc 58 (0,0)) (by simp));have mU:=hZ (show ui p l1 0=r from HR.out);clear hz fp HR;rcases jF.out with⟨h1,h2,h3⟩|⟨r0,ev,h1,h2,h3,h4⟩
    · obtain rfl:r=-1:=mU.out.symm.trans h1
      have HH:=hZ (ay h2 h3);clear h1 h2 h3 jF
      go_wp2_with (first
       |(refine wpList_build rfl 58 #[] rfl jc (by kernel_rfl) ?_)
       | ((with_reducible refine nK rfl 58 (.tmp 4) (.tmp 33) rfl rfl b4 jc jc ?hx ?hy ?hi tq.out rfl ?h1 ?_);(case hx=>rfl);(case hy=>rfl);(case hi=>kernel_rfl);(case h1=>exact vJ _ _ _ rfl);intro V hc ht
          have HV:=hZ hc;have dI:=hZ (ht.below HF.out.below (aB _) (fun k hk=>by have:=bJ.out;omega))
          clear hc ht)
       |fail)
      refine et (vM rfl _ _ b4 jc.toList _ rfl (bl HV.out) B8 rfl (by kernel_rfl)) rfl ?_;rw[HH.out.1,HH.out.2];exact⟨_,rfl,OL.nil,dI.out⟩
    · obtain rfl :r=(r0:Int):=mU.out.symm.trans h1
      have ft:=hZ h2;have HH:=hZ (ay h3 h4);(have d3:decide ((r0:Int)<0)=false:=by simp);clear h1 h2 h3 h4 jF x1;go_wp2_with fail;clear d3;have Hi:ag (OL wr w.heap.size 33 18 af.cells (.slice none 0 0) (dc (dQ af.az af.id) (iO (l.take 0) p))):=hZ OL.nil
      go_loopw [7,8] (fun ov v wr=> ∃(i:Nat) (A7:Option Addr) (m c7:Nat) (out:List af),v=.int .i64 (i:Int)∧ov=.slice A7 m c7∧i≤n∧ag (dc (dQ af.az af.id) (iO (l.take i) p)=out)∧m≤i∧ag (OL wr w.heap.size 33 18 af.cells (.slice A7 m c7) out)∧ag (At w wr [(b4,.cells jc 58 (0,0)),(b0,.cells B.cells.toArray 36 (0,0))])) (fun _ v _=>n-(intOf v).toNat)
      case atStart=>exact⟨0,none,0,0,_,rfl,rfl,ei _,hZ rfl,aB _,Hi,HF⟩
      case round =>
       clear HF Hi;obtain⟨i,A7,m,c7,out,rfl,rfl,hi,j',wV,HO,HF⟩:=hrel;have x3:wr.cell? ⟨b0,0,none⟩=some (.slice A n c):=HF.out.cell (b:=b0) (cs:=B.cells.toArray) (t:=36) (by simp) (i:=0) HX.out;have dC:ag (out.length=m):=hZ HO.out.len.1.symm
       by_cases ar:i<n
       · obtain ⟨x, b,HE,rfl,cy,cP⟩:=at9 HA HN HF.out.below ar
         have cX:=hZ cP;have aL:=hZ ar;(have d1:decide (i<n)=true:=by simp[ar]);(have z1:(0:Int)≤(i:Int):=by omega);(have z2:(i:Int)<(n:Int):=by omega);have wk:=nx ⟨ar,HN.out.2⟩;have HM:ag (m≤i∧i<n∧n≤1000000):=hZ ⟨wV,ar,HN.out.2⟩;obtain⟨q,hq⟩:=oQ ((x.item !=p));have Wg:=hZ hq;clear cP ar wV;cases q
         all_goals
          go_wp2_with (first
           |(with_reducible refine lx (.tmp 44) b (i*18) cX.out (IE _).out bk ?_)
           | ((with_reducible refine oh rfl (.tmp 9) (.tmp 45) rfl rfl x ?hx ?hy (IS _).out ?hold ?_);(case hx=>rfl);(case hy=>rfl);(case hold=>rfl);intro wi he hb hs
              obtain⟨be,fS⟩:=oQ (wr.heap.size);rw[fS] at he⊢;have y8:=he.cell (i:=8) rfl;have x_:=hZ he;have GY:=hZ hb
              clear he hb hs fS)
           |fail)
          have r_:=hZ (HO.out.below GY.out (aB _));have oz:=hZ (HF.out.step GY.out);clear HO HF x3 d1 hq
         · have i' :ag (x.item=p):=hZ (by have:=Wg.out;simpa using this)
           have uI:ag (Below wi.heap.size wi wi):=hZ (Below.refl _ _)
           go_loopw [10] (fun kv wr=> ∃k:Nat,kv=.int .i64 (k:Int)∧k≤m∧ag (∀j y,k≤j→out[j]?=some y→(dQ af.az af.id) x y=true)∧ag (Below wi.heap.size wi wr)) (fun v _=>(intOf v).toNat)
           case atStart=>exact⟨m,rfl,aB _,hZ fun j y hj hy=>(by have:=(dL.1 hy).1;have:=dC.out;omega),uI⟩
           case round=>
            clear uI;obtain⟨k,rfl,hk,HK,aG⟩:=hrel
            by_cases fp:0<k
            · obtain⟨k1,fJ⟩:=oQ (k-1)
              obtain⟨g,cg,e1,hg,f_,tV,yN⟩:=r_.out.form (by have:=dC.out;omega);(obtain rfl:A7=some ⟨g,0,none⟩:=by injection e1);obtain⟨y,hy⟩:∃y,out[k1]?=some y:=⟨_,bp (by have:=dC.out;omega)⟩;have HY:=hZ hy;have Sk:=(r_.out.below aG.out (aB _)).row hy;have yk5:wr.cell? ⟨g,k1*18+5,none⟩=some (.int .i64 y.az):=Sk 5 _ rfl;have T5:wr.cell? ⟨g,k1*18+1,none⟩=some (.int .i64 y.id):=Sk 1 _ rfl;have ys5:wr.cell? ⟨be,5,none⟩=some (.int .i64 x.az):=(x_.out.below aG.out).cell (i:=5) rfl;have T6:wr.cell? ⟨be,1,none⟩=some (.int .i64 x.id):=(x_.out.below aG.out).cell (i:=1) rfl;have tW:=HM.out;(have TS:aQ.wrap ((k:Int)-1)=(k1:Int):=by rw[aS];omega);(have z3:(0:Int)≤(k1:Int):=by omega);(have z4:(k1:Int)<(m:Int):=by omega);(have d2:decide (0<k)=true:=by simp[fp]);obtain⟨q1,jL⟩:=oQ (decide (x.az<y.az));obtain⟨q2,kQ⟩:=oQ ((y.az==x.az));obtain⟨q3,vw⟩:=oQ (decide (x.id<y.id));have He:ag ((dQ af.az af.id) x y=(q1||(q2&&q3))):=hZ (by rw[←jL,←kQ,←vw,show(y.az==x.az)=decide (x.az=y.az) from by rw[show(y.az==x.az)=decide (y.az=x.az) from rfl];congr 1;exact propext eq_comm];rfl);have fR:ag (k1+1=k):=hZ (by omega);clear fJ e1 hg f_ tV yN hy tW fp Sk;cases q1<;>cases q2<;>cases q3
              all_goals
               go_wp2_with fail
               go_quiet (fail)
               rename_i nq
               obtain⟨W1,b_⟩:=oQ (wr.drewN nq);have lI:ag (Below wi.heap.size wi W1):=hZ (by rw[←b_];exact aG.out.trans (qD _ _ _));rw[b_];clear b_ aG;clear T5 yk5 T6 ys5
              iterate 3
               · have fw:ag (∀z,0<k→out[k-1]?=some z→(dQ af.az af.id) x z=false):=hZ fun z _ hz=>(by have:=fR.out;rw[show k-1=k1 by omega,HY.out] at hz;cases hz;exact He.out)
                 have dW:ag (k≤m∧m≤1000000∧(out.take k).length=k∧(out.drop k).length=m-k):=hZ (by have:=HM.out;have:=dC.out;rw[gD,pP];omega);have kE:=hZ (r_.out.below lI.out (aB _))
                 go_wp2_with (first
                  |((with_reducible refine BV rfl rfl (.tmp 90) (.tmp 91) (.tmp 89) (.tmp 92) 25 rfl rfl mZ (fun _=>rfl) ma kE.out ?h1 k dW.out.1 ?hx ?hk ?hv ?hy ?_);(case h1=>exact⟨dW.out.2.1,by decide⟩);(case hx=>rfl);(case hk=>rfl);(case hv=>rfl);(case hy=>rfl);intro v1 V1 h1 aq;have cA:=hZ h1;have aF:=hZ aq;have kF:=hZ (bl (cs:=x.cells) ((x_.out.below lI.out).below aq));clear h1 aq)
                  |(with_reducible refine lx (.tmp 9) be 0 kF.out (IE _).out bk ?_)
                  |((with_reducible refine sT rfl rfl (.tmp 95) (.tmp 94) (.tmp 96) 25 rfl rfl mZ ?h1 x rfl ?h2 x.val ?hx ?hr v1 (out.take k) k ?h3 W1.heap.size aF.out.size cA.out ?hv ?hy ?_);(case h1=>decide);(case h2=>exact ma _);(case hr=>exact fun w=>zx w _);(case h3=>(have:=dW.out;omega));(case hx=>rfl);(case hv=>rfl);(case hy=>rfl);intro A2 c2 V2 h2 aA;have cI:=hZ h2;have aG:=hZ (aF.out.trans aA);have gL:=hZ (kE.out.below aG.out (aB _));clear h2 aA)
                  |((with_reducible refine BW rfl rfl (.tmp 99) (.tmp 100) (.tmp 98) (.tmp 101) 25 rfl rfl mZ (fun _=>rfl) ma gL.out ?h1 k dW.out.1 ?hx ?hk (.slice A2 (k+1) c2) (out.take k++[x]) (m+1) ?h3 W1.heap.size aG.out.size cI.out ?hv ?hy ?_);(case h1=>exact⟨dW.out.2.1,by decide⟩);(case h3=>(have:=dW.out;rw[eV];simp only[uy];omega));(case hx=>rfl);(case hk=>rfl);(case hv=>rfl);(case hy=>rfl);intro A3 c3 V3 h3 aK;have mu:=hZ h3;have a_:=hZ (aG.out.trans aK);clear h3 aK)
                  |fail)
                 have Cx:ag (dc (dQ af.az af.id) (iO (l.take (i+1)) p)=(out.take k++[x])++out.drop k):=hZ (by rw[Xo HE.out i'.out,Nr,j'.out,←MH (EZ _ _) (by rw[←j'.out];exact zC (EZ _ _) _) (by have:=dW.out;have:=dC.out;omega) fw.out HK.out];simp);have rW:=hZ (oz.out.step lI.out)
                 go_roundw
                 case rel=>exact⟨i+1,A3,_,c3,_,rfl,rfl,aL.out,Cx,by have:=HM.out;omega,hZ (mu.out.base rW.out.below.size),hZ (rW.out.step a_.out)⟩
                 case measure=>simp[intOf];have:=aL.out;omega
              iterate 5
               · have qM:ag (∀j y,k1≤j→out[j]?=some y→(dQ af.az af.id) x y=true):=hZ fun j z hj hz=>(by
                  rcases fB k1 j with h|h
                  · exact HK.out j z (by have:=fR.out;omega) hz
                  · obtain rfl:j=k1:=by omega
                    rw[HY.out] at hz;cases hz;exact He.out)
                 go_wp2_with fail
                 go_roundw
                 case rel=>exact⟨k1,rfl,by have:=fR.out;omega,qM,lI⟩
                 case measure=>simp[intOf];have:=fR.out;omega
            · obtain rfl:k=0:=by omega
              (have d2:decide ((0:Int)<((0:Nat):Int))=false:=by decide);have fw:ag (∀z,0<0→out[0-1]?=some z→(dQ af.az af.id) x z=false):=hZ fun z h=>absurd h (by decide);go_wp2_with fail
              go_quiet (fail)
              rename_i nq
              obtain⟨W1,b_⟩:=oQ (wr.drewN nq);have lI:ag (Below wi.heap.size wi W1):=hZ (by rw[←b_];exact aG.out.trans (qD _ _ _));rw[b_];clear b_ aG;have dW:ag (0≤m∧m≤1000000∧(out.take 0).length=0∧(out.drop 0).length=m-0):=hZ (by have:=HM.out;have:=dC.out;rw[gD,pP];omega);have kE:=hZ (r_.out.below lI.out (aB _))
              go_wp2_with (first
               |((with_reducible refine BV rfl rfl (.tmp 90) (.tmp 91) (.tmp 89) (.tmp 92) 25 rfl rfl mZ (fun _=>rfl) ma kE.out ?h1 0 dW.out.1 ?hx ?hk ?hv ?hy ?_);(case h1=>exact⟨dW.out.2.1,by decide⟩);(case hx=>rfl);(case hk=>rfl);(case hv=>rfl);(case hy=>rfl);intro v1 V1 h1 aq;have cA:=hZ h1;have aF:=hZ aq;have kF:=hZ (bl (cs:=x.cells) ((x_.out.below lI.out).below aq));clear h1 aq)
               |(with_reducible refine lx (.tmp 9) be 0 kF.out (IE _).out bk ?_)
               |((with_reducible refine sT rfl rfl (.tmp 95) (.tmp 94) (.tmp 96) 25 rfl rfl mZ ?h1 x rfl ?h2 x.val ?hx ?hr v1 (out.take 0) 0 ?h3 W1.heap.size aF.out.size cA.out ?hv ?hy ?_);(case h1=>decide);(case h2=>exact ma _);(case hr=>exact fun w=>zx w _);(case h3=>(have:=dW.out;omega));(case hx=>rfl);(case hv=>rfl);(case hy=>rfl);intro A2 c2 V2 h2 aA;have cI:=hZ h2;have aG:=hZ (aF.out.trans aA);have gL:=hZ (kE.out.below aG.out (aB _));clear h2 aA)
               |((with_reducible refine BW rfl rfl (.tmp 99) (.tmp 100) (.tmp 98) (.tmp 101) 25 rfl rfl mZ (fun _=>rfl) ma gL.out ?h1 0 dW.out.1 ?hx ?hk (.slice A2 (0+1) c2) (out.take 0++[x]) (m+1) ?h3 W1.heap.size aG.out.size cI.out ?hv ?hy ?_);(case h1=>exact⟨dW.out.2.1,by decide⟩);(case h3=>(have:=dW.out;rw[eV];simp only[uy];omega));(case hx=>rfl);(case hk=>rfl);(case hv=>rfl);(case hy=>rfl);intro A3 c3 V3 h3 aK;have mu:=hZ h3;have a_:=hZ (aG.out.trans aK);clear h3 aK)
               |fail)
              have Cx:ag (dc (dQ af.az af.id) (iO (l.take (i+1)) p)=(out.take 0++[x])++out.drop 0):=hZ (by rw[Xo HE.out i'.out,Nr,j'.out,←MH (EZ _ _) (by rw[←j'.out];exact zC (EZ _ _) _) (by have:=dW.out;have:=dC.out;omega) fw.out HK.out];simp);have rW:=hZ (oz.out.step lI.out)
              go_roundw
              case rel=>exact⟨i+1,A3,_,c3,_,rfl,rfl,aL.out,Cx,by have:=HM.out;omega,hZ (mu.out.base rW.out.below.size),hZ (rW.out.step a_.out)⟩
              case measure=>simp[intOf];have:=aL.out;omega
         · have i':ag (x.item≠p):=hZ (by have:=Wg.out;simpa using this)
           have yi:ag (dc (dQ af.az af.id) (iO (l.take (i+1)) p)=out):=hZ (by rw[ahP HE.out i'.out];exact j'.out)
           go_roundw
           case rel=>exact⟨i+1,A7,m,c7,out,rfl,rfl,aL.out,yi,by have:=HM.out;omega,r_,oz⟩
           case measure=>simp[intOf];have:=aL.out;omega
       · have d1:decide (i<n)=false:=by simp;omega
         have G':ag (dc (dQ af.az af.id) (iO l p)=out):=hZ (by rw[←j'.out,eE (by have:=HN.out.1;omega)]);have Pa:ag (m≤31):=hZ (by have:=dC.out;rw[←G'.out,(xt _).length_eq] at this;have:=H31.out;omega);obtain⟨e1,b1,cW,rfl,apJ,za⟩:=at9 rR fF HF.out.below (show r0<n1 from by rw[←fF.out.1];exact(dL.1 ft.out).1);(obtain rfl:e1=ev:=by have:=cW.out;rw[ft.out] at this;exact(Option.some.inj this).symm);have x1:wr.cell? ⟨b0,1,none⟩=some (.slice (some ⟨b1,0,none⟩) n1 c1):=HF.out.cell (b:=b0) (cs:=B.cells.toArray) (t:=36) (by simp) (i:=1) tF.out;have Gn:=za 15 (.string e1.rn) rfl;have Gp:=za 16 (.string e1.rd) rfl;have ajZ:=Pa.out;(have zL:aQ.wrap ((m:Int)-64)=(m:Int)-64:=by rw[aS];omega);(have hmx:max 0 ((m:Int)-64)=0:=by omega);(have z1:(0:Int)≤(r0:Int):=by omega);(have z2:(r0:Int)<(n1:Int):=by have:=fF.out;have:=(dL.1 ft.out).1;omega);clear za ajZ;obtain⟨wi,uc⟩:=oQ (wr);rw[uc] at HO HF x1 x3 Gn Gp⊢;clear uc
         go_wp2_with (first
          |(refine wpList_build rfl 58 #[(0,.tmp 108)] rfl #[.string e1.rn,.string e1.rd,.slice none 0 0] (by kernel_rfl) ?_)
          | ((with_reducible refine nK rfl 58 (.tmp 12) (.tmp 109) rfl rfl wi.heap.size #[.string e1.rn,.string e1.rd,.slice none 0 0] jc ?hx ?hy ?hi (bG _ _) ?ho ?h1 ?_);(case hx=>rfl);(case hy=>rfl);(case hi=>kernel_rfl);(case ho=>rfl);(case h1=>exact vJ _ _ _ rfl);intro w9 jl lB
             have cZ:Below wi.heap.size wi w9:=lB.below (aY wi _) (aB _) (fun k hk=>by omega);obtain⟨bh,Mg⟩:=oQ (wi.heap.size);rw[Mg] at jl cZ⊢;have wb:=hZ jl;have eK:=hZ cZ;have Et:=hZ Mg
             clear jl lB cZ Mg)
          |fail)
         clear x1 x3 Gn Gp zL hmx z1 z2 d1;obtain⟨ev,hev⟩:=oQ (e1);rw[hev] at wb HH⊢
         go_loopw [13] (fun vi wr=> ∃(k:Nat) (v:ai),vi=.int .i64 (k:Int)∧k≤m∧ag (wr.heap[bh]?=some (.cells #[.string ev.rn,.string ev.rd,v] 58 (0,0)))∧ag (OL wr (bh+1) 86 5 fK v ((out.take k).map fP))∧ag (Below bh wi wr)) (fun vi _=>m-(intOf vi).toNat)
         case atStart=>exact⟨0,_,rfl,ei _,wb,hZ OL.nil,eK⟩
         case round=>
          obtain⟨k,v,rfl,hk,lJ,iA,cy⟩:=hrel
          by_cases dR:k<m
          · obtain⟨g,cg,e1,hg,f_,tV,yN⟩:=HO.out.form (by have:=dC.out;omega)
            (obtain rfl:A7=some ⟨g,0,none⟩:=by injection e1);obtain⟨e,he⟩:∃e,out[k]?=some e:=⟨_,bp (by have:=dC.out;omega)⟩;have cL:=HO.out.row he;(have DA:((out.take k).map fP).length=k:=by rw[List.length_map,gD];have:=dC.out;omega);(have eP:(out.take (k+1)).map fP=(out.take k).map fP++[fP e]:=by rw[gV,he];simp);obtain⟨A9,c9,rfl,-,-⟩:=iA.out.slice;rw[DA] at iA lJ;have wy:=hZ DA;have kI:=hZ eP;have qN:ag (k<m∧m≤31):=hZ ⟨dR,Pa.out⟩;have VW:ag (g<bh):=hZ (by have:=Et.out;omega)
            have kH:ag (∀U:ae,Below bh wi U→U.cell? ⟨g,k*18+5,none⟩=some (.int .i64 e.az)∧U.rangeAt g (k*18+11) [.string e.ln,.string e.ld,.string e.hn,.string e.hd]):=hZ fun U h2=>⟨(h2.cell (p:=⟨g,k*18+5,none⟩) VW.out).trans (cL 5 _ rfl),fun j u hu=>by
             have hj:=(dL.1 hu).1;rw[show k*18+11+j=k*18+(11+j) by omega];refine(h2.cell (p:=⟨g,k*18+(11+j),none⟩) VW.out).trans (cL (11+j) u ?_);simp only[List.length_cons,List.length_nil] at hj;obtain h|h|h|h:j=0∨j=1∨j=2∨j=3:=by omega
             all_goals subst h;exact hu⟩
            (have d1:decide (k<m)=true:=by simp[dR]);(have z1:(0:Int)≤(k:Int):=by omega);(have z2:(k:Int)<(m:Int):=by omega);have NG:aQ.wrap ((k:Int)+1)=((k+1:Nat):Int):=nx ⟨dR,by have:=Pa.out;omega⟩;have K0:ag (wr.drew.heap[bh]?=some (.cells #[.string ev.rn,.string ev.rd,.slice A9 k c9] 58 (0,0))):=hZ lJ.out;have Pm:=hZ iA.out.drew;have KX:ag (Below bh wi wr.drew):=hZ (Below.drew cy.out);have bA:ag (bh+1≤wr.drew.heap.size):=hZ (bt K0.out);clear e1 hg f_ tV yN he cL DA eP dR lJ iA cy;go_wp2_with fail;refine cJ (fun U=>U.cell? ⟨g,k*18+5,none⟩=some (.int .i64 e.az)∧U.rangeAt g (k*18+11) [.string e.ln,.string e.ld,.string e.hn,.string e.hd]) (kH.out wr.drew KX.out) fun hHeld=>?_;obtain⟨U0,en⟩:=oQ (wr.drew);rw[en] at K0 Pm KX bA hHeld⊢;clear en;have lJ:=K0;have iA:=Pm;have cy:=KX;have Et:ag (bh≤U0.heap.size):=hZ (Nat.le_of_succ_le bA.out);clear K0 Pm KX;refine bg 0 2 3 4 ?_;refine bg 5 6 7 8 ?_;refine eC 9 10 ?_;refine tl 11 rfl (yieldsIf_load_mid (by rfl) 31 (.tmp 130) rfl g (k*18+11) (by first|rfl|simp[jy]) [.string e.ln,.string e.ld,.string e.hn,.string e.hd] _ (fun w hw=>hw.2) Tryz.underlying31 rfl (by kernel_rfl)) ?_;refine tl 12 rfl (apo (by rfl) 86 #[(0,.tmp 126),(1,.tmp 131)] rfl (fK (fP e)).toArray (by kernel_rfl)) ?_;refine rd [1,13] ?_;refine rc (fun K hK=>?_) ?_
            ·
             have c1:=aJ lJ.out (i:=2) rfl;go_simp;clear c1;refine kk hK hHeld fun hHeld=>?_;clear hK K;refine rE 13 fun K hK=>?_;refine acp (by rfl) 56 (.tmp 132) (by rfl) (.agg (fK (fP e)).toArray) (by rfl) _ _ (fun w=>Tr w _) ?_;intro V7 aC Jl;have Pg:=hZ Jl;have lJ:=ak aC lJ;have iA:=hZ (iA.out.below aC (aB _));have cy:=hZ (cy.out.trans (aC.mono Et.out));have gM:=hZ aC.size;clear Jl aC;refine kk hK (kH.out _ cy.out) fun hHeld=>?_;clear hK K;refine rE 14 fun K hK=>?_;refine Ns (by rfl) (.tmp 121) (.tmp 133) 56 (by rfl) QF (.slice A9 k c9) ((out.take k).map fP) k wy.out (by rfl) iA.out (fP e) U0.heap.size (fK (fP e)).toArray (by rfl) Pg.out (by simp) rfl (fun u hu=>by simp[fK] at hu;rcases hu with rfl|rfl|rfl|rfl|rfl<;>rfl) (by have:=wy.out;have:=qN.out;unfold maxLen;omega) (by have:=wy.out;have:=qN.out;omega) (aV bA.out gM.out) ?_;intro g' fI V8 yX RB _ _ eN;have Co:ag (V8.heap[bh]?=some (.cells #[.string ev.rn,.string ev.rd,.slice A9 k c9] 58 (0,0))):=hZ ((eN.block bh (OC _)).trans lJ.out);have Hm:=hZ yX;have GZ:=hZ (cy.out.trans (eN.mono (ag3 _)));clear yX RB eN;refine kk hK (kH.out _ GZ.out) fun hHeld=>?_;clear hK K;refine tk 15 ?_;refine rE 16 fun K hK=>?_;have CX:=aJ Co.out (i:=2) rfl;have f14:=cY Co.out 2;go_simp;clear CX f14;obtain⟨V9,ly⟩:=oQ (V8.setCell ⟨bh,2,none⟩ (.slice (some ⟨g',0,none⟩) (k+1) fI));have OS:ag (V9.heap[bh]?=some (.cells #[.string ev.rn,.string ev.rd,.slice (some ⟨g',0,none⟩) (k+1) fI] 58 (0,0))):=hZ (by rw[←ly];exact S4 Co.out _);have Pk:ag (OL V9 (bh+1) 86 5 fK (.slice (some ⟨g',0,none⟩) (k+1) fI) ((out.take (k+1)).map fP)):=hZ (by rw[←ly,kI.out];exact Hm.out.keep fun q hq=>Below.heap_setCell _ _ _ _ (fun e=>by have:=(Hm.out.lt q hq).1;simp only at e;omega))
             have G0:ag (Below bh wi V9):=hZ (by rw[←ly];exact GZ.out.setCell (p:=⟨bh,2,none⟩) (aB _) _);rw[ly];clear ly;refine kk hK (kH.out _ G0.out) fun hHeld=>?_;clear hK K;refine dn ?_;clear hHeld;go_wp2_with fail
             go_roundw
             case rel=>exact⟨k+1,_,rfl,qN.out.1,OS,Pk,G0⟩
             case measure=>simp[intOf];have:=qN.out;omega
            refine dx fun K hK=>?_;refine acp (by rfl) 56 (.tmp 132) (by rfl) (.agg (fK (fP e)).toArray) (by rfl) _ _ (fun w=>Tr w _) ?_;intro V7 aC Jl;have Pg:=hZ Jl;have lJ:=ak aC lJ;have iA:=hZ (iA.out.below aC (aB _));have cy:=hZ (cy.out.trans (aC.mono Et.out));have gM:=hZ aC.size;clear Jl aC;refine kk hK (kH.out _ cy.out) fun hHeld=>?_;clear hK K;refine rE 1 fun K hK=>?_;have c1:=aJ lJ.out (i:=2) rfl;go_simp;clear c1;refine kk hK hHeld fun hHeld=>?_;clear hK K;refine rE 14 fun K hK=>?_;refine Ns (by rfl) (.tmp 121) (.tmp 133) 56 (by rfl) QF (.slice A9 k c9) ((out.take k).map fP) k wy.out (by rfl) iA.out (fP e) U0.heap.size (fK (fP e)).toArray (by rfl) Pg.out (by simp) rfl (fun u hu=>by simp[fK] at hu;rcases hu with rfl|rfl|rfl|rfl|rfl<;>rfl) (by have:=wy.out;have:=qN.out;unfold maxLen;omega) (by have:=wy.out;have:=qN.out;omega) (aV bA.out gM.out) ?_;intro g' fI V8 yX RB _ _ eN;have Co:ag (V8.heap[bh]?=some (.cells #[.string ev.rn,.string ev.rd,.slice A9 k c9] 58 (0,0))):=hZ ((eN.block bh (OC _)).trans lJ.out);have Hm:=hZ yX;have GZ:=hZ (cy.out.trans (eN.mono (ag3 _)));clear yX RB eN;refine kk hK (kH.out _ GZ.out) fun hHeld=>?_;clear hK K;refine tk 15 ?_;refine rE 16 fun K hK=>?_;have CX:=aJ Co.out (i:=2) rfl;have f14:=cY Co.out 2;go_simp;clear CX f14;obtain⟨V9,ly⟩:=oQ (V8.setCell ⟨bh,2,none⟩ (.slice (some ⟨g',0,none⟩) (k+1) fI));have OS:ag (V9.heap[bh]?=some (.cells #[.string ev.rn,.string ev.rd,.slice (some ⟨g',0,none⟩) (k+1) fI] 58 (0,0))):=hZ (by rw[←ly];exact S4 Co.out _);have Pk:ag (OL V9 (bh+1) 86 5 fK (.slice (some ⟨g',0,none⟩) (k+1) fI) ((out.take (k+1)).map fP)):=hZ (by rw[←ly,kI.out];exact Hm.out.keep fun q hq=>Below.heap_setCell _ _ _ _ (fun e=>by have:=(Hm.out.lt q hq).1;simp only at e;omega))
            have G0:ag (Below bh wi V9):=hZ (by rw[←ly];exact GZ.out.setCell (p:=⟨bh,2,none⟩) (aB _) _);rw[ly];clear ly;refine kk hK (kH.out _ G0.out) fun hHeld=>?_;clear hK K;refine dn ?_;clear hHeld;go_wp2_with fail
            go_roundw
            case rel=>exact⟨k+1,_,rfl,qN.out.1,OS,Pk,G0⟩
            case measure=>simp[intOf];have:=qN.out;omega
          · have d1:decide (k<m)=false:=by simp[dR]
            (obtain rfl:k=m:=by omega);rw[eE (by rw[dC.out];exact aB _)] at iA;have CL:ag (v.oneCell'=true):=hZ (by obtain⟨A9,c9,e9,_,_⟩:=iA.out.slice;rw[e9];rfl);have tq:=hZ (HF.out.has (b4,.cells jc 58 (0,0)) (by simp));have GX:ag (wr.heap[b4]?=some (.cells jc 58 (0,0))):=hZ ((cy.out.block b4 (by have:=Et.out;have:=bt tq.out;omega)).trans tq.out);have Hd:ag (wr.rangeAt bh 0 [.string ev.rn,.string ev.rd,v]):=hZ (bl lJ.out)
            go_wp2_with (first
             |((with_reducible refine wpList_load_mid rfl 58 (.tmp 12) rfl bh 0 ?hx [.string ev.rn,.string ev.rd,v] _ Hd.out B8 rfl ?hi ?_);(case hx=>rfl);(case hi=>kernel_rfl))
             | ((with_reducible refine nK rfl 58 (.tmp 4) (.tmp 136) rfl rfl b4 #[.string ev.rn,.string ev.rd,v] jc rfl ?hy ?hi GX.out ?ho ?h1 ?_);(case hy=>rfl);(case hi=>kernel_rfl);(case ho=>rfl);(case h1=>exact vJ _ _ _ CL.out);intro V hc ht
                have HV:=hZ hc;have Hy:=hZ ht
                clear hc ht)
             |fail)
            refine et (vM rfl _ _ b4 [.string ev.rn,.string ev.rd,v] _ rfl (bl HV.out) B8 rfl (by kernel_rfl)) rfl ?_;have YV:=bJ.out;have Mg:=Et.out;have cQ:=bt tq.out;have oO:=HF.out.below.size;rw[HH.out.1,HH.out.2,G'.out];refine⟨v,rfl,(iA.out.keep fun g hg=>Hy.out.block g (iA.out.lt g hg).2 (fun e=>by have:=(iA.out.lt g hg).1;omega)).base (by omega),Hy.out.below (HF.out.below.trans (cy.out.mono (by omega))) (aB _) (fun k hk=>by omega)⟩
theorem Yj (n:ByteArray):(n.size=0∧eU n.data.toList=n.data.toList)∨∃b:Nat,0<n.size∧(∀h:0<n.size,n[0].toNat=b)∧((b=45∧(eU n.data.toList).length+1=n.size∧B7 n.data.toList [45]=true)∨(b≠45∧eU n.data.toList=n.data.toList∧B7 n.data.toList [45]=false)):=by
 obtain⟨l,hl⟩:=oQ (n.data.toList);have iE:n.size=l.length:=by rw[←hl];exact oo.symm
 rw[hl]
 cases ga:l with
 |nil=>exact .inl ⟨by rw[iE,ga];rfl,rfl⟩
 | cons c l'=>
   have hp:0<n.size:=by rw[iE,ga];simp
   have h0:n[0]=c:=by
    have:=tI hl hp;rw[ga] at this;simpa using this.symm
   refine .inr ⟨c.toNat,hp,fun h=>by rw[h0],?_⟩
   by_cases hc:c=45
   · subst hc
     refine .inl ⟨rfl,?_,?_⟩
     · rw[vO,if_pos rfl,iE,ga];rfl
     · simp[B7]
   · refine .inr ⟨fun e=>hc (UInt8.toNat_inj.1 e),by rw[vO,if_neg hc],?_⟩
     simp only[B7,List.isPrefixOf];simp;exact fun e=>hc e.symm
theorem Tb (n d:ByteArray) (hn:n.size≤1000000) (w:ae):ax ah 194 #[.agg #[.string n,.string d]] w (cC w (mM n.data.toList d.data.toList)):=by
 have gR:d.data.toList.length=d.size:=oo;have DG:n.data.toList.length=n.size:=oo;have HB:=hZ (aY w (.cells #[.string n,.string d] 29));obtain⟨q2,kQ⟩:=oQ (decide ((d.size:Int)≤40));have vw:decide (d.size≤40)=q2:=by rw[←kQ];congr 1;exact propext (by omega)
 have key:∃q1:Bool,mM n.data.toList d.data.toList=(q1&&q2)∧((n.size=0∧q1=true)∨∃b:Nat,0<n.size∧(∀h:0<n.size,n[0].toNat=b)∧((b=45∧decide (((n.size-1:Nat):Int)≤40)=q1)∨(b≠45∧decide ((n.size:Int)≤40)=q1))):=by
  unfold mM;rw[gR,vw];rcases Yj n with⟨h1,h2⟩|⟨b,h1,h2,⟨h3,h4,-⟩|⟨h3,h4,-⟩⟩
  · exact⟨true,by rw[h2,DG,h1];rfl,.inl ⟨h1,rfl⟩⟩
  · exact⟨_,by rw[show(eU n.data.toList).length=n.size-1 by omega];congr 2;exact propext (by omega),.inr ⟨b,h1,h2,.inl ⟨h3,rfl⟩⟩⟩
  · exact⟨_,by rw[h4,DG];congr 2;exact propext (by omega),.inr ⟨b,h1,h2,.inr ⟨h3,rfl⟩⟩⟩
 obtain⟨q1,hq,hc⟩:=key;rw[hq];clear hq gR DG vw;rcases hc with⟨h1,rfl⟩|⟨b,h1,h2,⟨rfl,jL⟩|⟨hb,jL⟩⟩
 · go_enter Uv,UK
   go_wp2_with fail;go_ret;exact⟨rfl,HB.out⟩
 · have h0:=h2 h1
   (have wk:aQ.wrap ((n.size:Int)-1)=((n.size-1:Nat):Int):=by rw[aS];omega);(have d1:decide ((0:Int)<(n.size:Int))=true:=by simp;omega);clear h2;cases q1
   all_goals
    go_enter Uv,UK
    go_wp2_with fail;go_ret;exact⟨rfl,HB.out⟩
 · have h0:=h2 h1
   (have d1:decide ((0:Int)<(n.size:Int))=true:=by simp;omega);(have d3:((b:Int)==45)=false:=by simp;omega);clear h2;cases q1
   all_goals
    go_enter Uv,UK
    go_wp2_with fail;go_ret;exact⟨rfl,HB.out⟩
theorem amx (n d:ByteArray) (_hn:n.size≤1000000) (w:ae):ax ah 195 #[.agg #[.string n,.string d]] w fun e w'=> ∃z,e=.returned (.tuple #[.bool (B7 n.data.toList [45]),.bool z])∧Below w.heap.size w w':=by
 have HB:=hZ (aY w (.cells #[.string n,.string d] 29));obtain⟨z,hz⟩:=oQ ((n.toList==[48]));rcases Yj n with⟨h1,h2⟩|⟨b,h1,h2,⟨rfl,-,h3⟩|⟨hb,-,h3⟩⟩
 · have hp:B7 n.data.toList [45]=false:=by
    have:n.data.toList=[]:=agC (by rw[←h1];exact oo);rw[this];rfl
   rw[hp];clear hp h2
   go_enter Uw,UL
   go_wp2_with fail
   go_quiet (fail)
   go_wp2_with fail
   go_ret2
   exact⟨z,rfl,HB.out.trans (qD _ _ _)⟩
 · have h0:=h2 h1
   (have d1:decide ((0:Int)<(n.size:Int))=true:=by simp;omega);rw[h3];clear h2 h3
   go_enter Uw,UL
   go_wp2_with fail
   go_quiet (fail)
   go_wp2_with fail
   go_ret2
   exact⟨z,rfl,HB.out.trans (qD _ _ _)⟩
 · have h0:=h2 h1
   (have d1:decide ((0:Int)<(n.size:Int))=true:=by simp;omega);(have d3:((b:Int)==45)=false:=by simp;omega);rw[h3];clear h2 h3
   go_enter Uw,UL
   go_wp2_with fail
   go_quiet (fail)
   go_wp2_with fail
   go_ret2
   exact⟨z,rfl,HB.out.trans (qD _ _ _)⟩
theorem NF {s:ByteArray} (h:cR s.data.toList=true):∃z,s=zB z∧bC s.data.toList=z∧(dg z.natAbs).length≤200:=by
 obtain⟨h1,h2⟩:=acI h;refine⟨_,?_,rfl,by rw[LN] at h2;omega⟩;unfold zB;rw[h1]
theorem aps (n:Nat):((iu false n).toList==[49])=decide (n=1):=by
 have h1:(iu false n).data.toList=bX n:=by
  have:=Nw (n:Int);rw[decide_eq_false (show ¬(n:Int)<0 by omega)] at this;show BQ false n=bX n;have h2:BQ false ((n:Int).natAbs)=gA (n:Int):=this;unfold gA at h2;rw[if_neg (by omega)] at h2;exact h2
 rw[ByteArray.toList_eq,h1]
 by_cases h:n=1
 · subst h;decide+kernel
 · rw[decide_eq_false h,beq_eq_false_iff_ne]
   intro e;have h3:=wI n;rw[e] at h3;exact h (h3.symm.trans (by decide+kernel))
theorem J7 (n d:ByteArray) (hn:n.size≤1000000) (hd:d.size≤1000000) (w:ae):ax ah 193 #[.agg #[.string n,.string d]] w (cC w (gT n.data.toList d.data.toList)):=by
 obtain⟨v1,iF⟩:=oQ (cR n.data.toList);obtain⟨v2,gd⟩:=oQ (cR d.data.toList);have C1:=hZ (fun W=>Tt n hn W);have C2:=hZ (fun W=>Tt d hd W);rw[iF] at C1;rw[gd] at C2;have HB:=hZ (aY w (.cells #[.string n,.string d] 29));obtain⟨w0,Bz⟩:=oQ (w.alloc (.cells #[.string n,.string d] 29));obtain⟨b0,dt⟩:=oQ (w.heap.size);have HC:=hZ (bG w (.cells #[.string n,.string d] 29));rw[Bz,dt] at HC;rw[Bz] at HB;have HQ:=hZ (ay dt Bz);clear Bz dt
 by_cases hv:(v1&&v2)=false
 · have hr:gT n.data.toList d.data.toList=false:=by
    unfold gT;rw[iF,gd];cases v1<;>cases v2<;>first|rfl|(simp at hv)
   rw[hr];clear hr iF gd;cases v1<;>cases v2
   case true.true=>simp at hv
   all_goals
    clear hv
    go_enter adw,aeE
    go_upto_region 1 with(fail)
    obtain⟨q1,q2⟩:=HQ.out;rw[q1,q2];have x0:=aJ HC.out (i:=0) rfl;clear q1 q2
    go_wp2_with (first
     | (go_at_call 150;(with_reducible refine(C1.out _).mono ?_);rintro r V1 ⟨rfl,hb⟩
        have aF:=aw HB hb;have uF:=ak hb HC;have y1:=aJ uF.out (i:=1) rfl
        clear hb)
     | (go_at_call 150;(with_reducible refine(C2.out _).mono ?_);rintro r V2 ⟨rfl,hb⟩
        have aG:=aw aF hb;have tp:=ak hb uF;have u0:=aJ tp.out (i:=0) rfl;have u1:=aJ tp.out (i:=1) rfl
        clear hb)
     |fail)
    go_ret;exact⟨rfl,aG.out⟩
 · have rr:v1=true∧v2=true:=by cases v1<;>cases v2<;>first|exact⟨rfl,rfl⟩|exact absurd rfl hv
   obtain⟨rfl,rfl⟩:=rr;clear hv;obtain⟨x,rfl,hx,oc⟩:=NF iF;obtain⟨y,rfl,hy,JU⟩:=NF gd;have CC:=hZ (fun W=>show ax ah 151 #[.string (zB y),.string ⟨#[48]⟩] W (wF W (jd y 0)) from by rw[←T8];exact M3 y 0 JU (by rw[show(0:Int).natAbs=0 from rfl,lu];decide) W);have CG:=hZ (fun W=>abZ x y oc JU W);obtain⟨o,ho⟩:=oQ (jd y 0);obtain⟨g,hg⟩:=oQ (Nat.gcd x.natAbs y.natAbs);obtain⟨q1,jL⟩:=oQ (decide (0<y));obtain⟨q2,kQ⟩:=oQ (decide (g=1))
   have hr:gT (zB x).data.toList (zB y).data.toList=(q1&&q2):=by
    unfold gT;rw[iF,gd,hx,hy,jL];simp only[Bool.true_and];congr 1;rw[←kQ];exact decide_eq_decide.2 (by rw[hg])
   have do_:decide (o≤0)= !q1:=by
    rw[←ho,←jL];unfold jd
    by_cases h1:y<0
    · rw[if_pos h1,decide_eq_false (show ¬0<y by omega)];rfl
    · rw[if_neg h1]
      by_cases h2:0<y
      · rw[if_pos h2,decide_eq_true h2];rfl
      · rw[if_neg h2,decide_eq_false h2];rfl
   (have dg1:((iu false g).toList==[49])=q2:=by rw[aps,kQ]);rw[hr];rw[ho] at CC;rw[hg] at CG;clear hr ho hg jL kQ hx hy iF gd;cases q1
   all_goals
    go_enter adw,aeE
    go_upto_region 1 with(fail)
    obtain⟨q1,q2⟩:=HQ.out;rw[q1,q2];have x0:=aJ HC.out (i:=0) rfl;clear q1 q2
    go_wp2_with (first
     | (go_at_call 150;(with_reducible refine(C1.out _).mono ?_);rintro r V1 ⟨rfl,hb⟩
        have aF:=aw HB hb;have uF:=ak hb HC;have y1:=aJ uF.out (i:=1) rfl
        clear hb)
     | (go_at_call 150;(with_reducible refine(C2.out _).mono ?_);rintro r V2 ⟨rfl,hb⟩
        have aG:=aw aF hb;have tp:=ak hb uF;have u0:=aJ tp.out (i:=0) rfl;have u1:=aJ tp.out (i:=1) rfl
        clear hb)
     | (go_at_call 151;(with_reducible refine(CC.out _).mono ?_);rintro r V3 ⟨rfl,hb⟩
        have a_:=aw aG hb;have wa:=ak hb tp;have t0:=aJ wa.out (i:=0) rfl;have t1:=aJ wa.out (i:=1) rfl
        clear hb)
     | (go_at_call 153;(with_reducible refine(CG.out _).mono ?_);rintro r V4 ⟨rfl,hb⟩
        have bJ:=aw a_ hb
        clear hb)
     |fail)
    go_ret
   · exact⟨rfl,a_.out⟩
   · exact⟨rfl,bJ.out⟩
theorem aiJ {o:List Nat} (h:iy o) (hl:o=[]∨10^(o.length-1)≤dv o):dg (dv o)=o:=by
 refine XW h fun d hd=>?_;rcases hl with rfl|hl
 · cases hd
 · rintro rfl
   have bf:o≠[]:=fun e=>by subst e;cases hd
   obtain⟨m,x,rfl⟩:∃m x,o=m++[x]:=by
    rcases List.eq_nil_or_concat o with e|⟨m,x,e⟩
    · exact absurd e bf
    · exact⟨m,x,by rw[e,List.concat_eq_append]⟩
   (obtain rfl:x=0:=by simpa using hd);rw[yA] at hl;have h2:=Iv (l:=m) fun z hz=>h z (List.mem_append_left _ hz);simp[dv] at hl;omega
theorem M0 {a b o:List Nat} {i x y c d c':Nat} (h:dv o+c*10^i=dv (a.take i)+dv (b.take i)) (ho:o.length=i) (hx:a[i]?=some x∨a.length≤i∧x=0) (hy:b[i]?=some y∨b.length≤i∧y=0) (hd:d+10*c'=x+y+c):
 dv (o++[d])+c'*10^(i+1)=dv (a.take (i+1))+dv (b.take (i+1)):=by
 have e1:∀{l:List Nat} {z:Nat},(l[i]?=some z∨l.length≤i∧z=0)→dv (l.take (i+1))=dv (l.take i)+10^i*z:=fun{l z} hz=>by
  rcases hz with q|⟨q,rfl⟩
  · exact TI q
  · rw[eE (by omega),eE q];omega
 rw[e1 hx,e1 hy,yA,ho,Nat.pow_succ];have e2:dv [d]=d:=by simp[dv]
 rw[e2];have e3:10^i*d+c'*(10^i*10)=10^i*(x+y+c):=by rw[←hd,GQ];congr 1;rw[nN c',Nat.mul_assoc]
 have e4:10^i*(x+y+c)=10^i*x+10^i*y+c*10^i:=by rw[GQ,GQ,nN c]
 omega
theorem MR (x:Nat):(one nv x).length=1:=rfl
theorem MS (x:Nat):∀u∈one nv x,u.oneCell'=true:=fun u hu=>by cases fQ.1 hu;rfl
theorem am2 (a b:Nat) (v1 v2:ai) (w:ae) (h1:aX w v1 (dg a)) (h2:aX w v2 (dg b)) (ha:(dg a).length≤100000) (hb:(dg b).length≤100000):
 ax ah 222 #[v1,v2] w (OH w (a+b)):=by
 obtain⟨A,c,rfl,fX,eo,fh,hA⟩:=h1;obtain⟨B,d,rfl,fY,gQ,kO,hB⟩:=h2;have HA:=hZ hA;have HB:=hZ hB;obtain⟨n,hn⟩:=oQ ((dg a).length);obtain⟨k,hk⟩:=oQ ((dg b).length);have HN:=hZ hn;have HK:=hZ hk;rw[hn] at ha;rw[hk] at hb;rw[hn,hk];have fF:=hZ (ay ha hb);clear hn hk hA hB fX eo fh fY gQ kO ha hb
 go_enter Tryz.func222,Tryz.ntmps222
 go_wp2_with fail
 go_loopw [5,6,7] (fun v cv iv wr=> ∃(i c:Nat) (o:List Nat),iv=.int .i64 (i:Int)∧cv=.int .i64 (c:Int)∧c≤1∧i≤n+k+1∧ag ((i≤n∨i≤k)∨(i=max n k+1∧c=0∧10^(i-1)≤dv o))∧ag (o.length=i)∧ag (iy o∧dv o+c*10^i=dv ((dg a).take i)+dv ((dg b).take i))∧ag (OL wr w.heap.size 3 1 (one nv) v o)∧ag (Below w.heap.size w wr)) (fun _ _ v _=>n+k+2-(intOf v).toNat)
 case atStart=>exact⟨0,0,[],rfl,rfl,ei _,ei _,hZ (.inl (.inl (ei _))),hZ rfl,hZ ⟨fun d hd=>(by cases hd),(by simp[dv])⟩,hZ OL.nil,hZ (Below.refl _ _)⟩
 case round=>
  obtain⟨i,c,o,rfl,rfl,hc,hi,nT,HO,HI,jg,bA⟩:=hrel;have xX:=hZ (ay hc hi)
  by_cases hn:i<n<;>by_cases hk:i<k
  · have hm:i<(dg a).length:=by rw[HN.out];exact hn
    obtain⟨p,rfl,fy,gx⟩:=HA.out.get hm;unfold nv at gx;obtain⟨x,hx⟩:=oQ ((dg a)[i]);rw[hx] at gx;have HX:ag ((dg a)[i]?=some x∨(dg a).length≤i∧x=0):=hZ (.inl (by rw[←hx];exact bp hm));have xc:x<10:=p_ a x (by rw[←hx];exact Cb hm);have Jv:wr.cell? (p.add i)=some (.int .i64 x):=(bA.out.cell (p:=p.add i) (by rw[lr];exact fy)).trans gx;(have d1:decide (i<n)=true:=by simp[hn]);(have z2:(i:Int)<(n:Int):=by omega);clear gx fy hx hm;(have fT:i<(dg b).length:=by rw[HK.out];exact hk);obtain⟨q,rfl,nw,nz⟩:=HB.out.get fT;unfold nv at nz;obtain⟨y,hy⟩:=oQ ((dg b)[i]);rw[hy] at nz;have HY:ag ((dg b)[i]?=some y∨(dg b).length≤i∧y=0):=hZ (.inl (by rw[←hy];exact bp fT));have BC:y<10:=p_ b y (by rw[←hy];exact Cb fT);have Z6:wr.cell? (q.add i)=some (.int .i64 y):=(bA.out.cell (p:=q.add i) (by rw[lr];exact nw)).trans nz;(have d2:decide (i<k)=true:=by simp[hk]);(have z3:(i:Int)<(k:Int):=by omega);clear nz nw hy fT;(have z1:(0:Int)≤(i:Int):=by omega);(have w1:aQ.wrap ((i:Int)+1)=((i+1:Nat):Int):=by have:=fF.out;rw[aS];omega);obtain⟨s,hs⟩:∃s:Nat,s=c+x+y:=⟨_,rfl⟩;(have ws1:aQ.wrap ((c:Int)+(x:Int))=(c:Int)+(x:Int):=by rw[aS];omega);(have ws2:aQ.wrap ((c:Int)+(x:Int)+(y:Int))=(c:Int)+(x:Int)+(y:Int):=by rw[aS];omega);have qL:ag (i<n∨i<k):=hZ (by omega);obtain⟨dd,I'⟩:=oQ (s%10);obtain⟨cc,I9⟩:=oQ (s/10);(have r1:((c:Int)+(x:Int)+(y:Int))%10=(dd:Int):=by omega);(have r2:((c:Int)+(x:Int)+(y:Int))/10=(cc:Int):=by omega);(have hdd:dd<10:=by omega);(have lY:cc≤1:=by omega);(have vA:dd+10*cc=x+y+c:=by omega);clear hs I' I9 xc BC;have fu:ag (iy (o++[dd])∧dv (o++[dd])+cc*10^(i+1)=dv ((dg a).take (i+1))+dv ((dg b).take (i+1))):=hZ ⟨HI.out.1.app (fun z hz=>by rw[fQ.1 hz];exact hdd),M0 HI.out.2 HO.out HX.out HY.out vA⟩
    have Cv:ag ((i+1≤n∨i+1≤k)∨(i+1=max n k+1∧cc=0∧10^(i+1-1)≤dv (o++[dd]))):=hZ (.inl (by omega));clear vA hdd
    go_wp2_with (first
     |((with_reducible refine sT rfl rfl (.tmp 48) (.tmp 46) (.tmp 49) 23 rfl rfl sy ?h1 dd (MR _) ?h2 (.int .i64 (dd:Int)) ?hx ?hr _ o i ?h3 w.heap.size bA.out.size jg.out ?hv ?hy ?_);(case h1=>decide);(case h2=>exact MS _);(case hr=>exact fun w=>F8 w _);(case h3=>exact⟨HO.out,by have:=fF.out;have:=xX.out;omega⟩);(case hx=>first|rfl|exact congrArg (vU .i64) r1);(case hv=>rfl);(case hy=>rfl);intro A2 c2 W2 h2 aA;have Cy:=hZ h2;have jQ:=hZ (bA.out.trans aA);clear h2 aA)
     |fail)
    go_roundw
    case rel=>exact⟨i+1,cc,o++[dd],rfl,by first|rfl|exact congrArg (vU .i64) r2,lY,by have:=xX.out;have:=qL.out;omega,Cv,hZ (by rw[eV,HO.out];rfl),fu,Cy,jQ⟩
    case measure=>simp[intOf];have:=qL.out;omega
  · have hm:i<(dg a).length:=by rw[HN.out];exact hn
    obtain⟨p,rfl,fy,gx⟩:=HA.out.get hm;unfold nv at gx;obtain⟨x,hx⟩:=oQ ((dg a)[i]);rw[hx] at gx;have HX:ag ((dg a)[i]?=some x∨(dg a).length≤i∧x=0):=hZ (.inl (by rw[←hx];exact bp hm));have xc:x<10:=p_ a x (by rw[←hx];exact Cb hm);have Jv:wr.cell? (p.add i)=some (.int .i64 x):=(bA.out.cell (p:=p.add i) (by rw[lr];exact fy)).trans gx;(have d1:decide (i<n)=true:=by simp[hn]);(have z2:(i:Int)<(n:Int):=by omega);clear gx fy hx hm;obtain⟨y,hy⟩:∃y:Nat,y=0:=⟨_,rfl⟩;have HY:ag ((dg b)[i]?=some y∨(dg b).length≤i∧y=0):=hZ (.inr ⟨by rw[HK.out];omega,hy⟩);(have BC:y<10:=by omega);(have d2:decide (i<k)=false:=by simp[hk]);(have z1:(0:Int)≤(i:Int):=by omega);(have w1:aQ.wrap ((i:Int)+1)=((i+1:Nat):Int):=by have:=fF.out;rw[aS];omega);obtain⟨s,hs⟩:∃s:Nat,s=c+x+y:=⟨_,rfl⟩;(have ws1:aQ.wrap ((c:Int)+(x:Int))=(c:Int)+(x:Int):=by rw[aS];omega);have qL:ag (i<n∨i<k):=hZ (by omega);obtain⟨dd,I'⟩:=oQ (s%10);obtain⟨cc,I9⟩:=oQ (s/10);(have r1:((c:Int)+(x:Int))%10=(dd:Int):=by omega);(have r2:((c:Int)+(x:Int))/10=(cc:Int):=by omega);(have hdd:dd<10:=by omega);(have lY:cc≤1:=by omega);(have vA:dd+10*cc=x+y+c:=by omega);clear hs I' I9 xc BC;have fu:ag (iy (o++[dd])∧dv (o++[dd])+cc*10^(i+1)=dv ((dg a).take (i+1))+dv ((dg b).take (i+1))):=hZ ⟨HI.out.1.app (fun z hz=>by rw[fQ.1 hz];exact hdd),M0 HI.out.2 HO.out HX.out HY.out vA⟩;have Cv:ag ((i+1≤n∨i+1≤k)∨(i+1=max n k+1∧cc=0∧10^(i+1-1)≤dv (o++[dd]))):=hZ (.inl (by omega));clear vA hdd
    go_wp2_with (first
     |((with_reducible refine sT rfl rfl (.tmp 48) (.tmp 46) (.tmp 49) 23 rfl rfl sy ?h1 dd (MR _) ?h2 (.int .i64 (dd:Int)) ?hx ?hr _ o i ?h3 w.heap.size bA.out.size jg.out ?hv ?hy ?_);(case h1=>decide);(case h2=>exact MS _);(case hr=>exact fun w=>F8 w _);(case h3=>exact⟨HO.out,by have:=fF.out;have:=xX.out;omega⟩);(case hx=>first|rfl|exact congrArg (vU .i64) r1);(case hv=>rfl);(case hy=>rfl);intro A2 c2 W2 h2 aA;have Cy:=hZ h2;have jQ:=hZ (bA.out.trans aA);clear h2 aA)
     |fail)
    go_roundw
    case rel=>exact⟨i+1,cc,o++[dd],rfl,by first|rfl|exact congrArg (vU .i64) r2,lY,by have:=xX.out;have:=qL.out;omega,Cv,hZ (by rw[eV,HO.out];rfl),fu,Cy,jQ⟩
    case measure=>simp[intOf];have:=qL.out;omega
  · obtain⟨x,hx⟩:∃x:Nat,x=0:=⟨_,rfl⟩
    have HX:ag ((dg a)[i]?=some x∨(dg a).length≤i∧x=0):=hZ (.inr ⟨by rw[HN.out];omega,hx⟩);(have xc:x<10:=by omega);(have d1:decide (i<n)=false:=by simp[hn]);(have fT:i<(dg b).length:=by rw[HK.out];exact hk);obtain⟨q,rfl,nw,nz⟩:=HB.out.get fT;unfold nv at nz;obtain⟨y,hy⟩:=oQ ((dg b)[i]);rw[hy] at nz;have HY:ag ((dg b)[i]?=some y∨(dg b).length≤i∧y=0):=hZ (.inl (by rw[←hy];exact bp fT));have BC:y<10:=p_ b y (by rw[←hy];exact Cb fT);have Z6:wr.cell? (q.add i)=some (.int .i64 y):=(bA.out.cell (p:=q.add i) (by rw[lr];exact nw)).trans nz;(have d2:decide (i<k)=true:=by simp[hk]);(have z3:(i:Int)<(k:Int):=by omega);clear nz nw hy fT;(have z1:(0:Int)≤(i:Int):=by omega);(have w1:aQ.wrap ((i:Int)+1)=((i+1:Nat):Int):=by have:=fF.out;rw[aS];omega);obtain⟨s,hs⟩:∃s:Nat,s=c+x+y:=⟨_,rfl⟩;(have ws2:aQ.wrap ((c:Int)+(y:Int))=(c:Int)+(y:Int):=by rw[aS];omega);have qL:ag (i<n∨i<k):=hZ (by omega);obtain⟨dd,I'⟩:=oQ (s%10);obtain⟨cc,I9⟩:=oQ (s/10);(have r1:((c:Int)+(y:Int))%10=(dd:Int):=by omega);(have r2:((c:Int)+(y:Int))/10=(cc:Int):=by omega);(have hdd:dd<10:=by omega);(have lY:cc≤1:=by omega);(have vA:dd+10*cc=x+y+c:=by omega);clear hs I' I9 xc BC;have fu:ag (iy (o++[dd])∧dv (o++[dd])+cc*10^(i+1)=dv ((dg a).take (i+1))+dv ((dg b).take (i+1))):=hZ ⟨HI.out.1.app (fun z hz=>by rw[fQ.1 hz];exact hdd),M0 HI.out.2 HO.out HX.out HY.out vA⟩;have Cv:ag ((i+1≤n∨i+1≤k)∨(i+1=max n k+1∧cc=0∧10^(i+1-1)≤dv (o++[dd]))):=hZ (.inl (by omega));clear vA hdd
    go_wp2_with (first
     |((with_reducible refine sT rfl rfl (.tmp 48) (.tmp 46) (.tmp 49) 23 rfl rfl sy ?h1 dd (MR _) ?h2 (.int .i64 (dd:Int)) ?hx ?hr _ o i ?h3 w.heap.size bA.out.size jg.out ?hv ?hy ?_);(case h1=>decide);(case h2=>exact MS _);(case hr=>exact fun w=>F8 w _);(case h3=>exact⟨HO.out,by have:=fF.out;have:=xX.out;omega⟩);(case hx=>first|rfl|exact congrArg (vU .i64) r1);(case hv=>rfl);(case hy=>rfl);intro A2 c2 W2 h2 aA;have Cy:=hZ h2;have jQ:=hZ (bA.out.trans aA);clear h2 aA)
     |fail)
    go_roundw
    case rel=>exact⟨i+1,cc,o++[dd],rfl,by first|rfl|exact congrArg (vU .i64) r2,lY,by have:=xX.out;have:=qL.out;omega,Cv,hZ (by rw[eV,HO.out];rfl),fu,Cy,jQ⟩
    case measure=>simp[intOf];have:=qL.out;omega
  · have d1:decide (i<n)=false:=by simp[hn]
    have d2:decide (i<k)=false:=by simp[hk]
    by_cases fX:c=1
    · subst fX
      have HX:ag ((dg a)[i]?=some 0∨(dg a).length≤i∧0=0):=hZ (.inr ⟨by rw[HN.out];omega,rfl⟩);have HY:ag ((dg b)[i]?=some 0∨(dg b).length≤i∧0=0):=hZ (.inr ⟨by rw[HK.out];omega,rfl⟩);have K7:ag (i=max n k):=hZ (by rcases nT.out with h|⟨h,h2,-⟩<;>omega);have qL:ag (i<n+k+1):=hZ (by have:=K7.out;have:=xX.out;rcases nT.out with h|⟨h,h2,-⟩<;>omega);(have z1:(0:Int)≤(i:Int):=by omega);(have w1:aQ.wrap ((i:Int)+1)=((i+1:Nat):Int):=by have:=fF.out;rw[aS];omega);(have hdd:1<10:=by decide);(have lY:0≤1:=by decide);have vA:1+10*0=0+0+1:=rfl;have fu:ag (iy (o++[1])∧dv (o++[1])+0*10^(i+1)=dv ((dg a).take (i+1))+dv ((dg b).take (i+1))):=hZ ⟨HI.out.1.app (fun z hz=>by rw[fQ.1 hz];exact hdd),M0 HI.out.2 HO.out HX.out HY.out vA⟩;have Cv:ag ((i+1≤n∨i+1≤k)∨(i+1=max n k+1∧0=0∧10^(i+1-1)≤dv (o++[1]))):=hZ (.inr ⟨by have:=K7.out;omega,rfl,by rw[yA,HO.out];simp[dv]⟩);clear vA hdd
      go_wp2_with (first
       |((with_reducible refine sT rfl rfl (.tmp 48) (.tmp 46) (.tmp 49) 23 rfl rfl sy ?h1 1 (MR _) ?h2 (.int .i64 ((1:Nat):Int)) ?hx ?hr _ o i ?h3 w.heap.size bA.out.size jg.out ?hv ?hy ?_);(case h1=>decide);(case h2=>exact MS _);(case hr=>exact fun w=>F8 w _);(case h3=>exact⟨HO.out,by have:=fF.out;have:=xX.out;omega⟩);(case hx=>first|rfl|exact congrArg (vU .i64) r1);(case hv=>rfl);(case hy=>rfl);intro A2 c2 W2 h2 aA;have Cy:=hZ h2;have jQ:=hZ (bA.out.trans aA);clear h2 aA)
       |fail)
      go_roundw
      case rel=>exact⟨i+1,0,o++[1],rfl,by first|rfl|exact congrArg (vU .i64) r2,lY,by have:=xX.out;have:=qL.out;omega,Cv,hZ (by rw[eV,HO.out];rfl),fu,Cy,jQ⟩
      case measure=>simp[intOf];have:=qL.out;omega
    · obtain rfl:c=0:=by omega
      have HV:ag (dv o=a+b):=hZ (by
       have h:=HI.out.2;rw[eE (by rw[HN.out];omega),eE (by rw[HK.out];omega),mY,mY] at h
       omega)
      have HD:ag (dg (a+b)=o):=hZ (by
       rw[←HV.out];refine aiJ HI.out.1 ?_;rcases nT.out with h|⟨h,-,h2⟩
       · rcases fL i with h0|h0
         · exact .inl (agC (by rw[HO.out];exact h0))
         · refine .inr ?_
           rw[HO.out,HV.out];rcases h with h|h
           · have:=AO (n:=a) (k:=i-1)
             rw[HN.out] at this;rcases fB a (10^(i-1)) with q|q
             · have:=this q;omega
             · omega
           · have:=AO (n:=b) (k:=i-1)
             rw[HK.out] at this;rcases fB b (10^(i-1)) with q|q
             · have:=this q;omega
             · omega
       · exact .inr (by rw[HO.out];exact h2))
      go_wp2_with fail;go_ret;unfold OH;rw[HD.out];exact⟨_,rfl,aX.iW jg.out,jg.out.fresh,bA.out⟩
theorem acE (z:Int):iu (decide (z<0)) z.natAbs=zB z:=by unfold iu zB;rw[Nw]
theorem aiP (x:Int) (y:Nat) (h0:0<y):(0≤x∧iu false (x.natAbs/y)=zB (x/(y:Int))∧iu false (x.natAbs%y)=zB (x%(y:Int)))∨(x<0∧x.natAbs%y=0∧iu true (x.natAbs/y)=zB (x/(y:Int))∧iu false 0=zB (x%(y:Int)))∨(x<0∧0<x.natAbs%y∧iu true (x.natAbs/y+1)=zB (x/(y:Int))∧iu false (y-x.natAbs%y)=zB (x%(y:Int))):=by
 have hm:=rQ x.natAbs h0;have hd:=OA x.natAbs y;obtain⟨q,hq⟩:=oQ (x.natAbs/y);obtain⟨r,hr⟩:=oQ (x.natAbs%y);rw[hq,hr] at hd;rw[hr] at hm;rw[hq,hr];have hdi:(y:Int)*(q:Int)+(r:Int)=(x.natAbs:Int):=by exact_mod_cast hd
 have U:=fun(z s:Int) (h1:s+(y:Int)*z=x) (h2:0≤s) (h3:s<(y:Int))=>(Int.ediv_emod_unique (a:=x) (b:=(y:Int)) (q:=z) (r:=s) (by omega)).2 ⟨h1,h2,h3⟩
 by_cases hx:0≤x
 · obtain⟨e1,e2⟩:=U q r (by omega) (by omega) (by omega)
   refine .inl ⟨hx,?_,?_⟩
   · rw[e1];exact Ge q
   · rw[e2];exact Ge r
 · by_cases h:r=0
   · obtain⟨e1,e2⟩:=U (-(q:Int)) 0 (by rw[GI];omega) (by omega) (by omega)
     refine .inr (.inl ⟨by omega,h,?_,?_⟩)
     · have hq0:0<q:=ag7 fun e=>by subst e;simp at hdi;omega
       rw[e1,←acE,decide_eq_true (show -(q:Int)<0 by omega)]
       congr 1<;>omega
     · rw[e2];exact Ge 0
   · obtain⟨e1,e2⟩:=U (-((q:Int)+1)) ((y:Int)-r) (by rw[GI,Int.mul_add];omega) (by omega) (by omega)
     refine .inr (.inr ⟨by omega,by omega,?_,?_⟩)
     · rw[e1,←acE,decide_eq_true (show -((q:Int)+1)<0 by omega)]
       congr 1<;>omega
     · rw[e2,show(y:Int)-r=((y-r:Nat):Int) by omega];exact Ge (y-r)
theorem abP (x:Int) (y:Nat) (h0:0<y) (hx:(dg x.natAbs).length≤200) (hy:(dg y).length≤200) (w:ae):ax ah 154 #[.string (zB x),.string (zB (y:Int))] w (fun e w'=>e=.returned (.tuple #[.string (zB (x/(y:Int))),.string (zB (x%(y:Int))),.int .i64 0])∧Below w.heap.size w w'):=by
 have jt:(dg (y:Int).natAbs).length≤200:=hy;have V1:=hZ (fun w=>xx hx w);have V2:=hZ (fun w=>xx jt w);have D1:=hZ (fun w=>BK x (zB x) rfl hx w);have D2:=hZ (fun w=>BK (y:Int) (zB (y:Int)) rfl jt w);have sA:=NM h0;have DF:=rQ x.natAbs h0;have ki:=hZ hy;have HO:=hZ (fun v1 v2 W (h1:aX W v1 (dg x.natAbs)) (h2:aX W v2 (dg y))=>S' x.natAbs y h0 v1 v2 W h1 h2 (by omega) (by omega));have hW:=aiP x y h0;have hq:(dg (x.natAbs/y)).length≤200:=aV (yz (Nat.div_le_self _ _)) hx
 have jL:0<x.natAbs%y→(dg (x.natAbs/y+1)).length≤200:=fun h=>aV (yz (by
  have h2:2≤y:=by omega
  have h3:=OA x.natAbs y;have h4:2*(x.natAbs/y)≤y*(x.natAbs/y):=Nat.mul_le_mul_right _ h2
  omega)) hx
 obtain⟨s,hs⟩:=oQ (zB x);obtain⟨t,ht⟩:=oQ (zB (y:Int));obtain⟨q,DM⟩:=oQ (x.natAbs/y);obtain⟨r,hr⟩:=oQ (x.natAbs%y);rw[DM,hr] at hW HO jL;rw[DM] at hq;rw[hr] at DF;rw[hs] at V1 D1⊢;rw[ht] at V2 D2 sA⊢;unfold Ep at D1 D2;rw[decide_eq_false (show ¬(y:Int)<0 by omega)] at D2;have HQ:=hZ hq;have Lq:=hZ (uz DF);have nA:∀m,m≤y→(dg m).length≤1000:=fun m h=>by have:=yz h;omega
 obtain⟨k,hk⟩:=oQ ((dg r).length);have OY:=hZ hk;obtain⟨X,hX⟩:=oQ (zB (x/(y:Int)));obtain⟨Y,hY⟩:=oQ (zB (x%(y:Int)));rw[hX,hY] at hW⊢;clear hX hY;rcases hW with⟨q1,e1,e2⟩|⟨q1,q2,e1,e2⟩|⟨q1,q2,e1,e2⟩
 · have fG:=hZ (nA r (uz DF))
   have E1:=hZ e1;have E2:=hZ e2;clear hx hy jt hs ht hq jL hr DM h0 DF nA hk e1 e2;(have q1:¬x<0:=by omega);rw[decide_eq_false q1] at D1;clear q1
   go_enter Ku,KA
   go_wp2_with (first
    |(go_at_call 150;refine(V1.out w).mono ?_;rintro e w1 ⟨rfl,hb⟩;have fj:=hZ (hb);clear hb V1)
    |(go_at_call 150;refine(V2.out w1).mono ?_;rintro e w2 ⟨rfl,hb⟩;have eL:=aw fj hb;clear hb V2 fj)
    |(go_at_call 217;refine(D1.out w2).mono ?_;rintro e w3 ⟨v1,rfl,hv,-,hb⟩;have cA:=hZ hv;have gE:=aw eL hb;clear hb hv D1 eL)
    |(go_at_call 217;refine(D2.out w3).mono ?_;rintro e w4 ⟨v2,rfl,hv,-,hb⟩;have cI:=hZ hv;have cA:=hZ (cA.out.below hb);have ia:=aw gE hb;clear hb hv D2 gE)
    |(go_at_call 220;(refine(HO.out v1 v2 w4 cA.out cI.out).mono ?_);rintro e w5 ⟨vq,vr,rfl,hq,hr,-,-,hb⟩;have pY:=hZ hq;have iB:=hZ hr;have cI:=hZ (cI.out.below hb);have lh:=aw ia hb;obtain⟨Ar,cr,rfl,-⟩:=hr;clear hb hq ia;rw[OY.out] at iB⊢)
    |(go_at_call 221;refine(F4 false _ vq w5 pY.out HQ.out).mono ?_;rintro e w6 ⟨rfl,hb⟩;have iB:=hZ (iB.out.below hb);have nV:=aw lh hb;clear hb lh)
    |(go_at_call 155;refine(BM false _ _ w6 iB.out fG.out).mono ?_;rintro e w7 ⟨rfl,hb⟩;have H_:=aw nV hb;clear hb nV)
    |fail)
   rw[←E1.out,←E2.out];refine et (v:=.tuple #[_,_,_]) (by simp[results]) rfl ⟨rfl,H_.out⟩
 · have fG:=hZ (nA r (uz DF))
   obtain rfl:r=0:=q2;(obtain rfl:k=0:=by rw[←hk,lu];rfl);have E1:=hZ e1;have E2:=hZ e2;clear hx hy jt hs ht hq jL hr DM h0 DF nA hk e1 e2;rw[decide_eq_true q1] at D1;clear q1
   go_enter Ku,KA
   go_wp2_with (first
    |(go_at_call 150;refine(V1.out w).mono ?_;rintro e w1 ⟨rfl,hb⟩;have fj:=hZ (hb);clear hb V1)
    |(go_at_call 150;refine(V2.out w1).mono ?_;rintro e w2 ⟨rfl,hb⟩;have eL:=aw fj hb;clear hb V2 fj)
    |(go_at_call 217;refine(D1.out w2).mono ?_;rintro e w3 ⟨v1,rfl,hv,-,hb⟩;have cA:=hZ hv;have gE:=aw eL hb;clear hb hv D1 eL)
    |(go_at_call 217;refine(D2.out w3).mono ?_;rintro e w4 ⟨v2,rfl,hv,-,hb⟩;have cI:=hZ hv;have cA:=hZ (cA.out.below hb);have ia:=aw gE hb;clear hb hv D2 gE)
    |(go_at_call 220;(refine(HO.out v1 v2 w4 cA.out cI.out).mono ?_);rintro e w5 ⟨vq,vr,rfl,hq,hr,-,-,hb⟩;have pY:=hZ hq;have iB:=hZ hr;have cI:=hZ (cI.out.below hb);have lh:=aw ia hb;obtain⟨Ar,cr,rfl,-⟩:=hr;clear hb hq ia;rw[OY.out] at iB⊢)
    |(go_at_call 221;refine(F4 true _ vq w5 pY.out HQ.out).mono ?_;rintro e w6 ⟨rfl,hb⟩;have iB:=hZ (iB.out.below hb);have nV:=aw lh hb;clear hb lh)
    |(go_at_call 155;refine(BM false _ _ w6 iB.out fG.out).mono ?_;rintro e w7 ⟨rfl,hb⟩;have H_:=aw nV hb;clear hb nV)
    |fail)
   rw[←E1.out,←E2.out];refine et (v:=.tuple #[_,_,_]) (by simp[results]) rfl ⟨rfl,H_.out⟩
 · have fG:=hZ (nA (y-r) (Nat.sub_le _ _))
   have Le:=hZ (jL q2);(have dk:decide (0<k)=true:=by rw[←hk];simp;exact ag7 fun e=>by have:=LO.1 (by rw[e]);omega);have E1:=hZ e1;have E2:=hZ e2;clear hx hy jt hs ht hq jL hr DM h0 DF nA hk e1 e2;rw[decide_eq_true q1] at D1;clear q1
   go_enter Ku,KA
   go_wp2_with (first
    |(go_at_call 150;refine(V1.out w).mono ?_;rintro e w1 ⟨rfl,hb⟩;have fj:=hZ (hb);clear hb V1)
    |(go_at_call 150;refine(V2.out w1).mono ?_;rintro e w2 ⟨rfl,hb⟩;have eL:=aw fj hb;clear hb V2 fj)
    |(go_at_call 217;refine(D1.out w2).mono ?_;rintro e w3 ⟨v1,rfl,hv,-,hb⟩;have cA:=hZ hv;have gE:=aw eL hb;clear hb hv D1 eL)
    |(go_at_call 217;refine(D2.out w3).mono ?_;rintro e w4 ⟨v2,rfl,hv,-,hb⟩;have cI:=hZ hv;have cA:=hZ (cA.out.below hb);have ia:=aw gE hb;clear hb hv D2 gE)
    |(go_at_call 220;(refine(HO.out v1 v2 w4 cA.out cI.out).mono ?_);rintro e w5 ⟨vq,vr,rfl,hq,hr,-,-,hb⟩;have pY:=hZ hq;have iB:=hZ hr;have cI:=hZ (cI.out.below hb);have lh:=aw ia hb;obtain⟨Ar,cr,rfl,-⟩:=hr;clear hb hq ia;rw[OY.out] at iB⊢)
    |(go_at_call 222;refine(am2 q 1 vq (.slice (some ⟨w5.heap.size,0,none⟩) 1 1) _ (pY.out.below (aY _ _)) (by have h:=aa1 w5 [1] (by decide) (by decide);rw[show dg 1=[1] from by rw[nX (by decide),lu]];exact h) (by have:=HQ.out;omega) (by rw[show dg 1=[1] from by rw[nX (by decide),lu]];decide)).mono ?_;rintro e w6 ⟨vp,rfl,hp,-,hb⟩;have dM:=hZ ((aY w5 _).trans (hb.mono (aY w5 _).size));have PV:=hZ hp;have iB:=hZ (iB.out.below dM.out);have cI:=hZ (cI.out.below dM.out);have nV:=hZ (lh.out.trans (dM.out.mono lh.out.size));clear hb hp lh)
    |(go_at_call 223;refine(ab0 y r Lq.out v2 _ w6 cI.out iB.out (by have:=ki.out;omega)).mono ?_;rintro e w7 ⟨vm,rfl,hp,-,hb⟩;have H9:=hZ hp;have PV:=hZ (PV.out.below hb);have EJ:=aw nV hb;clear hb hp nV)
    |(go_at_call 221;refine(F4 true _ vp w7 PV.out Le.out).mono ?_;rintro e w8 ⟨rfl,hb⟩;have H9:=hZ (H9.out.below hb);have EK:=aw EJ hb;clear hb EJ)
    |(go_at_call 155;refine(BM false (y-r) _ w8 H9.out fG.out).mono ?_;rintro e w9 ⟨rfl,hb⟩;have H_:=aw EK hb;clear hb EK)
    |fail)
   rw[←E1.out,←E2.out];refine et (v:=.tuple #[_,_,_]) (by simp[results]) rfl ⟨rfl,H_.out⟩
theorem T7 (n:Nat):((zB (n:Int)).toList==[48])=decide (n=0):=by
 rcases fL n with rfl|h
 · rw[show((0:Nat):Int)=0 from rfl,T8];decide+kernel
 · rw[NM h,decide_eq_false (by omega)]
theorem apr:zB 1=⟨#[49]⟩:=by unfold zB gA;rw[if_neg (by decide)];decide+kernel
theorem abV (n:Nat) (w:ae):ax ah 262 #[.string (zB (n:Int))] w fun e w'=>e=.returned (.string (zB (if n=0 then 0 else 1)))∧w'=w:=by
 have h:=T7 n
 by_cases h0:n=0
 · rw[decide_eq_true h0] at h
   rw[if_pos h0,show zB 0=zB (n:Int) from by rw[h0];rfl];obtain⟨s,hs⟩:=oQ (zB (n:Int));rw[hs] at h⊢;clear hs h0
   go_enter adK,aeO
   go_wp2_with fail;go_ret;exact⟨rfl,rfl⟩
 · rw[decide_eq_false h0] at h
   rw[if_neg h0,apr];obtain⟨s,hs⟩:=oQ (zB (n:Int));rw[hs] at h⊢;clear hs h0
   go_enter adK,aeO
   go_wp2_with fail;go_ret;exact⟨rfl,rfl⟩
theorem alQ (x y:Int):jd x y=jj x y:=by
 rcases Int.lt_trichotomy x y with h|h|h
 · rw[AI h];unfold jd;rw[if_pos h]
 · rw[CZ h];unfold jd;rw[if_neg (by omega),if_neg (by omega)]
 · rw[AH h];unfold jd;rw[if_neg (by omega),if_pos h]
theorem apy (r s:Nat):jd (if r=0 then 0 else 1) (if s=0 then 0 else 1)=if (r:Int)=0∧(s:Int)=0 then 0 else if (r:Int)=0 then -1 else if (s:Int)=0 then 1 else 0:=by
 by_cases h:r=0<;>by_cases k:s=0<;>simp[h,k,jd]
def MQ:ai→Nat
 |.string s=>(bC s.data.toList).natAbs
 |_=>0
def lj (n:Nat):Prop:=(dg n).length≤200
theorem lj.le {m n:Nat} (h:lj n) (hm:m≤n):lj m:=aV (yz hm) h
theorem abl {b:Nat} (h:lj b):MQ (.string (zB (b:Int)))=b:=by
 show(bC (gA (b:Int))).natAbs=b;rw[(Nv (z:=(b:Int)) (Qz h)).2];rfl
theorem amm (a c:Int) (b d:Nat) (hb:0<b) (hd:0<d) (h1:lj a.natAbs) (h2:lj b) (h3:lj c.natAbs) (h4:lj d) (v1:gT (zB a).data.toList (zB (b:Int)).data.toList=true) (v2:gT (zB c).data.toList (zB (d:Int)).data.toList=true) (w:ae)
 (z1:(zB a).size≤1000000) (z2:(zB (b:Int)).size≤1000000) (z3:(zB c).size≤1000000) (z4:(zB (d:Int)).size≤1000000):
 ax ah 239 #[.agg #[.string (zB a),.string (zB (b:Int))],.agg #[.string (zB c),.string (zB (d:Int))]] w (wF w (jj (a*d) (c*b))):=by
 have C1:=hZ (fun W=>J7 (zB a) (zB (b:Int)) z1 z2 W);have C2:=hZ (fun W=>J7 (zB c) (zB (d:Int)) z3 z4 W);rw[v1] at C1;rw[v2] at C2;obtain⟨b2,w1,q1,q2,-,jb,aP⟩:=(At.start w).eX (.cells #[.string (zB a),.string (zB (b:Int))] 29);obtain⟨b3,w2,q3,q4,-,eZ,-⟩:=jb.eX (.cells #[.string (zB c),.string (zB (d:Int))] 29);have HQ:=hZ (ay q1 (ay (aP.symm.trans q3) (show(w.alloc (.cells #[.string (zB a),.string (zB (b:Int))] 29)).alloc (.cells #[.string (zB c),.string (zB (d:Int))] 29)=w2 by rw[q2,q4])));have HF:=hZ eZ;have HI:ag (0<b∧0<d∧lj a.natAbs∧lj b∧lj c.natAbs∧lj d):=hZ ⟨hb,hd,h1,h2,h3,h4⟩;obtain⟨Z,hZc⟩:=oQ (jj (a*d) (c*b));have HZ:ag (1*jj (a*d) (c*b)=Z):=hZ (by rw[hZc];omega);rw[hZc];clear q1 q2 q3 q4 jb eZ aP hb hd h1 h2 h3 h4 v1 v2 z1 z2 z3 z4 hZc
 go_enter Tryz.func239,Tryz.ntmps239
 go_upto_region 1 with(fail)
 obtain⟨q1,q2,q3⟩:=HQ.out;rw[q1,q2,q3];clear q1 q2 q3;have x0:=HF.out.cell (b:=b2) (cs:=#[.string (zB a),.string (zB (b:Int))]) (t:=29) (by simp) (i:=0) rfl;have x1:=HF.out.cell (b:=b2) (cs:=#[.string (zB a),.string (zB (b:Int))]) (t:=29) (by simp) (i:=1) rfl
 go_wp2_with (first
  | (go_at_call 193;(with_reducible refine(C1.out _).mono ?_);rintro r V1 ⟨rfl,hb⟩
     have au:=hZ (HF.out.step hb);have y0:=au.out.cell (b:=b3) (cs:=#[.string (zB c),.string (zB (d:Int))]) (t:=29) (by simp) (i:=0) rfl;have y1:=au.out.cell (b:=b3) (cs:=#[.string (zB c),.string (zB (d:Int))]) (t:=29) (by simp) (i:=1) rfl
     clear hb)
  | (go_at_call 193;(with_reducible refine(C2.out _).mono ?_);rintro r V2 ⟨rfl,hb⟩
     have fV:=hZ (au.out.step hb);have u0:=fV.out.cell (b:=b2) (cs:=#[.string (zB a),.string (zB (b:Int))]) (t:=29) (by simp) (i:=0) rfl;have u1:=fV.out.cell (b:=b2) (cs:=#[.string (zB a),.string (zB (b:Int))]) (t:=29) (by simp) (i:=1) rfl;have u2:=fV.out.cell (b:=b3) (cs:=#[.string (zB c),.string (zB (d:Int))]) (t:=29) (by simp) (i:=0) rfl;have u3:=fV.out.cell (b:=b3) (cs:=#[.string (zB c),.string (zB (d:Int))]) (t:=29) (by simp) (i:=1) rfl
     clear hb)
  |fail)
 have aG:=hZ fV.out.below;clear x0 x1 u0 u1 u2 u3 HF au fV C1 C2 HQ
 go_loopw [7,8,9,10,11] (fun sv nv dv mv cv wr=> ∃(sg a c:Int) (b d:Nat),sv=.int .i64 sg∧nv=.string (zB a)∧dv=.string (zB (b:Int))∧mv=.string (zB c)∧cv=.string (zB (d:Int))∧ag (sg=1∨sg=-1)∧ag (0<b∧0<d∧lj a.natAbs∧lj b∧lj c.natAbs∧lj d)∧ag (sg*jj (a*d) (c*b)=Z)∧ag (Below w.heap.size w wr)) (fun _ _ dv _ _ _=>MQ dv)
 case atStart=>exact⟨1,a,c,b,d,rfl,rfl,rfl,rfl,rfl,hZ (.inl rfl),HI,HZ,aG⟩
 case round=>
  clear HI HZ aG;obtain⟨sg,a,c,b,d,rfl,rfl,rfl,rfl,rfl,uP,HI,HZ,HB⟩:=hrel;obtain⟨dt,uZ,la,lb,lc,ld⟩:=HI.out;have D1:=hZ (fun W=>abP a b dt la lb W);have D2:=hZ (fun W=>abP c d uZ lc ld W);have e1:=ago a (b:Int);have e2:=ago c (d:Int);have r1:=agm a (show(b:Int)≠0 by omega);have r2:=agm c (show(d:Int)≠0 by omega);have m1:=agl a (show(0:Int)<(b:Int) by omega);have m2:=agl c (show(0:Int)<(d:Int) by omega);have lp:lj (a/(b:Int)).natAbs:=la.le (ags _ _);have lq:lj (c/(d:Int)).natAbs:=lc.le (ags _ _);obtain⟨p,hp⟩:=oQ (a/(b:Int));obtain⟨q,hq⟩:=oQ (c/(d:Int));obtain⟨r,hr⟩:∃r:Nat,a%(b:Int)=(r:Int):=⟨(a%(b:Int)).toNat,by omega⟩;obtain⟨s,hs⟩:∃r:Nat,c%(d:Int)=(r:Int):=⟨(c%(d:Int)).toNat,by omega⟩;rw[hp,hr] at e1 D1;rw[hq,hs] at e2 D2;rw[hr] at r1 m1;rw[hs] at r2 m2;rw[hp] at lp;rw[hq] at lq;have bS:=hZ (XI (show(0:Int)<(b:Int) by omega) (show(0:Int)<(d:Int) by omega) (show a=p*(b:Int)+(r:Int) by rw[xP];omega) r1 m1 (show c=q*(d:Int)+(s:Int) by rw[xP];omega) r2 m2);have C3:=hZ (fun W=>M3 p q lp lq W);have HL:ag (r<b∧s<d∧lj r∧lj s):=hZ ⟨by omega,by omega,lb.le (by omega),ld.le (by omega)⟩;have od:=T7 r;have l7:=T7 s;obtain⟨o,ho⟩:=oQ (jd p q);rw[ho] at C3;rw[←alQ p q,ho] at bS;have Br:o=-1∨o=0∨o=1:=by rw[←ho];unfold jd;split;exact .inl rfl;split;exact .inr (.inr rfl);exact .inr (.inl rfl)
  have wk:aQ.wrap (sg*o)=sg*o:=by rw[aS];rcases uP.out with h|h<;>rcases Br with k|k|k<;>subst h k<;>omega
  clear la lb lc ld e1 e2 r1 r2 m1 m2 lp lq hp hq hr hs ho dt uZ
  by_cases h0:o=0
  · subst h0
    clear wk Br
    by_cases sL:r=0∨s=0
    · have HR:ag (sg*jd (if r=0 then 0 else 1) (if s=0 then 0 else 1)=Z):=hZ (by
       have:=HZ.out;rw[bS.out,if_neg (by decide)] at this;rw[apy,←this]
       congr 1
       by_cases h:(r:Int)=0<;>by_cases k:(s:Int)=0<;>simp[h,k]
       omega)
      obtain⟨x,hx⟩:∃x:Int,(if r=0 then 0 else 1)=x:=⟨_,rfl⟩;obtain⟨y,hy⟩:∃x:Int,(if s=0 then 0 else 1)=x:=⟨_,rfl⟩;have Z1:=hZ (fun W=>abV r W);have Z2:=hZ (fun W=>abV s W);have one:∀x:Int,(x=0∨x=1)→(dg x.natAbs).length≤200:=fun x h=>AO (Nat.lt_of_le_of_lt (show x.natAbs≤1 by omega) (Nat.one_lt_pow (by decide) (by decide)));have C4:=hZ (fun W=>M3 x y (one x (by rw[←hx];split<;>simp)) (one y (by rw[←hy];split<;>simp)) W);rw[hx] at Z1 HR;rw[hy] at Z2 HR;obtain⟨o,ho⟩:=oQ (jd x y);rw[ho] at C4 HR;(have Br:o=-1∨o=0∨o=1:=by rw[←ho];unfold jd;split;exact .inl rfl;split;exact .inr (.inr rfl);exact .inr (.inl rfl));(have wk:aQ.wrap (sg*o)=sg*o:=by rw[aS];rcases uP.out with h|h<;>rcases Br with k|k|k<;>subst h k<;>omega);clear hx hy one ho Br;obtain⟨g1,ep⟩:=oQ (decide (r=0));obtain⟨g2,f_⟩:=oQ (decide (s=0));rw[ep] at od;rw[f_] at l7;(have vh:(g1||g2)=true:=by rw[←ep,←f_];rcases sL with h|h<;>simp[h]);clear ep f_ sL;cases g1<;>cases g2
      case false.false=>cases vh
      all_goals
       clear vh
       go_wp2_with (first
        |(go_at_call 154;(with_reducible refine(D1.out _).mono ?_);rintro r' V1 ⟨rfl,hb⟩;have aF:=aw HB hb;clear hb)
        |(go_at_call 154;(with_reducible refine(D2.out _).mono ?_);rintro r' V2 ⟨rfl,hb⟩;have aG:=aw aF hb;clear hb)
        |(go_at_call 151;(with_reducible refine(C3.out _).mono ?_);rintro r' V3 ⟨rfl,hb⟩;have a_:=aw aG hb;clear hb)
        |(go_at_call 262;(with_reducible refine(Z1.out _).mono ?_);rintro r' V4 ⟨rfl,rfl⟩)
        |(go_at_call 262;(with_reducible refine(Z2.out _).mono ?_);rintro r' V4 ⟨rfl,rfl⟩)
        |(go_at_call 151;(with_reducible refine(C4.out _).mono ?_);rintro r' V5 ⟨rfl,hb⟩;have cT:=aw a_ hb;clear hb)
        |fail)
       go_ret;rw[←HR.out];exact⟨rfl,cT.out⟩
    · rw[decide_eq_false (fun h=>sL (.inl h))] at od
      rw[decide_eq_false (fun h=>sL (.inr h))] at l7
      have HR:ag (-sg*jj ((b:Int)*(s:Int)) ((d:Int)*(r:Int))=Z):=hZ (by
       have:=HZ.out;rw[bS.out,if_neg (by decide),if_neg (by omega),if_neg (by omega),if_neg (by omega)] at this
       rw[←this,Int.neg_mul,GI])
      have pW:ag (-sg=1∨ -sg=-1):=hZ (by have:=uP.out;omega);have HP:ag (0<r∧0<s):=hZ (by omega);(have wn:aQ.wrap (-sg)=-sg:=by rw[aS];have:=uP.out;omega);have HM:ag (MQ (.string (zB (r:Int)))<MQ (.string (zB (b:Int)))):=hZ (by rw[abl HL.out.2.2.1,abl HI.out.2.2.2.1];exact HL.out.1);clear sL
      go_wp2_with (first
      |(go_at_call 154;(with_reducible refine(D1.out _).mono ?_);rintro r' V1 ⟨rfl,hb⟩;have aF:=aw HB hb;clear hb)
      |(go_at_call 154;(with_reducible refine(D2.out _).mono ?_);rintro r' V2 ⟨rfl,hb⟩;have aG:=aw aF hb;clear hb)
      |(go_at_call 151;(with_reducible refine(C3.out _).mono ?_);rintro r' V3 ⟨rfl,hb⟩;have a_:=aw aG hb;clear hb)
      |fail)
      go_roundw
      case rel=>exact⟨-sg,b,d,r,s,rfl,rfl,rfl,rfl,rfl,pW,hZ ⟨HP.out.1,HP.out.2,HI.out.2.2.2.1,HL.out.2.2.1,HI.out.2.2.2.2.2,HL.out.2.2.2⟩,HR,a_⟩
      case measure=>exact HM.out
  · have d0:(o !=0)=true:=by simp[h0]
    have HR:ag (sg*o=Z):=hZ (by have:=HZ.out;rw[bS.out,if_pos h0] at this;exact this);clear od l7
    go_wp2_with (first
     |(go_at_call 154;(with_reducible refine(D1.out _).mono ?_);rintro r V1 ⟨rfl,hb⟩;have aF:=aw HB hb;clear hb)
     |(go_at_call 154;(with_reducible refine(D2.out _).mono ?_);rintro r V2 ⟨rfl,hb⟩;have aG:=aw aF hb;clear hb)
     |(go_at_call 151;(with_reducible refine(C3.out _).mono ?_);rintro r V3 ⟨rfl,hb⟩;have a_:=aw aG hb;clear hb)
     |fail)
    go_ret;rw[←HR.out];exact⟨rfl,a_.out⟩
end Go.Proofs.YteeifhlhpiimoaaGreatDoor
end
