/-
  Contract of yardstickref19.Customers; the like for what stands beside it. Conditions: the base lies in memory; its lists' bounds.
-/
import Derived.Test.YteeifhlhpiimoaaGreatDoorXAr
import Derived.Test.YteeifhlhpiimoaaGreatDoorXAp
import Derived.Test.YteeifhlhpiimoaaGreatDoorXAq
import Derived.Test.YteeifhlhpiimoaaGreatDoorXAk
import Derived.Test.YteeifhlhpiimoaaGreatDoorXAl
import Derived.Lib.SlicesCompact
import Derived.Lib.SliceRun
import Derived.Deep.MidRow
import Derived.Test.YteeifhlhpiimoaaGreatDoorXAa
import Derived.BigQuiet
set_option maxHeartbeats 8000000
set_option maxRecDepth 100000
open And renaming intro→ay
open Go renaming Value→ai,World→ae,run_buildSlice→agd,undef→cM,wpList_load_mid→GG
open Go.Act renaming put→sV
open Go.Addr renaming add→jy
open Go.IntKind renaming i64→aQ,wrap_i64→aS
open Go.Joins renaming below_draws→qD
open Go.Lib renaming CompInv→Uh,compact→kY,compactUpTo→xC,compact_all→ac4,hit→mO,keeps→zP,keeps_lt_one→ac7,keeps_neg→ac8,keeps_pos→ac9
open Go.Proofs.Tryz renaming prog→ah,underlying61→afE,underlying75→vS
open Go.RowKit renaming Hid→ag
open Go.Value renaming oneCell'→lH,slice→mi
open Go.World renaming alloc_heap_new→bG,putObj_heap_other→kZ,rangeAt→k7,setCells→KH
open List renaming cons_append→s6,ext_getElem?→pO,filter_append→s7,getElem?_eq_getElem→bp,getElem?_eq_none→jz,getElem?_eq_some_iff→dL,getElem?_map→El,length_append→eV,length_cons→eF,length_drop→pP,length_map→rP,length_nil→pQ,length_set→s',length_singleton→uy,length_take→gD,mem_append→pR,mem_filter→Em,mem_map→Ox,mem_of_getElem?→mP,mem_singleton→fQ,setIfInBounds_toArray→ta,set_cons_succ→tc,set_cons_zero→td,size_toArray→tf,take_add_one→gV,take_of_length_le→eE
open Nat renaming add_mul→En,le_refl→aB,le_trans→aV,lt_or_ge→fB,not_lt_zero→ag6,zero_le→ei
section
namespace Go.Proofs.YteeifhlhpiimoaaGreatDoor
open Go Go.RowKit Go.Shelf
attribute [local go_sem] Oper.semAt_some
def pZ {α:Type} (lt:α→α→Bool) (src out:List α):Prop:=wH lt out∧∀x,x∈out↔x∈src
section
variable {α:Type} {lt:α→α→Bool} {src out:List α} {x:α} {k:Nat}
theorem pZ.ins (TM:∀a b,lt a b=true∨a=b∨lt b a=true) (Gd:∀a b c,lt a b=true→lt b c=true→lt a c=true) (h:pZ lt src out) (hk:k≤out.length) (h1:∀j y,j<k→out[j]?=some y→lt y x=true) (h2:∀y,out[k]?=some y→lt y x=false∧y≠x):pZ lt (src++[x]) ((out.take k++[x])++out.drop k):=by
 rw[List.append_assoc];refine⟨akp TM Gd h.1 hk h1 h2,fun y=>?_⟩;rw[akq,h.2 y,pR,fQ,or_comm]
theorem pZ.keep (h:pZ lt src out) (hx:out[k]?=some x):pZ lt (src++[x]) out:=⟨h.1,fun y=>by
 rw[h.2 y,pR,fQ]
 exact⟨.inl,fun q=>q.elim id fun e=>by rw[e];exact(h.2 x).1 (mP hx)⟩⟩
end
theorem FV (x:Int):(one iv x).length=1:=rfl
theorem F1 (x:Int):∀u∈one iv x,u.oneCell'=true:=fun u hu=>by cases fQ.1 hu;rfl
def oX (a b:Int):Bool:=decide (a<b)
theorem aa7 (a b:Int):oX a b=true∨a=b∨oX b a=true:=by unfold oX;simp;omega
theorem aa6 (a b c:Int) (h:oX a b=true) (k:oX b c=true):oX a c=true:=by unfold oX at*;simp at*;omega
theorem pZ.set {src out:List Int} (h:pZ oX src out):out=zy src:=by
 obtain⟨h1,h2⟩:=anh src;exact Yf (h.1.imp fun q=>by unfold oX at q;simpa using q) h1 fun x=>(h.2 x).trans (h2 x).symm
def pn (l:List af) (p:Int):List Int:=(l.filter fun e=>decide (e.item=p)).map fun e=>e.dj
theorem XP {l:List af} {p:Int} {i:Nat} {e:af} (he:l[i]?=some e) (h:e.item≠p):pn (l.take (i+1)) p=pn (l.take i) p:=by
 unfold pn;rw[gV,s7,he];simp[h]
theorem Qx {l:List af} {p:Int} {i:Nat} {e:af} (he:l[i]?=some e) (h:e.item=p):pn (l.take (i+1)) p=pn (l.take i) p++[e.dj]:=by
 unfold pn;rw[gV,s7,he];simp[h]
theorem F8 (w:ae) (n:Int):(Instr.buildSlice 23 1 #[(0,.int .i64 n)]).run ah w=.ok (.slice (some ⟨w.heap.size,0,none⟩) 1 1) (w.alloc (.cells (one iv n).toArray 3)):=by
 obtain⟨i,h1,h2,h3,h4⟩:=info_parts (show(ah.info? 3).map (fun i=>(i.zero,i.size,i.bytes))=some (some (.int .i64 0),1,8) by kernel_rfl);refine agd w 23 3 1 _ _ i _ Tryz.underlying23 h1 h2 (by rw[h3];decide) (by rw[h3];decide) ?_;rw[h3]
 kernel_rfl
theorem amn (B:bP) (p:Int) (w:ae) (hB:dH w (bV w) B) (hm:(B.ls 8).length≤1000000):
 Calls ah 40 #[B.val,.int .i64 p] w fun e w'=> ∃v,e=.returned v∧OL w' w.heap.size 3 1 (one iv) v (AM B p)∧Below w.heap.size w w':=by
 obtain⟨l,A,n,c,hl,HX,HA,HN⟩:=hB.zo (j:=8) (by decide) hm;have Za:AM B p=zy (pn l p):=by unfold AM pn;rw[hl]
 rw[Za];clear hB hl hm Za;obtain⟨b0,w0,q1,q2,q3,hf,bU⟩:=(At.start w).eX (.cells B.cells.toArray 36);have HQ:=hZ (ay q1 q2);have HF:=hZ hf;clear q1 q2 q3 hf bU
 go_enter Tryz.func40,Tryz.ntmps40
 go_wp2_with fail;obtain⟨q1,q2⟩:=HQ.out;rw[q1,q2];clear q1 q2
 go_loopw [5,6] (fun ov v wr=> ∃(i:Nat) (A5:Option Addr) (m c5:Nat) (out:List Int),v=.int .i64 (i:Int)∧ov=.slice A5 m c5∧i≤n∧ag (pZ oX (pn (l.take i) p) out∧m≤i)∧ag (OL wr w.heap.size 3 1 (one iv) (.slice A5 m c5) out)∧ag (At w wr [(b0,.cells B.cells.toArray 36 (0,0))])) (fun _ v _=>n-(intOf v).toNat)
 case atStart=>exact⟨0,none,0,0,[],rfl,rfl,ei _,hZ ⟨⟨List.Pairwise.nil,fun x=>by simp[pn]⟩,aB _⟩,hZ OL.nil,HF⟩
 case round =>
  clear HF;obtain⟨i,A5,m,c5,out,rfl,rfl,hi,HS,HO,HF⟩:=hrel;have x3:wr.cell? ⟨b0,8,none⟩=some (.slice A n c):=HF.out.cell (b:=b0) (cs:=B.cells.toArray) (t:=36) (by simp) (i:=8) HX.out
  by_cases ar:i<n
  · obtain ⟨x,b,HE,rfl,cy,cP⟩:=at9 HA HN HF.out.below ar
    have y8:wr.cell? ⟨b,i*18+8,none⟩=some (.int .i64 x.item):=cP 8 (.int .i64 x.item) rfl;have y9:wr.cell? ⟨b,i*18+9,none⟩=some (.int .i64 x.dj):=cP 9 (.int .i64 x.dj) rfl;have aL:=hZ ar;(have d1:decide (i<n)=true:=by simp[ar]);(have z1:(0:Int)≤(i:Int):=by omega);(have z2:(i:Int)<(n:Int):=by omega);have wk:=nx ⟨ar,HN.out.2⟩;have dC:ag (out.length=m):=hZ HO.out.len.1.symm;have HM:ag (m≤i∧i<n∧n≤1000000):=hZ ⟨HS.out.2,ar,HN.out.2⟩;clear cP ar;go_wp2_with fail
    go_loopw [8] (fun kv W=> ∃k:Nat,kv=.int .i64 (k:Int)∧k≤m∧ag (W=wr)∧ag (∀j y,j<k→out[j]?=some y→oX y x.dj=true)) (fun v _=>m-(intOf v).toNat)
    case atStart=>exact⟨0,rfl,ei _,by first|exact hZ rfl|exact hZ trivial,hZ fun j y hj _=>absurd hj (ag6 _)⟩
    case round=>
     obtain⟨k,rfl,hk,hW,HK⟩:=hrel;obtain rfl:=hW.out
     by_cases dR:k<m
     · obtain ⟨g,cg,e1,hg,f_,tV,yN⟩:=HO.out.form (by have:=dC.out;omega)
       (obtain rfl:A5=some ⟨g,0,none⟩:=by injection e1);obtain⟨y,hy⟩:∃y,out[k]?=some y:=⟨_,bp (by have:=dC.out;omega)⟩;have HY:=hZ hy;have yk:wr.cell? ⟨g,k,none⟩=some (.int .i64 y):=HO.out.Qs (fun _=>rfl) (by rw[wJ,El,hy];rfl);(have d2:decide (k<m)=true:=by simp[dR]);(have z3:(0:Int)≤(k:Int):=by omega);(have z4:(k:Int)<(m:Int):=by omega);have D4:=nx ⟨dR,show m≤1000000 by have:=HM.out;omega⟩;have i_:=hZ dR;clear e1 hg f_ tV yN hy dR
       by_cases hyx:y<x.dj
       · have d3:decide (y<x.dj)=true:=by simp[hyx]
         have qM:ag (∀j y,j<k+1→out[j]?=some y→oX y x.dj=true):=hZ fun j z hj hz=>by
          rcases fB j k with h|h
          · exact HK.out j z h hz
          · obtain rfl:j=k:=by omega
            rw[HY.out] at hz;cases hz;exact d3
         go_wp2_with fail
         go_roundw
         case rel=>exact⟨k+1,rfl,i_.out,hZ trivial,qM⟩
         case measure=>simp[intOf];have:=i_.out;omega
       · have d3:decide (y<x.dj)=false:=by simp[hyx]
         by_cases mO:x.item=p
         · have d4:(x.item !=p)=false:=by simp[mO]
           have i':=hZ mO
           by_cases MC:y=x.dj
           · have d5:(y==x.dj)=true:=by simp[MC]
             have lg:ag (pZ oX (pn (l.take (i+1)) p) out∧m≤i+1):=hZ ⟨by rw[Qx HE.out i'.out,←MC];exact HS.out.1.keep HY.out,by have:=HS.out.2;omega⟩;go_wp2_with fail
             go_roundw
             case rel=>exact⟨i+1,_,_,c5,out,rfl,rfl,aL.out,lg,HO,HF⟩
             case measure=>simp[intOf];have:=aL.out;omega
           · have d5:(y==x.dj)=false:=by simp[MC]
             have Ia:=hZ MC;have fw:ag (k≤m∧m≤1000000∧(out.take k).length=k∧(out.drop k).length=m-k):=hZ (by have:=HM.out;have:=dC.out;rw[gD,pP];omega)
             go_wp2_with (first
              |((with_reducible refine BV rfl rfl (.tmp 60) (.tmp 61) (.tmp 59) (.tmp 62) 23 rfl rfl C9 FV F1 HO.out ?h1 k fw.out.1 ?hx ?hk ?hv ?hy ?_);(case h1=>exact⟨fw.out.2.1,by decide⟩);(case hx=>rfl);(case hk=>rfl);(case hv=>rfl);(case hy=>rfl);intro v1 W1 h1 aq;have cA:=hZ h1;have aF:=hZ aq;clear h1 aq)
              |((with_reducible refine sT rfl rfl (.tmp 65) (.tmp 64) (.tmp 66) 23 rfl rfl C9 ?h1 x.dj (FV _) ?h2 (.int .i64 x.dj) ?hx ?hr v1 (out.take k) k ?h3 wr.heap.size aF.out.size cA.out ?hv ?hy ?_);(case h1=>decide);(case h2=>exact F1 _);(case hr=>exact fun w=>F8 w _);(case h3=>(have:=fw.out;omega));(case hx=>rfl);(case hv=>rfl);(case hy=>rfl);intro A2 c2 W2 h2 aA;have cI:=hZ h2;have aG:=hZ (aF.out.trans aA);have gL:=hZ (HO.out.below aG.out (aB _));clear h2 aA)
              |((with_reducible refine BW rfl rfl (.tmp 69) (.tmp 70) (.tmp 68) (.tmp 71) 23 rfl rfl C9 FV F1 gL.out ?h1 k fw.out.1 ?hx ?hk (.slice A2 (k+1) c2) (out.take k++[x.dj]) (m+1) ?h3 wr.heap.size aG.out.size cI.out ?hv ?hy ?_);(case h1=>exact⟨fw.out.2.1,by decide⟩);(case h3=>(have:=fw.out;rw[eV];simp only[uy];omega));(case hx=>rfl);(case hk=>rfl);(case hv=>rfl);(case hy=>rfl);intro A3 c3 W3 h3 aK;have mu:=hZ h3;have a_:=hZ (aG.out.trans aK);clear h3 aK)
              |fail)
             have lg:ag (pZ oX (pn (l.take (i+1)) p) ((out.take k++[x.dj])++out.drop k)∧((out.take k++[x.dj])++out.drop k).length≤i+1):=hZ ⟨by rw[Qx HE.out i'.out];exact HS.out.1.ins aa7 aa6 (by have:=fw.out;have:=dC.out;omega) HK.out (fun z hz=>by rw[HY.out] at hz;cases hz;exact⟨d3,Ia.out⟩),by have:=fw.out;have:=HM.out;rw[eV,eV];simp only[uy];omega⟩
             go_roundw
             case rel=>exact⟨i+1,A3,_,c3,_,rfl,rfl,aL.out,hZ ⟨lg.out.1,by have:=HM.out;omega⟩,hZ (mu.out.base HF.out.below.size),hZ (HF.out.step a_.out)⟩
             case measure=>simp[intOf];have:=aL.out;omega
         · have d4:(x.item !=p)=true:=by simp[mO]
           have i':=hZ mO;have lg:ag (pZ oX (pn (l.take (i+1)) p) out∧m≤i+1):=hZ ⟨by rw[XP HE.out i'.out];exact HS.out.1,by have:=HS.out.2;omega⟩;go_wp2_with fail
           go_roundw
           case rel=>exact⟨i+1,_,_,c5,out,rfl,rfl,aL.out,lg,HO,HF⟩
           case measure=>simp[intOf];have:=aL.out;omega
     · have d2:decide (k<m)=false:=by simp[dR]
       obtain rfl:k=m:=by omega
       by_cases mO:x.item=p
       · have d4:(x.item !=p)=false:=by simp[mO]
         have i':=hZ mO;have fw:ag (k≤k∧k≤1000000∧(out.take k).length=k∧(out.drop k).length=k-k):=hZ (by have:=HM.out;have:=dC.out;rw[gD,pP];omega)
         go_wp2_with (first
          |((with_reducible refine BV rfl rfl (.tmp 60) (.tmp 61) (.tmp 59) (.tmp 62) 23 rfl rfl C9 FV F1 HO.out ?h1 k fw.out.1 ?hx ?hk ?hv ?hy ?_);(case h1=>exact⟨fw.out.2.1,by decide⟩);(case hx=>rfl);(case hk=>rfl);(case hv=>rfl);(case hy=>rfl);intro v1 W1 h1 aq;have cA:=hZ h1;have aF:=hZ aq;clear h1 aq)
          |((with_reducible refine sT rfl rfl (.tmp 65) (.tmp 64) (.tmp 66) 23 rfl rfl C9 ?h1 x.dj (FV _) ?h2 (.int .i64 x.dj) ?hx ?hr v1 (out.take k) k ?h3 wr.heap.size aF.out.size cA.out ?hv ?hy ?_);(case h1=>decide);(case h2=>exact F1 _);(case hr=>exact fun w=>F8 w _);(case h3=>(have:=fw.out;omega));(case hx=>rfl);(case hv=>rfl);(case hy=>rfl);intro A2 c2 W2 h2 aA;have cI:=hZ h2;have aG:=hZ (aF.out.trans aA);have gL:=hZ (HO.out.below aG.out (aB _));clear h2 aA)
          |((with_reducible refine BW rfl rfl (.tmp 69) (.tmp 70) (.tmp 68) (.tmp 71) 23 rfl rfl C9 FV F1 gL.out ?h1 k fw.out.1 ?hx ?hk (.slice A2 (k+1) c2) (out.take k++[x.dj]) (k+1) ?h3 wr.heap.size aG.out.size cI.out ?hv ?hy ?_);(case h1=>exact⟨fw.out.2.1,by decide⟩);(case h3=>(have:=fw.out;rw[eV];simp only[uy];omega));(case hx=>rfl);(case hk=>rfl);(case hv=>rfl);(case hy=>rfl);intro A3 c3 W3 h3 aK;have mu:=hZ h3;have a_:=hZ (aG.out.trans aK);clear h3 aK)
          |fail)
         have lg:ag (pZ oX (pn (l.take (i+1)) p) ((out.take k++[x.dj])++out.drop k)∧((out.take k++[x.dj])++out.drop k).length≤i+1):=hZ ⟨by rw[Qx HE.out i'.out];exact HS.out.1.ins aa7 aa6 (by have:=fw.out;have:=dC.out;omega) HK.out (fun z hz=>by rw[jz (by have:=dC.out;omega)] at hz;cases hz),by have:=fw.out;have:=HM.out;rw[eV,eV];simp only[uy];omega⟩
         go_roundw
         case rel=>exact⟨i+1,A3,_,c3,_,rfl,rfl,aL.out,hZ ⟨lg.out.1,by have:=HM.out;omega⟩,hZ (mu.out.base HF.out.below.size),hZ (HF.out.step a_.out)⟩
         case measure=>simp[intOf];have:=aL.out;omega
       · have d4:(x.item !=p)=true:=by simp[mO]
         have i':=hZ mO;have lg:ag (pZ oX (pn (l.take (i+1)) p) out∧k≤i+1):=hZ ⟨by rw[XP HE.out i'.out];exact HS.out.1,by have:=HS.out.2;omega⟩;go_wp2_with fail
         go_roundw
         case rel=>exact⟨i+1,_,_,c5,out,rfl,rfl,aL.out,lg,HO,HF⟩
         case measure=>simp[intOf];have:=aL.out;omega
  · have d1:decide (i<n)=false:=by simp;omega
    have oz:ag (out=zy (pn l p)):=hZ (by have:=HS.out.1;rw[eE (by have:=HN.out.1;omega)] at this;exact this.set);go_wp2_with fail;go_ret;rw[←oz.out];exact⟨_,rfl,HO.out,HF.out.below⟩
end Go.Proofs.YteeifhlhpiimoaaGreatDoor
end
section
namespace Go.Proofs.YteeifhlhpiimoaaGreatDoor
open Go Go.RowKit Go.Shelf Go.Sort Go.Lib
attribute [local go_sem] Oper.semAt_some
section
variable {w:ae} {B g n c i:Nat} {l:List bY} {e:bY}
theorem mN (x:bY):(bD x).length=3:=rfl
theorem F_ (h:OL w B 75 3 bD (.slice (some ⟨g,0,none⟩) n c) l) (he:l[i]?=some e):w.rangeAt g (i*3) (bD e):=by
 intro j v hv;have hn:=h.len.1;subst hn;have hj:j<3:=(dL.1 hv).1;have hi:i<l.length:=(dL.1 he).1;have hlen:(l.flatMap bD).length=l.length*3:=m_ mN;rw[World.ownsRow.cellAt h (i*3+j) (by omega),mA (f:=bD) (s:=3) mN l i e he j hj];exact hv
theorem TD (h:OL w B 75 3 bD (.slice (some ⟨g,0,none⟩) n c) l) (hi:i<n):w.there g (i*3) 3:=by
 have hn:=h.len.1;subst hn;intro j hj;have h1:=F_ h (bp hi);obtain⟨v,hv⟩:∃v,(bD l[i])[j]?=some v:=⟨_,bp hj⟩;exact⟨by rw[h1 j v hv];rfl,World.ownsRow.frozenAt h _⟩
theorem acv (h:OL w B 75 3 bD (.slice (some ⟨g,0,none⟩) n c) l) (hi:i<n) (e:bY):OL (w.setCells g (i*3) (bD e)) B 75 3 bD (.slice (some ⟨g,0,none⟩) n c) (l.set i e):=by
 have hn:=h.len.1;subst hn;have h1:=S1 (bD e) (i*3) _ w h;unfold OL;rw[s'];have hlen:(l.flatMap bD).length=l.length*3:=m_ mN;have ZK:((l.set i e).flatMap bD).length=l.length*3:=by rw[m_ mN,s']
 have e1:DW (l.flatMap bD) (i*3) (bD e)=(l.set i e).flatMap bD:=by
  apply pO;intro k;rw[Tv _ _ _ _ (by rw[mN,hlen];omega),mN]
  by_cases hk:k<l.length*3
  · obtain⟨q,r,hr,rfl⟩:∃q r,r<3∧k=q*3+r:=⟨k/3,k%3,by omega,by omega⟩
    have hq:q<l.length:=by omega
    by_cases JA:q=i
    · subst JA
      rw[if_pos (by omega),mA (f:=bD) (s:=3) mN (l.set q e) q e (by rw[List.getElem?_set_self hq]) r hr]
      congr 1;omega
    · rw[if_neg (by omega),mA (f:=bD) (s:=3) mN l q l[q] (bp hq) r hr,mA (f:=bD) (s:=3) mN (l.set i e) q l[q] (by rw[List.getElem?_set_ne (by omega)];exact bp hq) r hr]
  · rw[if_neg (by omega),jz (by omega),jz (by omega)]
 rw[←e1];exact h1
end
def zN:bY:=⟨0,0,0⟩
def CY (l:List bY) (i:Nat):Nat→List bY
 |0=>l
 |m+1=>CY (l.set i zN) (i+1) m
def rK:Nat→List ai
 |0=>[]
 |m+1=>bD zN++rK m
theorem T9:∀m,(rK m).length=m*3
 |0=>rfl
 |m+1=>by rw[rK,eV,mN,T9 m];omega
theorem acg (g:Nat):∀(xs ys:List ai) (o:Nat) (w:ae),w.setCells g o (xs++ys)=(w.setCells g o xs).setCells g (o+xs.length) ys
 |[],_,_,_=>rfl
 | x::xs,ys,o,w=>by
   rw[s6,KH,KH,acg g xs ys (o+1),eF]
   congr 1;omega
theorem XF {B g n c:Nat}:∀(m i:Nat) (l:List bY) (w:ae),i+m≤n→OL w B 75 3 bD (.slice (some ⟨g,0,none⟩) n c) l→OL (w.setCells g (i*3) (rK m)) B 75 3 bD (.slice (some ⟨g,0,none⟩) n c) (CY l i m)
 |0,_,_,_,_,h=>h
 | m+1,i,l,w,hi,h=>by
   rw[rK,acg,CY,mN,show i*3+3=(i+1)*3 by omega];exact XF m (i+1) _ _ (by omega) (acv h (by omega) zN)
theorem XD:∀(m i:Nat) (l:List bY),(CY l i m).length=l.length
 |0,_,_=>rfl
 |m+1,i,l=>by rw[CY,XD m,s']
theorem XE:∀(m i k:Nat) (l:List bY),k≤i→(CY l i m).take k=l.take k
 |0,_,_,_,_=>rfl
 |m+1,i,k,l,h=>by rw[CY,XE m (i+1) k _ (by omega),List.take_set_of_le h]
theorem apw:∀m,(Builtin.zeroCells (bD zN).toArray m).toList=rK m:=by
 intro m
 have h:∀(m j:Nat),j<m*3→(rK m)[j]?=some (.int .i64 0):=by
  intro m
  induction m with
  |zero=>intro j hj;omega
  | succ m ih=>
    intro j hj;rw[rK]
    by_cases h3:j<3
    · rw[List.getElem?_append_left (by rw[mN];exact h3)]
      match j,h3 with
      |0,_=>rfl
      |1,_=>rfl
      |2,_=>rfl
    · rw[List.getElem?_append_right (by rw[mN];omega),mN]
      exact ih (j-3) (by omega)
 apply pO;intro j;unfold Builtin.zeroCells
 by_cases hj:j<m*3
 · rw[h m j hj]
   simp only[bD,zN,tf,eF,pQ,Array.toList_map,El];rw[Array.getElem?_toList,Array.getElem?_range,if_pos (by simpa using hj)];simp only[Option.map_some];(have:j%3=0∨j%3=1∨j%3=2:=by omega);rcases this with e|e|e<;>simp[e]
 · rw[jz (by simp[bD];omega),jz (by rw[T9];omega)]
theorem acU:∀(m:Nat) (v:ai),v∈rK m→v.oneCell'=true
 |0,v,h=>by cases h
 | m+1,v,h=>by
   rw[rK,pR] at h;rcases h with h|h
   · simp[bD,zN] at h;rw[h];rfl
   · exact acU m v h
theorem am4 {w:ae} {B g n c k:Nat} {l:List bY} (h:OL w B 75 3 bD (.slice (some ⟨g,0,none⟩) n c) l) (hk:k<n) (ty:TypeId) (c2:Nat):
 (Builtin.clear_ #[61] ty #[.slice (some ⟨g,k*3,none⟩) (n-k) c2]).run ah w=.ok (.tuple #[]) (w.setCells g (k*3) (rK (n-k))):=by
 have hz:∀w,(zeroValue 75).run ah w=.ok (.agg (bD zN).toArray) w:=fun w=>by kernel_rfl
 have hn:=h.len.1;subst hn;have hlen:=T9 (l.length-k)
 have bW:=run_storeCells_cells (P:=ah) g (k*3) (rK (l.length-k)) 0 w (fun j hj=>by
  have h1:=TD h (i:=(k*3+j)/3) (by omega) ((k*3+j)%3) (by omega);rw[show(k*3+j)/3*3+(k*3+j)%3=k*3+j by omega] at h1
  exact h1.1) (fun j hj=>by
  have h1:=TD h (i:=(k*3+j)/3) (by omega) ((k*3+j)%3) (by omega);rw[show(k*3+j)/3*3+(k*3+j)%3=k*3+j by omega] at h1
  exact h1.2) (acU _)
 simp only[Nat.add_zero] at bW;obtain⟨m,hm⟩:∃m,l.length-k=m+1:=⟨l.length-k-1,by omega⟩;rw[hm] at bW⊢;have hzc:=apw (m+1);have hcs:(Value.agg (bD zN).toArray).cells=(bD zN).toArray:=rfl;simp[Builtin.clear_,run_underlying afE,hz,hcs,hzc,bW]
theorem Ys (x y:Operand) (cs ds:Array ai) (W:ae):(eqGuard .eql 75 x y (.agg cs) (.agg ds)).run ah W=.ok () W:=by kernel_rfl
theorem Yh (e f:bY) (W:ae):(binOp .eql 75 (.agg (bD e).toArray) (.agg (bD f).toArray)).run ah W=.ok (.bool (vP e f)) W:=by
 obtain⟨a0,a1,a2⟩:=e;obtain⟨b0,b1,b2⟩:=f;unfold bD vP;simp only[];go_simp
 by_cases h0:a0=b0
 case neg=>simp[h0]
 rw[if_pos h0]
 by_cases h1:a1=b1
 case neg=>simp[h1]
 rw[if_pos h1]
 by_cases h2:a2=b2
 case neg=>simp[h2]
 simp[h0,h1,h2]
theorem aiw {l:List bY} (h:l.length<2):kY l=l:=ac4 l fun j hj=>ac7 _ j (by omega)
theorem L4 {l:List bY} {j:Nat} {e:bY} (h:l[j]?=some e):l.toArray[j]! =e:=by
 obtain⟨h1,h2⟩:=dL.1 h;rw[getElem!_pos _ j (by simpa using h1)];simpa using h2
theorem ais {l m:List bY} {k:Nat} (h:Uh l.toArray l.length k m.toArray):m.take k=kY l:=by
 have hs:m.length=l.length:=by have:=h.size;simpa using this
 have hk:=h.lt;have hl:(kY l).length=k:=h.len;apply pO;intro j;rw[List.getElem?_take]
 by_cases hj:j<k
 · rw[if_pos hj]
   have h1:=h.low j hj
   have h2:m[j]?=some m.toArray[j]! :=by
    rw[getElem!_pos _ j (by simp;omega)];simp
   rw[h2];exact h1.symm
 · rw[if_neg hj,jz (by omega)]
theorem ani (m:List bY) (k:Nat) (e:bY):m.toArray.setIfInBounds k e=(m.set k e).toArray:=by simp
theorem acD {g:Nat} (vs:List ai) (o:Nat) (w:ae):aO (fun q=>q=g) w (w.setCells g o vs):=by
 induction vs generalizing o w with
 |nil=>exact aO.refl _ _
 |cons v vs ih=>rw[KH];exact(aO.setCell (Z:=fun q=>q=g) w ⟨g,o,none⟩ v rfl).trans (ih _ _)
theorem aiv {w:ae} {B:Nat} {v:ai} {l:List bY} (h:OL w B 75 3 bD v l) (hl:l.length≤1000000):
 Calls ah 81 #[v] w fun e w'=> ∃v',e=.returned v'∧OL w' B 75 3 bD v' (kY l)∧aO (fun q=>v.ownBlock=some q) w w'∧v'.ownBlock=v.ownBlock:=by
 by_cases h2:l.length<2
 · obtain⟨A,c,rfl,-,-⟩:=h.slice
   refine(ait A l.length c h2 w).mono ?_;rintro e w' ⟨rfl,rfl⟩;exact⟨_,rfl,by rw[aiw h2];exact h,aO.refl _ _,rfl⟩
 obtain⟨g,c,rfl,-,-,hc,pz⟩:=h.form (by omega);obtain⟨n,hn⟩:=oQ (l.length);rw[hn] at h h2 hl hc⊢;have HO:=hZ h;have HN:=hZ hn;have HG:ag (g<w.heap.size):=hZ (h.lt g rfl).2;have VO:=hZ pz;have d0:decide ((n:Int)<2)=false:=by simp;omega
 have cN:2≤n:=by omega
 have Lr:ag (aO (fun q=>q=g) w w):=hZ (aO.refl _ _)
 have fin:∀(w':ae) (k:Nat),OL w' B 75 3 bD (.slice (some ⟨g,0,none⟩) k c) (kY l)→aO (fun q=>q=g) w w'→∃v',Ending.returned (.slice (some ⟨g,0,none⟩) k c)=.returned v'∧OL w' B 75 3 bD v' (kY l)∧aO (fun q=>(mi (some ⟨g,0,none⟩) n c).ownBlock=some q) w w'∧v'.ownBlock=(mi (some ⟨g,0,none⟩) n c).ownBlock:=
  fun w' k h1 h2=>⟨_,rfl,h1,h2.mono fun q hq=>by rw[hq];rfl,rfl⟩
 have HF:=hZ fin;clear fin h hn pz h2
 go_enter Tryz.func81,Tryz.ntmps81
 go_wp2_with fail
 go_loopw [3] (fun x wr=> ∃k:Nat,x=.int .i64 (k:Int)∧1≤k∧k≤n∧ag (∀j,j<k→zP l.toArray j=true)∧ag (OL wr B 75 3 bD (.slice (some ⟨g,0,none⟩) n c) l)∧ag (aO (fun q=>q=g) w wr)) (fun x _=>n-(intOf x).toNat)
 case atStart=>exact⟨1,rfl,aB _,by omega,hZ (ac7 _),HO,Lr⟩
 case round =>
  clear HO Lr;obtain⟨k,rfl,fJ,hk,HA,HO,HT⟩:=hrel
  by_cases ar:k<n
  · have d1 :decide (k<n)=true:=by simp[ar]
    obtain⟨x,hx⟩:∃e,l[k]?=some e:=⟨_,bp (by rw[HN.out];exact ar)⟩;obtain⟨p,hp⟩:=oQ (k-1);obtain⟨y,hy⟩:∃e,l[p]?=some e:=⟨_,bp (by rw[HN.out];omega)⟩;(have wp:aQ.wrap ((k:Int)-1)=(p:Int):=by rw[aS];omega);(have wk:aQ.wrap ((k:Int)+1)=((k+1:Nat):Int):=by rw[aS];omega);(have z1:(0:Int)≤(k:Int):=by omega);(have z2:(k:Int)<(n:Int):=by omega);(have z3:(0:Int)≤(p:Int):=by omega);(have z4:(p:Int)<(n:Int):=by omega);have HV:=hZ HO.out.drew;have Av:ag (aO (fun q=>q=g) w wr.drew):=hZ (HT.out.trans (aO.drew _));obtain⟨q,hq⟩:=oQ (vP x y);have HQ:=hZ hq;have nS:ag (∀W,(binOp .eql 75 (.agg (bD x).toArray) (.agg (bD y).toArray)).run ah W=.ok (.bool q) W):=hZ (fun W=>by rw[←hq];exact Yh x y W);have bu:k7 wr.drew g (k*3) (bD x)∧k7 wr.drew g (p*3) (bD y):=⟨F_ HV.out hx,F_ HV.out hy⟩;have uR:=hZ (ay (L4 hx) (L4 hy));have HP:=hZ hp;clear hx hy hq hp HO HT;go_wp2_with fail;refine cJ (fun U=>k7 U g (k*3) (bD x)∧k7 U g (p*3) (bD y)) bu fun hHeld=>?_;refine dr 0 1 2 ?_;refine tl 3 rfl (yx g (k*3) (by kernel_rfl) vS (fun w hw=>hw.1)) ?_;refine bg 4 5 6 7 ?_;refine tl 8 rfl (yx g (p*3) (by kernel_rfl) vS (fun w hw=>hw.2)) ?_;refine tl 9 rfl (NL (by rfl) 75 75 (.tmp 19) (.tmp 24) (by rfl) (.agg (bD x).toArray) (.agg (bD y).toArray) (by rfl) (by rfl) q (fun w=>Ys _ _ _ _ w) nS.out) ?_;refine dn ?_;clear hHeld bu
    cases q
    · go_wp2
      have ht:zP l.toArray k=true:=ac9 (by
       rw[HP.out,uR.out.1,uR.out.2];intro e;have:=HQ.out
       rw[(zF x y).2 e] at this;cases this)
      have HAA:ag (∀j,j<k+1→zP l.toArray j=true):=hZ fun j hj=>by
       by_cases e:j=k
       · rw[e];exact ht
       · exact HA.out j (by omega)
      clear ht
      go_round
      case rel=>exact⟨k+1,rfl,by omega,by omega,HAA,HV,Av⟩
      case measure=>simp[intOf];omega
    · have nT :ag (Uh l.toArray (k+1) k l.toArray):=hZ (Lib.CompInv.start HA.out (ac8 (by omega) (by rw[HP.out,uR.out.1,uR.out.2];exact(zF x y).1 HQ.out)))
      clear HA uR nS HP HQ;obtain⟨u,hu⟩:=oQ (n-k);(have qm:k≤n:=by omega);(have Ft:k≤c:=by omega);have HC:=hZ hc;have HK:=hZ (ay fJ ar);have IL:=fun e:bY=>hZ (show(ah.info? 75).map (·.size)=some (bD e).length by kernel_rfl);have IS:=fun e:bY=>hZ (show(ah.info? 75).map (·.size)=some (bD e).toArray.size by kernel_rfl);have Wn:=HN;clear wp wk z3 z4 fJ;go_wp2_with fail;obtain⟨wo,vF⟩:∃wo:ae,wo=wr.drew:=⟨_,rfl⟩;rw[←vF] at HV Av⊢;clear vF;clear d1
      go_loopw [3,5] (fun x3 x5 wr=> ∃(kk k2:Nat) (m:List bY),x3=.int .i64 (kk:Int)∧x5=.int .i64 (k2:Int)∧1≤k2∧k2≤u∧ag (m.length=n)∧ag (Uh l.toArray (k+k2) kk m.toArray)∧ag (OL wr B 75 3 bD (.slice (some ⟨g,0,none⟩) n c) m)∧ag (aO (fun q=>q=g) w wr)) (fun _ x _=>u-(intOf x).toNat)
      case atStart=>exact⟨k,1,l,rfl,rfl,aB _,by omega,Wn,nT,HV,Av⟩
      case round=>
       clear nT HV Av Wn;obtain⟨kk,k2,m,rfl,rfl,h1k,hku,yg,HI,HO,HT⟩:=hrel;have iR:kk<k+k2:=HI.out.lt;have hun:k+u=n:=by omega
       by_cases iD:k2<u
       · have d2:decide (k2<u)=true:=by simp[iD]
         obtain⟨x,hx⟩:∃e,m[k+k2]?=some e:=⟨_,bp (by rw[yg.out];omega)⟩;obtain⟨p,hp⟩:=oQ (k2-1);obtain⟨y,hy⟩:∃e,m[k+p]?=some e:=⟨_,bp (by rw[yg.out];omega)⟩;(have wp:aQ.wrap ((k2:Int)-1)=(p:Int):=by rw[aS];omega);(have wk:aQ.wrap ((k2:Int)+1)=((k2+1:Nat):Int):=by rw[aS];omega);(have wkk:aQ.wrap ((kk:Int)+1)=((kk+1:Nat):Int):=by rw[aS];omega);(have z1:(0:Int)≤(k2:Int):=by omega);(have z2:(k2:Int)<(u:Int):=by omega);(have z3:(0:Int)≤(p:Int):=by omega);(have z4:(p:Int)<(u:Int):=by omega);(have z5:(0:Int)≤(kk:Int):=by omega);(have z6:(kk:Int)<(n:Int):=by omega);have HV:=hZ HO.out.drew;have Av:ag (aO (fun q=>q=g) w wr.drew):=hZ (HT.out.trans (aO.drew _));obtain⟨q,hq⟩:=oQ ((!vP x y));have HQ:=hZ hq;have eu:ag (∀W,(binOp .neq 75 (.agg (bD x).toArray) (.agg (bD y).toArray)).run ah W=.ok (.bool q) W):=hZ (fun W=>by rw[←hq];exact abh x y W)
         have bu:k7 wr.drew g (k*3+k2*3) (bD x)∧k7 wr.drew g (k*3+p*3) (bD y):=by
          rw[←En,←En];exact⟨F_ HV.out hx,F_ HV.out hy⟩
         have qU:=hZ bu.1
         have uR:ag (l.toArray[k+k2]! =x∧l.toArray[k+k2-1]! =y):=hZ (by
          have a1:=L4 hx;have a2:=L4 hy;rw[HI.out.high _ (by omega)] at a1 a2
          exact⟨a1,by rw[show k+k2-1=k+p by omega];exact a2⟩)
         have aL:ag (kk<n∧k+k2<n∧k2+1≤u):=hZ (by omega);clear hx hy hq hp HO HT iR hun;go_wp2_with fail;refine cJ (fun U=>k7 U g (k*3+k2*3) (bD x)∧k7 U g (k*3+p*3) (bD y)) bu fun hHeld=>?_;refine dr 0 1 2 ?_;refine tl 3 rfl (yx g (k*3+k2*3) (by kernel_rfl) vS (fun w hw=>hw.1)) ?_;refine bg 4 5 6 7 ?_;refine tl 8 rfl (yx g (k*3+p*3) (by kernel_rfl) vS (fun w hw=>hw.2)) ?_;refine tl 9 rfl (Gq (by rfl) 75 75 (.tmp 38) (.tmp 43) (by rfl) (.agg (bD x).toArray) (.agg (bD y).toArray) (by rfl) (by rfl) q (fun w=>Yr _ _ _ _ w) eu.out) ?_;refine dn ?_;clear hHeld bu eu;cases q
         · have fu:=hZ (HI.out.skip (ac8 (by have:=HK.out.1;omega) (by rw[uR.out.1,uR.out.2];exact(zF x y).1 (by have:=HQ.out;simpa using this))))
           go_wp2_with fail
           go_round
           case rel=>exact⟨kk,k2+1,m,rfl,rfl,by omega,aL.out.2.2,yg,fu,HV,Av⟩
           case measure=>simp[intOf];have:=aL.out;omega
         · have fu:=hZ (HI.out.keep (by have:=aL.out;have:=HN.out;simp;omega) (ac9 (by
            rw[uR.out.1,uR.out.2];intro e;have:=HQ.out
            rw[(zF x y).2 e] at this;cases this)))
           go_wp2_with (first
            |(with_reducible refine lx (.tmp 49) g (k*3+k2*3) qU.out (IL x).out vS ?_)
            | ((with_reducible refine wpList_store_mid rfl 75 (.tmp 51) (.tmp 50) rfl g (kk*3) (bD x).toArray ?hx ?hy ?ht (IS x).out ?h1 ?_);(case hx=>first|rfl|simp[jy]);(case hy=>rfl);(case ht=>exact TD HV.out aL.out.1);(case h1=>simp[bD,lH])
               obtain⟨W2,eY⟩:=oQ (wr.drew.setCells g (kk*3) (bD x));have cI:ag (OL W2 B 75 3 bD (.slice (some ⟨g,0,none⟩) n c) (m.set kk x)):=hZ (by rw[←eY];exact acv HV.out aL.out.1 x);have dD:ag (aO (fun q=>q=g) w W2):=hZ (by rw[←eY];exact Av.out.trans (acD _ _ _));rw[eY]
               clear eY HV Av)
            |fail)
           go_round
           case rel=>exact⟨kk+1,k2+1,m.set kk x,rfl,rfl,by omega,aL.out.2.2,hZ (by rw[s'];exact yg.out),hZ (by have:=fu.out;rw[uR.out.1,ani] at this;exact this),cI,dD⟩
           case measure=>simp[intOf];have:=aL.out;omega
       · have d2:decide (k2<u)=false:=by simp;omega
         (have u_:k+k2=n:=by omega);(have ajT:kk<n:=by omega);(have z5:(0:Int)≤(kk:Int):=by omega);(have z6:(kk:Int)≤(n:Int):=by omega);(have z7:kk≤n:=by omega);(have z8:kk≤c:=by omega);have ri:=fun ty=>am4 HO.out ajT ty (c-kk)
         have HE:ag (OL (wr.setCells g (kk*3) (rK (n-kk))) B 75 3 bD (.slice (some ⟨g,0,none⟩) kk c) (kY l)):=hZ (by
          have h1:=XF (n-kk) kk m wr (by omega) HO.out;have h2:=h1.take (fun _=>rfl) kk (by rw[XD,yg.out];omega) (by simp);rw[XE _ _ _ _ (aB _)] at h2;have h3:=HI.out;rw[u_,←HN.out] at h3;rw[ais h3] at h2
          exact h2)
         have dD:ag (aO (fun q=>q=g) w (wr.setCells g (kk*3) (rK (n-kk)))):=hZ (HT.out.trans (acD _ _ _));clear u_ HI HO HT yg;go_wp2_with fail;go_ret;exact HF.out _ _ HE.out dD.out
  · have d1:decide (k<n)=false:=by simp;omega
    (obtain rfl:k=n:=by omega);have Zb:kY l=l:=ac4 l fun j hj=>HA.out j (by rw[←HN.out];exact hj);have HCP:=hZ Zb;clear Zb;go_wp2_with fail;go_ret;exact HF.out _ _ (by rw[HCP.out];exact HO.out) HT.out
end Go.Proofs.YteeifhlhpiimoaaGreatDoor
end
section
namespace Go.Proofs.YteeifhlhpiimoaaGreatDoor
open Go Go.RowKit Go.Shelf Go.Sort
attribute [local go_sem] Oper.semAt_some
def q8 (B:bP) (p:Int):List bY:=kY (dc (dQ bY.az bY.bj) (qb B p))
theorem QI {B:bP} {p:Int} {s:bY} (h:s∈qb B p):s.item=p:=by
 unfold qb at h;obtain⟨e,he,rfl⟩:=Ox.1 h;exact of_decide_eq_true (Em.1 he).2
theorem ajc {B:bP} {p:Int} {l:List bY} (hp:l.Perm (qb B p)) (hu:Up (ltOf AG) l):kY l=q8 B p:=by
 have ar:ltOf AG=dQ bY.az bY.bj:=by funext x y;exact MO x y
 rw[ar] at hu;have h2:=zC (EZ bY.az bY.bj) (qb B p);have h3:=xt (lt:=dQ bY.az bY.bj) (qb B p);unfold q8
 congr 1
 refine List.Perm.eq_of_pairwise (le:=fun a b=>dQ bY.az bY.bj b a=false) (fun a b ha hb h4 h5=>?_) hu h2 (hp.trans h3.symm);have e1:=QI (hp.mem_iff.1 ha);have e2:=QI (h3.mem_iff.1 hb);unfold dQ at h4 h5;simp at h4 h5;cases a;cases b;simp only[bY.mk.injEq] at*;omega
theorem AA.q8 {B C:bP} {n:Int} (h:AA B C n):q8 C n=q8 B n:=by unfold Go.Proofs.YteeifhlhpiimoaaGreatDoor.q8;rw[h.QH]
theorem ajd (B:bP) (p:Int) (w:ae) (hB:dH w (bV w) B) (hl:(B.ls 2).length≤1000000):
 Calls ah 29 #[B.val,.int .i64 p] w fun e w'=> ∃v,e=.returned v∧OL w' w.heap.size 75 3 bD v (q8 B p)∧Below w.heap.size w w':=by
 have HB:=hZ hB;have HL:=hZ hl;have IE:=fun e:af=>hZ (di (e:=e));clear hB hl;refine(callsIn_wide (n:=3)).1 ?_;refine callsIn_of_wp_marks Tryz.func29 rfl trivial ?_ rfl;simp only[Tryz.ntmps29,tf,eF,pQ,Nat.reduceAdd,Nat.reduceSub,Array.replicate_succ,Array.replicate_zero,List.push_toArray,List.append_toArray,List.nil_append,s6];refine wpIn_wide.2 ?_;go_wp2_with fail;have dB:=hZ (At.start w);obtain⟨b2,w0,q1,q2,q3,vd,bU⟩:=dB.out.eX (.cells B.cells.toArray 36);obtain⟨b5,w1,r1,r2,r3,jb,aP⟩:=vd.eX (.cells #[.slice none 0 0] 61);rw[bU] at r1;have eu:ag (b2<b5∧w.heap.size≤b2):=hZ (by omega);rw[q1,q2,r1,r2];have HF:ag (At w w1.drew _):=hZ jb.drew;clear dB q1 q2 q3 vd bU r1 r2 r3 jb aP;refine cJ (fun U=>U.cell? ⟨b2,2,none⟩=some (.slice (B.ad 2) (B.ls 2).length (B.cp 2))) (cB B HF) fun hHeld=>?_;obtain⟨U0,en⟩:=oQ (w1.drew);rw[en] at HF hHeld⊢;clear en;refine dr 0 1 2 ?_;refine rE 3 fun K hK=>?_;go_simp
 (with_reducible refine(uS p HF.out).mono ?_)
 rintro e1 V2 ⟨ba,rfl,au⟩;have HF:=hZ au;clear au;refine kk hK (cB B HF) fun hHeld=>?_;clear hK K;refine rE 4 fun K hK=>?_;go_simp;obtain⟨bc,V3,g1,g2,-,au⟩:=HF.out.alloc (.cells #[.func (.func 129) #[] #[.pointer (some ⟨ba,0,none⟩)]] 45);rw[g1,g2];have HF:=hZ au;clear au g1 g2;refine kk hK (cB B HF) fun hHeld=>?_;clear hK K;refine rE 5 fun K hK=>?_;go_simp
 (with_reducible refine(jX (B.ad 2) (B.ls 2).length (B.cp 2) (some ⟨bc,0,none⟩) 1 1 HF.out).mono ?_)
 rintro e1 V4 ⟨b1,yv,rfl,au⟩;have HF:=hZ au;clear au;refine kk hK (cB B HF) fun hHeld=>?_;clear hK K;refine dn ?_;clear hHeld;obtain⟨Y,hY⟩:∃Y:Nat→Prop,Y=fun k=>k<V4.heap.size∧k≠b5:=⟨_,rfl⟩;have tQ:∀k,Y k→k<V4.heap.size:=fun k hk=>by rw[hY] at hk;exact hk.1
 have IY:∀k,Y k→k≠b5:=fun k hk=>by rw[hY] at hk;exact hk.2
 have iD:∀k cs T,(k,Obj.cells cs T (0,0))∈_→T≠61→Y k:=fun k cs T hm h1=>by
  rw[hY];refine⟨HF.out.lt hm,fun e=>?_⟩;have q1:=HF.out.has _ hm;have q2:=HF.out.has (b5,.cells #[.slice none 0 0] 61 (0,0)) (by simp);simp only at q1 q2;rw[e,q2] at q1;injection q1 with q1;injection q1 with _ q1 _;exact h1 q1.symm
 have hold:∀k,bV w k→Y k:=fun k hk=>by
  unfold bV at hk;rw[hY];have:=eu.out;have:=HF.out.below.size;omega
 have yH:dH V4 Y B:=(HB.out.keeps (ej.gH HF.out.below fun _ h=>h)).mono hold;have y1:=iD b1 #[.slice (B.ad 2) (B.ls 2).length (B.cp 2)] 25 (by simp) (by decide);have y2:=iD yv #[.slice (some ⟨bc,0,none⟩) 1 1] 110 (by simp) (by decide);have yc:=iD bc #[.func (.func 129) #[] #[.pointer (some ⟨ba,0,none⟩)]] 45 (by simp) (by decide);have ya:=iD ba #[.int .i64 p] 3 (by simp) (by decide)
 have AW:=NH [⟨129,#[.pointer (some ⟨ba,0,none⟩)],fun e=>decide (e.item=p)⟩] (B.ls 2) (B.ad 2) (some ⟨bc,0,none⟩) (B.ls 2).length (B.cp 2) 1 1 b1 yv rfl (aV (HB.out.cap 2 (by decide)).1 (HB.out.cap 2 (by decide)).2) rfl (by decide) Y V4 tQ y1 y2
  (HF.out.boxed (by simp)) (HF.out.boxed (by simp)) (yH.at_ 2 (by decide)) (fun i v hv=>by
    have fh:=HF.out.cell (b:=bc) (cs:=#[.func (.func 129) #[] #[.pointer (some ⟨ba,0,none⟩)]]) (t:=45) (by simp) (i:=i) (v:=v) (by simpa[jB.val] using hv);refine⟨_,rfl,yc,?_⟩;rw[show(⟨bc,0,none⟩:Addr).add i=⟨bc,i,none⟩ by simp[jy];omega]
    exact fh) (fun c hc=>by
    simp only[List.mem_cons,List.not_mem_nil,or_false] at hc;subst hc
    exact Qv p ba V4 Y ya (HF.out.boxed (by simp)))
 have HI:=hZ AW;have ki:=hZ (ay tQ IY);have CQ:ag (Boxed V4 b5 61 (.slice none 0 0)):=hZ (HF.out.boxed (by simp));have dI:ag (Below w.heap.size w V4):=hZ HF.out.below;have aL:ag (b5<V4.heap.size):=hZ CQ.out.lt;clear hY tQ IY iD hold yH y1 y2 yc ya AW;go_wp2_with fail;refine(wpIn_wide (n:=3)).1 ?_
 refine Kl (gf:=127) (lb:=#[.pointer (some ⟨b1,0,none⟩),.pointer (some ⟨yv,0,none⟩)]) rfl (enters_of Tryz.func127 (by kernel_rfl) rfl)
  HI.out (Below.refl _ _) (fun k hk=>hk.elim) (fun _=>rfl) (fun h k=>h.trans k)
  (fun W o k hk=>kZ (by have:=ki.out.1 k hk;omega))
  (fun pre W=> ∃v,Boxed W b5 61 v∧OL W (V4.heap.size+2) 75 3 bD v (pre.map fq)∧Below w.heap.size w W)
  (fun _ _ _=>False)
  ?hI (fun _ _ _ _ h _=>h.elim) ⟨_,CQ.out,OL.nil,dI.out⟩
  (fun b x=>{tmps:=#[B.val,.int .i64 p,.pointer (some ⟨b2,0,none⟩),cM,.slice none 0 0,.pointer (some ⟨b5,0,none⟩),.pointer (some ⟨b,0,none⟩),.pointer (some ⟨b2,2,none⟩),.slice (B.ad 2) (B.ls 2).length (B.cp 2),.int .i64 p,.func (.func 129) #[] #[.pointer (some ⟨ba,0,none⟩)],.slice (some ⟨bc,0,none⟩) 1 1,.func (.func 127) #[] #[.pointer (some ⟨b1,0,none⟩),.pointer (some ⟨yv,0,none⟩)],af.val x,cM,cM,cM,cM,cM,cM,cM,cM,cM,cM,cM,cM,cM,cM],defers:=[]})
  (fun b x W=>aR W b x) ?uV ?sF ?assign ?body ?done ?stop
 case hI=>
  rintro s A B' ⟨v,h1,h2,h3⟩ tt;have:=aL.out;refine⟨v,tt.boxed h1 (ud (by omega)),h2.keep fun g hg=>tt.block g (h2.lt g hg).2 ?_,tt.below h3 (aB _) (AR dI.out.size)⟩;rintro(e|e|e)
  · exact e
  · have:=(h2.lt g hg).1;omega
  · have:=(h2.lt g hg).1;omega
 case uV=>
  intro b x A B' hb ar h tt;refine(tt.block _ ar ?_).trans h;rintro(e|e|e)
  · exact e
  · omega
  · omega
 case sF=>
  intro A B' hs hb;exact ej.gH hb (fun k hk=>by have:=ki.out.1 k hk;omega)
 case assign=>
  intro l0 x W b K hb hle hK;subst hb
  dsimp only[tN]
  gi_wp2_with (first
   |((with_reducible refine Gl rfl (.tmp 6) (.tmp 13) rfl rfl x rfl rfl ?hi ?ho ?_);(case hi=>exact(IE x).out);(case ho=>rfl);intro w1 aH aq aP)
   |fail)
  exact hK _ aH aq aP
 case body=>
  rintro l0 pre x b W hle ar ⟨v,hv,cL,hB⟩ hx hl;obtain⟨A5,c5,rfl,-,-⟩:=cL.slice;obtain⟨k,hk⟩:=oQ ((pre.map fq).length);rw[hk] at hv cL;have HK:=hZ hk;have HV:=hZ hv;have HR:=hZ cL;have bA:=hZ hB;have si:=hZ hx;have qm:k<(B.ls 2).length:=by rw[←hk,rP];exact hl
  have oA:ag (k+1≤1000000):=hZ (by have:=HL.out;omega);have x8:=si.out.cell (i:=8) rfl;have x5:=si.out.cell (i:=5) rfl;have x6:=si.out.cell (i:=6) rfl;have c0:=hv.cell;clear hk hv cL hB hx hl qm;have gw:=aY W (.cells #[.int .i64 x.item,.int .i64 x.az,.int .i64 x.bj] 75);have g_:=hZ gw;clear gw
  gi_wp2_with (first
   | (gi_at_builtin;refine TT rfl (.tmp 14) (.tmp 22) rfl C' (.slice A5 k c5) (pre.map fq) k HK.out rfl (HR.out.below g_.out (aB _)) (fq x) W.heap.size #[.int .i64 x.item,.int .i64 x.az,.int .i64 x.bj] rfl (bG W _) rfl rfl (fun u hu=>by simp[bD,fq] at hu;rcases hu with rfl|rfl|rfl<;>rfl) (by have:=oA.out;have:=HK.out;unfold maxLen;omega) (by have:=oA.out;have:=HK.out;omega) (by simp;omega) ?_
      intro g' fI w1 iT ep lD kx aq;have iF:Boxed w1 b5 61 (.slice A5 k c5):=(ep.block b5 (by have:=g_.out.size;have:=HV.out.lt;omega) (fun e=>by have:=(HR.out.lt b5 e.symm).1;have:=aL.out;omega)).trans ((g_.out.block _ HV.out.lt).trans HV.out);have cA:=hZ iF;have lL:=hZ iT;have rX:=hZ ep;have fj:=hZ lD;have c1:=iF.cell;have f1:=iF.frozen
      clear iT ep lD kx aq iF)
   |fail)
  have hT:aO (fun q=>q=b5) w1 (w1.setCell ⟨b5,0,none⟩ (.slice (some ⟨g',0,none⟩) (k+1) fI)):=aO.setCell _ _ _ rfl;have jq:∀q,(mi A5 k c5).ownBlock=some q→V4.heap.size+2≤q:=fun q hq=>(HR.out.lt q hq).1;have DC:=aL.out;have aU:=g_.out.size;have oH:aO (fun q=>(mi A5 k c5).ownBlock=some q) (W.alloc (.cells #[.int .i64 x.item,.int .i64 x.az,.int .i64 x.bj] 75)) w1:=Fc rX.out;have aq:Below (V4.heap.size+2) W w1:=oH.below (g_.out.mono (by omega)) (by omega) (fun q hq=>jq q hq)
  have IZ:ej Y W (w1.setCell ⟨b5,0,none⟩ (.slice (some ⟨g',0,none⟩) (k+1) fI)):=fun q hq=>by
   have h1:=ki.out.1 q hq;have h2:=ki.out.2 q hq;exact(Below.heap_setCell _ _ _ _ h2).trans (aq.block q (by omega))
  refine⟨?_,IZ,.slice (some ⟨g',0,none⟩) (k+1) fI,cA.out.set _,?_,?_⟩
  · refine((KeepsFrom.gH g_.out).trans ⟨oH.size,fun q o h1 h2 h3=>?_⟩).trans (KeepsFrom.rB hT (fun q e=>by omega))
    refine(oH.block q (Array.getElem?_eq_some_iff.1 h2).1 fun e=>?_).trans h2;have cL:=HR.out.below g_.out (aB _);rcases cL.2 with⟨e1,_⟩|⟨g9,Xz,XM,e1,_,h9,_⟩
    · rw[e1] at e;cases e
    · rw[e1] at e
      (have:g9=q:=by injection e);subst this;rw[h9] at h2;injection h2 with h2;rw[←h2] at h3;cases h3
  · rw[List.map_append,List.map_singleton]
    exact lL.out.keep fun q hq=>Below.heap_setCell _ _ _ _ (fun e=>by
     (have:g'=q:=by injection hq);rcases fj.out with h1|h1
     · have:=jq g' h1;simp only at e;omega
     · simp only at e;omega)
  · have:=dI.out.size
    (have hlw:w.heap.size≤b5:=by have:=eu.out;omega);exact hT.below (bA.out.trans (aq.mono (by omega))) (aB _) (fun q hq=>by omega)
 case done=>
  rintro xs W hS ⟨v,hv,cL,hB⟩ hK
  have Sy:xs=(B.ls 2).filter fun e=>decide (e.item=p):=by
   rw[hS]
   congr 1
   funext e
   simp[dw]
  subst Sy;have iE:(((B.ls 2).filter fun e=>decide (e.item=p)).map fq).length≤1000000:=by rw[rP];exact aV (List.length_filter_le _ _) HL.out
  have Zp:((B.ls 2).filter fun e=>decide (e.item=p)).map fq=qb B p:=rfl;rw[Zp] at cL iE;obtain⟨ll,DB⟩:=oQ (qb B p);have HFL:=hZ DB;rw[DB] at cL iE;have tz:=hZ iE;have HV:=hZ hv;have HR:=hZ cL;have bA:=hZ hB;have fR:=hZ hK;obtain⟨A5,c5,rfl,-,-⟩:=cL.slice;obtain⟨n5,Fy⟩:=oQ (ll.length);rw[Fy] at HV HR hv cL;have La:=hZ Fy;have c0:=hv.cell;have Jt:(mi A5 n5 c5).ownBlock≠some b5:=fun e=>by have:=(cL.lt b5 e).1;have:=aL.out;omega
  have Hj:=hZ Jt;clear hv cL hB hK hS DB iE Jt Zp Fy
  go_wp2_with (first
   | (go_at_call 79;(with_reducible refine(anC HR.out tz.out).mono ?_);rintro e3 w3 ⟨rfl,l3,FC,rm,lC,kR⟩
      have HN3:ag (n5=l3.length):=hZ FC.len.1;have HP:=hZ rm;have HU:=hZ lC;have sh:=hZ kR;have mU:=HR;have HR:=hZ FC;have rr:Boxed w3 b5 61 (.slice A5 n5 c5):=kR.boxed HV.out Hj.out;have c3:=rr.cell
      clear FC rm lC kR rr c0)
   | (go_at_call 81;(with_reducible refine(aiv HR.out (by have:=HP.out.length_eq;have:=tz.out;omega)).mono ?_);rintro e4 w4 ⟨v4,rfl,ZX,FI,oT⟩
      have k_:=hZ ZX;have HT4:=hZ FI;have yn:=hZ oT
      clear ZX FI oT)
   |fail)
  have uQ:ag (aO (fun q=>(mi A5 n5 c5).ownBlock=some q) W w4):=hZ (sh.out.trans HT4.out);have kO:w4.heap[V4.heap.size]?=some (.deferred (some [])):=(uQ.out.block _ (Array.getElem?_eq_some_iff.1 fR.out).1 (fun e=>by have:=(mU.out.lt _ e).1;omega)).trans fR.out;have vn:kY l3=q8 B p:=ajc (by rw[HFL.out];exact HP.out) HU.out;refine⟨by simp,.inl ⟨_,_,rfl,run_takeDeferred kO,?_⟩⟩;refine⟨_,results_tmp rfl _ _ _,_,rfl,?_,?_⟩
  · rw[←vn]
    have aU:=dI.out.size;exact(k_.out.keep fun g hg=>kZ (by have:=(k_.out.lt g hg).1;omega)).base (by omega)
  · have aU:=dI.out.size
    have aK:=uQ.out.below bA.out (aB _) (fun q hq=>by have:=(mU.out.lt q hq).1;omega);exact(aO.putObj (Z:=fun k=>k=V4.heap.size) w4 _ _ rfl).below aK (aB _) (fun k hk=>by omega)
 case stop=>
  rintro c pre W _ h _;exact h.elim
end Go.Proofs.YteeifhlhpiimoaaGreatDoor
end
section
namespace Go.Proofs.YteeifhlhpiimoaaGreatDoor
open Go Go.RowKit Go.Shelf
attribute [local go_sem] Oper.semAt_some
def mg (l:List af) (p:Int):List bY:=(l.filter fun e=>decide (e.item=p)).map fq
theorem acu {l:List af} {p:Int} {i:Nat} {e:af} (he:l[i]?=some e) (h:e.item≠p):mg (l.take (i+1)) p=mg (l.take i) p:=by
 unfold mg;rw[gV,s7,he];simp[h]
theorem TC {l:List af} {p:Int} {i:Nat} {e:af} (he:l[i]?=some e) (h:e.item=p):mg (l.take (i+1)) p=mg (l.take i) p++[fq e]:=by
 unfold mg;rw[gV,s7,he];simp[h]
theorem anU {l:List af} {p:Int} {s:bY} (h:s∈mg l p):s.item=p:=by
 unfold mg at h;obtain⟨e,he,rfl⟩:=Ox.1 h;exact of_decide_eq_true (Em.1 he).2
def pH (a b:bY):Bool:=decide (a.item<b.item)||(decide (a.item=b.item)&&dQ bY.az bY.bj a b)
theorem SL {a b:bY} (h:a.item=b.item):pH a b=dQ bY.az bY.bj a b:=by
 unfold pH;rw[decide_eq_false (by omega),decide_eq_true h];simp
theorem SM (a b:bY):pH a b=true∨a=b∨pH b a=true:=by
 unfold pH dQ
 by_cases h1:a.item=b.item
 · by_cases h2:a.az=b.az
   · by_cases h3:a.bj=b.bj
     · right;left;cases a;cases b;simp_all
     · simp;omega
   · simp;omega
 · simp;omega
theorem aa4 (a b c:bY) (h:pH a b=true) (k:pH b c=true):pH a c=true:=by unfold pH dQ at*;simp at*;omega
theorem alh:p7 pH:=⟨fun a b h=>by unfold pH dQ at*;simp at*;omega,fun a b c h k=>by unfold pH dQ at*;simp at*;omega⟩
def p6 (p:Int) (src out:List bY):Prop:=pZ pH src out∧∀s∈src,s.item=p
theorem p6.aaE {p:Int} {l:List af} {out:List bY} {x:af} {k:Nat} (h:p6 p (mg l p) out) (hp:x.item=p) (hk:k≤out.length) (h1:∀j y,j<k→out[j]?=some y→dQ bY.az bY.bj y (fq x)=true) (h2:∀y,out[k]?=some y→dQ bY.az bY.bj y (fq x)=false∧y≠fq x):p6 p (mg l p++[fq x]) ((out.take k++[fq x])++out.drop k):=by
 have hi:∀{j:Nat} {y:bY},out[j]?=some y→y.item=(fq x).item:=fun{j y} hy=>by
  rw[h.2 y ((h.1.2 y).1 (mP hy)),←hp];rfl
 refine⟨h.1.ins SM aa4 hk (fun j y hj hy=>by rw[SL (hi hy)];exact h1 j y hj hy) fun y hy=>by rw[SL (hi hy)];exact h2 y hy,fun s hs=>?_⟩;rcases pR.1 hs with q|q
 · exact h.2 s q
 · rw[fQ.1 q,←hp];rfl
theorem p6.akF {p:Int} {l:List af} {out:List bY} {x:af} {k:Nat} (h:p6 p (mg l p) out) (hp:x.item=p) (hx:out[k]?=some (fq x)):p6 p (mg l p++[fq x]) out:=⟨h.1.keep hx,fun s hs=>by
 rcases pR.1 hs with q|q
 · exact h.2 s q
 · rw[fQ.1 q,←hp];rfl⟩
theorem F2 (x:bY):∀u∈bD x,u.oneCell'=true:=fun u hu=>by simp[bD] at hu;rcases hu with rfl|rfl|rfl<;>rfl
theorem ahR (s:bY):(bD s).toArray.all (·.oneCell')=true:=by simp[bD,lH]
theorem ab8 (w:ae) (s:bY):(Instr.buildSlice 61 1 #[(0,.agg (bD s).toArray)]).run ah w=.ok (.slice (some ⟨w.heap.size,0,none⟩) 1 1) (w.alloc (.cells (bD s).toArray 75)):=by
 obtain⟨i,h1,h2,h3,h4⟩:=info_parts (show(ah.info? 75).map (fun i=>(i.zero,i.size,i.bytes))=some (some (.agg #[.int .i64 0,.int .i64 0,.int .i64 0]),3,24) by kernel_rfl);refine agd w 61 75 1 _ _ i _ afE h1 h2 (by rw[h3];decide) (by rw[h3];decide) ?_;rw[h3]
 kernel_rfl
theorem aaP {d:Array bY} (hs:∀i j,i≤j→j<d.size→pH d[j]! d[i]! =false):∀m,m≤d.size→wH pH (xC d m)∧∀x,x∈xC d m↔ ∃j,j<m∧d[j]! =x
 |0,_=>⟨by simp[xC,wH],fun x=>by simp[xC]⟩
 | m + 1,hm=>by
   obtain⟨h1,h2⟩:=aaP hs m (by omega);rw[Lib.compactUpTo_succ]
   by_cases hk:zP d m=true
   · rw [if_pos hk]
     refine⟨?_,fun x=>?_⟩
     · unfold wH at h1⊢
       rw[List.pairwise_append];refine⟨h1,List.pairwise_singleton _ _,fun x hx y hy=>?_⟩;obtain rfl:=fQ.1 hy;obtain⟨j,hj,rfl⟩:=(h2 x).1 hx;(have bf:m=0∨d[m]! ≠d[m-1]! :=by simpa[zP] using hk);have a1:=hs j (m-1) (by omega) (by omega);have a2:=hs (m-1) m (by omega) (by omega);rcases SM d[m-1]! d[m]! with q|q|q
       · rcases SM d[j]! d[m]! with r|r|r
         · exact r
         · rw[r] at a1;rw[q] at a1;cases a1
         · have:=aa4 _ _ _ q r;rw[a1] at this;cases this
       · rcases bf with e|e
         · omega
         · exact absurd q.symm e
       · rw[a2] at q;cases q
     · rw[pR,fQ,h2 x]
       constructor
       · rintro(⟨j,hj,e⟩|rfl)
         · exact⟨j,by omega,e⟩
         · exact⟨m,by omega,rfl⟩
       · rintro⟨j,hj,e⟩
         by_cases Dy:j=m
         · subst Dy;exact .inr e.symm
         · exact .inl ⟨j,by omega,e⟩
   · rw [if_neg hk,List.append_nil]
     refine⟨h1,fun x=>?_⟩;rw[h2 x];(have bf:¬(m=0∨d[m]! ≠d[m-1]!):=by simpa[zP] using hk);constructor
     · rintro⟨j,hj,e⟩;exact⟨j,by omega,e⟩
     · rintro⟨j,hj,e⟩
       by_cases Dy:j=m
       · subst Dy
         refine⟨j-1,by omega,?_⟩;have:d[j]! =d[j-1]! :=Decidable.byContradiction fun q=>bf (.inr q);rw[←this];exact e
       · exact⟨j,by omega,e⟩
theorem p6.QH {B:bP} {p:Int} {out:List bY} (h:p6 p (mg (B.ls 2) p) out):out=q8 B p:=by
 unfold q8;obtain⟨ss,t_⟩:=oQ (dc (dQ bY.az bY.bj) (qb B p));have hp:=xt (lt:=dQ bY.az bY.bj) (qb B p);have hu:=zC (EZ bY.az bY.bj) (qb B p);rw[t_] at hp hu⊢;have ZD:∀s∈ss,s.item=p:=fun s hs=>QI (hp.mem_iff.1 hs)
 have hd:∀i j,i≤j→j<ss.toArray.size→pH ss.toArray[j]! ss.toArray[i]! =false:=fun i j dh hj=>by
  have Jh:j<ss.length:=by simpa using hj
  rw[getElem!_pos _ i (by simp;omega),getElem!_pos _ j hj];rw[SL (by rw[ZD _ (by simp),ZD _ (by simp)])];rcases fB i j with h|h
  · have:=List.pairwise_iff_getElem.1 hu i j (by omega) Jh h
    simpa using this
  · have:i=j:=by omega
    subst this;unfold dQ;simp
 obtain⟨h1,h2⟩:=aaP hd ss.length (by simp);have hc:kY ss=xC ss.toArray ss.length:=rfl;refine Nx alh h.1.1 (by rw[hc];exact h1) fun x=>?_;rw[h.1.2 x,hc,h2 x];show x∈qb B p↔_;rw[←hp.mem_iff];constructor
 · intro hx
   obtain⟨j,hj,e⟩:=List.getElem_of_mem hx;refine⟨j,hj,?_⟩;rw[getElem!_pos _ j (by simpa using hj)];simpa using e
 · rintro⟨j,hj,e⟩
   rw[getElem!_pos _ j (by simpa using hj)] at e;rw[←e];simp
theorem amr (B:bP) (p:Int) (w:ae) (hB:dH w (bV w) B) (hm:(B.ls 2).length≤1000000):
 Calls ah 39 #[B.val,.int .i64 p] w fun e w'=> ∃v,e=.returned v∧OL w' w.heap.size 75 3 bD v (q8 B p)∧Below w.heap.size w w':=by
 have IE:=fun e:af=>hZ (di (e:=e));have IS:=fun e:af=>hZ (show(ah.info? 33).map (·.size)=some e.cells.toArray.size from di (e:=e));obtain⟨l,A,n,c,hl,HX,HA,HN⟩:=hB.zo (j:=2) (by decide) hm;have Ex:=hZ (fun out (h:p6 p (mg l p) out)=>show out=q8 B p from by rw[←hl] at h;exact h.QH);clear hB hl hm;obtain⟨b0,w0,q1,q2,q3,hf,bU⟩:=(At.start w).eX (.cells B.cells.toArray 36);have HQ:=hZ (ay q1 q2);have HF:=hZ hf;clear q1 q2 q3 hf bU
 go_enter Tryz.func39,Tryz.ntmps39
 go_wp2_with fail;obtain⟨q1,q2⟩:=HQ.out;rw[q1,q2];clear q1 q2
 go_loopw [5,6] (fun ov v wr=> ∃(i:Nat) (A5:Option Addr) (m c5:Nat) (out:List bY),v=.int .i64 (i:Int)∧ov=.slice A5 m c5∧i≤n∧ag (p6 p (mg (l.take i) p) out∧m≤i)∧ag (OL wr w.heap.size 75 3 bD (.slice A5 m c5) out)∧ag (At w wr [(b0,.cells B.cells.toArray 36 (0,0))])) (fun _ v _=>n-(intOf v).toNat)
 case atStart=>exact⟨0,none,0,0,[],rfl,rfl,ei _,hZ ⟨⟨⟨List.Pairwise.nil,fun x=>by simp[mg]⟩,fun s hs=>anU hs⟩,aB _⟩,hZ OL.nil,HF⟩
 case round =>
  clear HF;obtain⟨i,A5,m,c5,out,rfl,rfl,hi,HS,HO,HF⟩:=hrel;have x3:wr.cell? ⟨b0,2,none⟩=some (.slice A n c):=HF.out.cell (b:=b0) (cs:=B.cells.toArray) (t:=36) (by simp) (i:=2) HX.out
  by_cases ar:i<n
  · obtain ⟨x, b,HE,rfl,cy,cP⟩:=at9 HA HN HF.out.below ar
    have cX:=hZ cP;have aL:=hZ ar;(have d1:decide (i<n)=true:=by simp[ar]);(have z1:(0:Int)≤(i:Int):=by omega);(have z2:(i:Int)<(n:Int):=by omega);have wk:=nx ⟨ar,HN.out.2⟩;have dC:ag (out.length=m):=hZ HO.out.len.1.symm;have HM:ag (m≤i∧i<n∧n≤1000000):=hZ ⟨HS.out.2,ar,HN.out.2⟩;clear cP ar
    go_wp2_with (first
     |(with_reducible refine lx (.tmp 21) b (i*18) cX.out (IE _).out Tryz.underlying33 ?_)
     | ((with_reducible refine oh rfl (.tmp 7) (.tmp 22) rfl rfl x ?hx ?hy (IS _).out ?hold ?_);(case hx=>rfl);(case hy=>rfl);(case hold=>rfl);intro V he hb hs
        obtain⟨be,fS⟩:=oQ (wr.heap.size);rw[fS] at he⊢;have y8:=he.cell (i:=8) rfl;have y5:=he.cell (i:=5) rfl;have y6:=he.cell (i:=6) rfl;have ft:=hZ he;have dI:=hZ hb
        clear he hb hs fS)
     |(refine wpList_build rfl 75 #[(0,.tmp 24),(1,.tmp 26),(2,.tmp 28)] rfl (bD (fq x)).toArray (by kernel_rfl) ?_)
     | ((with_reducible refine nK rfl 75 (.tmp 8) (.tmp 29) rfl rfl V.heap.size (bD (fq x)).toArray #[.int .i64 0,.int .i64 0,.int .i64 0] ?hx ?hy ?hi ?hn ?ho ?h1 ?_);(case hx=>rfl);(case hy=>rfl);(case hi=>kernel_rfl);(case hn=>exact bG _ _);(case ho=>rfl);(case h1=>exact ahR _);intro wi jl lB
        have cZ:Below V.heap.size V wi:=lB.below (aY V _) (aB _) (fun k hk=>by omega);obtain⟨b8,eN⟩:=oQ (V.heap.size);have x_:=hZ (ft.out.below cZ);have GY:=aw dI cZ;rw[eN] at jl⊢;have tD:=hZ jl
        clear y8 y5 y6 cZ eN jl lB)
     |fail)
    have r_:=hZ (HO.out.below GY.out (aB _));have oz:=hZ (HF.out.step GY.out);clear HO HF x3 d1;have uI:ag (Below wi.heap.size wi wi):=hZ (Below.refl _ _)
    go_loopw [9] (fun kv W=> ∃k:Nat,kv=.int .i64 (k:Int)∧k≤m∧ag (∀j y,j<k→out[j]?=some y→dQ bY.az bY.bj y (fq x)=true)∧ag (Below wi.heap.size wi W)) (fun v _=>m-(intOf v).toNat)
    case atStart=>exact⟨0,rfl,ei _,hZ fun j y hj _=>absurd hj (ag6 _),uI⟩
    case round =>
     clear uI;obtain⟨k,rfl,hk,HK,fi⟩:=hrel
     by_cases dR:k<m
     · obtain ⟨g,cg,e1,hg,f_,tV,yN⟩:=r_.out.form (by have:=dC.out;omega)
       (obtain rfl:A5=some ⟨g,0,none⟩:=by injection e1);obtain⟨y,hy⟩:∃y,out[k]?=some y:=⟨_,bp (by have:=dC.out;omega)⟩;have HY:=hZ hy;have Hu:=hZ (fun W (h:Below wi.heap.size wi W)=>ay (ay (F_ (r_.out.below h (aB _)) HY.out) (bl (W:=W) (b:=b8) (cs:=bD (fq x)) (T:=75) ((h.block b8 (bt tD.out)).trans tD.out))) (show W.cell? ⟨be,8,none⟩=some (.int .i64 x.item) from(x_.out.below h).cell (i:=8) rfl));have T5:wr.cell? ⟨g,k*3+1,none⟩=some (.int .i64 y.az):=(Hu.out wr fi.out).1.1 1 _ rfl;have yk2:wr.cell? ⟨g,k*3+2,none⟩=some (.int .i64 y.bj):=(Hu.out wr fi.out).1.1 2 _ rfl;have T6:wr.cell? ⟨b8,1,none⟩=some (.int .i64 x.az):=(Hu.out wr fi.out).1.2 1 _ rfl;have ys2:wr.cell? ⟨b8,2,none⟩=some (.int .i64 x.bj):=(Hu.out wr fi.out).1.2 2 _ rfl;(have d2:decide (k<m)=true:=by simp[dR]);(have z3:(0:Int)≤(k:Int):=by omega);(have z4:(k:Int)<(m:Int):=by omega);have D4:=nx ⟨dR,show m≤1000000 by have:=HM.out;omega⟩;have i_:=hZ dR;obtain⟨q1,jL⟩:=oQ (decide (y.az<x.az));obtain⟨q2,kQ⟩:=oQ ((y.az==x.az));obtain⟨q3,vw⟩:=oQ (decide (y.bj<x.bj));have He:ag (dQ bY.az bY.bj y (fq x)=(q1||(q2&&q3))):=hZ (by rw[←jL,←kQ,←vw];rfl);clear e1 hg f_ tV yN hy dR;cases q1<;>cases q2<;>cases q3
       all_goals
        go_wp2_with fail
        go_quiet (fail)
        rename_i nq
        obtain⟨W1,b_⟩:=oQ (wr.drewN nq);have lI:ag (Below wi.heap.size wi W1):=hZ (by rw[←b_];exact fi.out.trans (qD _ _ _));rw[b_];clear b_ fi;clear T5 yk2 T6 ys2
       iterate 3
        · by_cases mO:x.item=p
          · have d4:(x.item !=p)=false:=by simp[mO]
            have i':=hZ mO;obtain⟨q,hq⟩:=oQ (vP y (fq x));have CE:=hZ hq;have nS:ag (∀W,(binOp .eql 75 (.agg (bD y).toArray) (.agg (bD (fq x)).toArray)).run ah W=.ok (.bool q) W):=hZ (fun W=>by rw[←hq];exact Yh _ _ W);have o':ag (Below wi.heap.size wi W1.drew):=hZ (Below.drew lI.out);clear hq;go_wp2_with fail;refine cJ (fun U=>(U.rangeAt g (k*3) (bD y)∧U.rangeAt b8 0 (bD (fq x)))∧U.cell? ⟨be,8,none⟩=some (.int .i64 x.item)) (Hu.out W1.drew o'.out) fun hHeld=>?_;refine bg 0 1 2 3 ?_;refine bg 4 5 6 7 ?_;refine bg 8 9 10 11 ?_;refine tk 12 ?_;refine tl 13 rfl (yx g (k*3) (by kernel_rfl) vS (fun w hw=>hw.1.1)) ?_;refine tl 14 rfl (yx b8 0 (by kernel_rfl) vS (fun w hw=>hw.1.2)) ?_;refine tl 15 rfl (NL (by rfl) 75 75 (.tmp 79) (.tmp 80) (by rfl) (.agg (bD y).toArray) (.agg (bD (fq x)).toArray) (by rfl) (by rfl) q (fun w=>Ys _ _ _ _ w) nS.out) ?_;refine eC 16 17 ?_;refine dn ?_;clear hHeld;cases q
            · have Ia:ag (y≠fq x):=hZ fun e=>(by have:=(zF _ _).2 e;rw[CE.out] at this;cases this)
              have fw:ag (k≤m∧m≤1000000∧(out.take k).length=k∧(out.drop k).length=m-k):=hZ (by have:=HM.out;have:=dC.out;rw[gD,pP];omega);have kE:=hZ (r_.out.below o'.out (aB _))
              go_wp2_with (first
               |((with_reducible refine BV rfl rfl (.tmp 85) (.tmp 86) (.tmp 84) (.tmp 87) 61 rfl rfl C' mN F2 kE.out ?h1 k fw.out.1 ?hx ?hk ?hv ?hy ?_);(case h1=>exact⟨fw.out.2.1,by decide⟩);(case hx=>rfl);(case hk=>rfl);(case hv=>rfl);(case hy=>rfl);intro v1 V1 h1 aq;have cA:=hZ h1;have aF:=hZ aq;have kF:ag (V1.rangeAt b8 0 (bD (fq x))):=hZ (bl ((aq.mono o'.out.size).block b8 (bt tD.out)|>.trans (o'.out.block b8 (bt tD.out)|>.trans tD.out)));clear h1 aq)
               |((with_reducible refine GG rfl 75 (.tmp 8) rfl b8 0 ?hx (bD (fq x)) _ kF.out vS rfl ?hi ?_);(case hx=>rfl);(case hi=>kernel_rfl))
               |((with_reducible refine sT rfl rfl (.tmp 90) (.tmp 89) (.tmp 91) 61 rfl rfl C' ?h1 (fq x) (mN _) ?h2 (.agg (bD (fq x)).toArray) ?hx ?hr v1 (out.take k) k ?h3 W1.drew.heap.size aF.out.size cA.out ?hv ?hy ?_);(case h1=>decide);(case h2=>exact F2 _);(case hr=>exact fun w=>ab8 w _);(case h3=>(have:=fw.out;omega));(case hx=>rfl);(case hv=>rfl);(case hy=>rfl);intro A2 c2 V2 h2 aA;have cI:=hZ h2;have aG:=hZ (aF.out.trans aA);have gL:=hZ (kE.out.below aG.out (aB _));clear h2 aA)
               |((with_reducible refine BW rfl rfl (.tmp 94) (.tmp 95) (.tmp 93) (.tmp 96) 61 rfl rfl C' mN F2 gL.out ?h1 k fw.out.1 ?hx ?hk (.slice A2 (k+1) c2) (out.take k++[fq x]) (m+1) ?h3 W1.drew.heap.size aG.out.size cI.out ?hv ?hy ?_);(case h1=>exact⟨fw.out.2.1,by decide⟩);(case h3=>(have:=fw.out;rw[eV];simp only[uy];omega));(case hx=>rfl);(case hk=>rfl);(case hv=>rfl);(case hy=>rfl);intro A3 c3 V3 h3 aK;have mu:=hZ h3;have a_:=hZ (aG.out.trans aK);clear h3 aK)
               |fail)
              have lg:ag (p6 p (mg (l.take (i+1)) p) ((out.take k++[fq x])++out.drop k)):=hZ (by rw[TC HE.out i'.out];exact HS.out.1.aaE i'.out (by have:=fw.out;have:=dC.out;omega) HK.out (fun z hz=>by rw[HY.out] at hz;cases hz;exact⟨He.out.trans rfl,Ia.out⟩));have rW:=hZ (oz.out.step o'.out)
              go_roundw
              case rel=>exact⟨i+1,A3,_,c3,_,rfl,rfl,aL.out,hZ ⟨lg.out,by have:=HM.out;omega⟩,hZ (mu.out.base rW.out.below.size),hZ (rW.out.step a_.out)⟩
              case measure=>simp[intOf];have:=aL.out;omega
            · have Ia:ag (y=fq x):=hZ ((zF _ _).1 CE.out)
              have lg:ag (p6 p (mg (l.take (i+1)) p) out∧m≤i+1):=hZ ⟨by rw[TC HE.out i'.out];exact HS.out.1.akF i'.out (Ia.out▸HY.out),by have:=HS.out.2;omega⟩;have kE:=hZ (r_.out.below o'.out (aB _));go_wp2_with fail
              go_roundw
              case rel=>exact⟨i+1,_,_,c5,out,rfl,rfl,aL.out,lg,kE,hZ (oz.out.step o'.out)⟩
              case measure=>simp[intOf];have:=aL.out;omega
          · have d4:(x.item !=p)=true:=by simp[mO]
            have i':=hZ mO;have y8:W1.cell? ⟨be,8,none⟩=some (.int .i64 x.item):=(x_.out.below lI.out).cell (i:=8) rfl;go_wp2_with fail
            go_quiet (fail)
            rename_i nq
            obtain⟨W2,eY⟩:=oQ (W1.drewN nq);have rV:ag (Below wi.heap.size wi W2):=hZ (by rw[←eY];exact lI.out.trans (qD _ _ _));rw[eY];clear eY lI;clear y8;have lg:ag (p6 p (mg (l.take (i+1)) p) out∧m≤i+1):=hZ ⟨by rw[acu HE.out i'.out];exact HS.out.1,by have:=HS.out.2;omega⟩;have kE:=hZ (r_.out.below rV.out (aB _));go_wp2_with fail
            go_roundw
            case rel=>exact⟨i+1,_,_,c5,out,rfl,rfl,aL.out,lg,kE,hZ (oz.out.step rV.out)⟩
            case measure=>simp[intOf];have:=aL.out;omega
       iterate 5
        · have qM:ag (∀j y,j<k+1→out[j]?=some y→dQ bY.az bY.bj y (fq x)=true):=hZ fun j z hj hz=>by
           rcases fB j k with h|h
           · exact HK.out j z h hz
           · obtain rfl:j=k:=by omega
             rw[HY.out] at hz;cases hz;exact He.out.trans rfl
          go_wp2_with fail
          go_roundw
          case rel=>exact⟨k+1,rfl,i_.out,qM,lI⟩
          case measure=>simp[intOf];have:=i_.out;omega
     · have d2:decide (k<m)=false:=by simp[dR]
       (obtain rfl:k=m:=by omega);go_wp2_with fail
       go_quiet (fail)
       rename_i nq
       obtain⟨W1,b_⟩:=oQ (wr.drewN nq);have lI:ag (Below wi.heap.size wi W1):=hZ (by rw[←b_];exact fi.out.trans (qD _ _ _));rw[b_];clear b_ fi
       by_cases mO:x.item=p
       · have d4:(x.item !=p)=false:=by simp[mO]
         have i':=hZ mO;have y8:W1.cell? ⟨be,8,none⟩=some (.int .i64 x.item):=(x_.out.below lI.out).cell (i:=8) rfl;go_wp2_with fail
         go_quiet (fail)
         rename_i nq
         obtain⟨W2,eY⟩:=oQ (W1.drewN nq);have rV:ag (Below wi.heap.size wi W2):=hZ (by rw[←eY];exact lI.out.trans (qD _ _ _));rw[eY];clear eY lI;clear y8;have fw:ag (k≤k∧k≤1000000∧(out.take k).length=k∧(out.drop k).length=k-k):=hZ (by have:=HM.out;have:=dC.out;rw[gD,pP];omega);have kE:=hZ (r_.out.below rV.out (aB _))
         go_wp2_with (first
          |((with_reducible refine BV rfl rfl (.tmp 85) (.tmp 86) (.tmp 84) (.tmp 87) 61 rfl rfl C' mN F2 kE.out ?h1 k fw.out.1 ?hx ?hk ?hv ?hy ?_);(case h1=>exact⟨fw.out.2.1,by decide⟩);(case hx=>rfl);(case hk=>rfl);(case hv=>rfl);(case hy=>rfl);intro v1 V1 h1 aq;have cA:=hZ h1;have aF:=hZ aq;have kF:ag (V1.rangeAt b8 0 (bD (fq x))):=hZ (bl ((aq.mono rV.out.size).block b8 (bt tD.out)|>.trans (rV.out.block b8 (bt tD.out)|>.trans tD.out)));clear h1 aq)
          |((with_reducible refine GG rfl 75 (.tmp 8) rfl b8 0 ?hx (bD (fq x)) _ kF.out vS rfl ?hi ?_);(case hx=>rfl);(case hi=>kernel_rfl))
          |((with_reducible refine sT rfl rfl (.tmp 90) (.tmp 89) (.tmp 91) 61 rfl rfl C' ?h1 (fq x) (mN _) ?h2 (.agg (bD (fq x)).toArray) ?hx ?hr v1 (out.take k) k ?h3 W2.heap.size aF.out.size cA.out ?hv ?hy ?_);(case h1=>decide);(case h2=>exact F2 _);(case hr=>exact fun w=>ab8 w _);(case h3=>(have:=fw.out;omega));(case hx=>rfl);(case hv=>rfl);(case hy=>rfl);intro A2 c2 V2 h2 aA;have cI:=hZ h2;have aG:=hZ (aF.out.trans aA);have gL:=hZ (kE.out.below aG.out (aB _));clear h2 aA)
          |((with_reducible refine BW rfl rfl (.tmp 94) (.tmp 95) (.tmp 93) (.tmp 96) 61 rfl rfl C' mN F2 gL.out ?h1 k fw.out.1 ?hx ?hk (.slice A2 (k+1) c2) (out.take k++[fq x]) (k+1) ?h3 W2.heap.size aG.out.size cI.out ?hv ?hy ?_);(case h1=>exact⟨fw.out.2.1,by decide⟩);(case h3=>(have:=fw.out;rw[eV];simp only[uy];omega));(case hx=>rfl);(case hk=>rfl);(case hv=>rfl);(case hy=>rfl);intro A3 c3 V3 h3 aK;have mu:=hZ h3;have a_:=hZ (aG.out.trans aK);clear h3 aK)
          |fail)
         have lg:ag (p6 p (mg (l.take (i+1)) p) ((out.take k++[fq x])++out.drop k)):=hZ (by rw[TC HE.out i'.out];exact HS.out.1.aaE i'.out (by have:=fw.out;have:=dC.out;omega) HK.out (fun z hz=>by rw[jz (by have:=dC.out;omega)] at hz;cases hz));have rW:=hZ (oz.out.step rV.out)
         go_roundw
         case rel=>exact⟨i+1,A3,_,c3,_,rfl,rfl,aL.out,hZ ⟨lg.out,by have:=HM.out;omega⟩,hZ (mu.out.base rW.out.below.size),hZ (rW.out.step a_.out)⟩
         case measure=>simp[intOf];have:=aL.out;omega
       · have d4:(x.item !=p)=true:=by simp[mO]
         have i':=hZ mO;have y8:W1.cell? ⟨be,8,none⟩=some (.int .i64 x.item):=(x_.out.below lI.out).cell (i:=8) rfl;go_wp2_with fail
         go_quiet (fail)
         rename_i nq
         obtain⟨W2,eY⟩:=oQ (W1.drewN nq);have rV:ag (Below wi.heap.size wi W2):=hZ (by rw[←eY];exact lI.out.trans (qD _ _ _));rw[eY];clear eY lI;clear y8;have lg:ag (p6 p (mg (l.take (i+1)) p) out∧k≤i+1):=hZ ⟨by rw[acu HE.out i'.out];exact HS.out.1,by have:=HS.out.2;omega⟩;have kE:=hZ (r_.out.below rV.out (aB _));go_wp2_with fail
         go_roundw
         case rel=>exact⟨i+1,_,_,c5,out,rfl,rfl,aL.out,lg,kE,hZ (oz.out.step rV.out)⟩
         case measure=>simp[intOf];have:=aL.out;omega
  · have d1:decide (i<n)=false:=by simp;omega
    have oz:ag (out=q8 B p):=hZ (Ex.out _ (by have:=HS.out.1;rwa[eE (by have:=HN.out.1;omega)] at this));go_wp2_with fail;go_ret;rw[←oz.out];exact⟨_,rfl,HO.out,HF.out.below⟩
end Go.Proofs.YteeifhlhpiimoaaGreatDoor
end
