/-
  Contract of yardstickref03's Valid; the like for what stands beside it. Conditions: at most 1000000 bytes.
-/
import Derived.Test.YteeifhlhpiimoaaGreatDoorXAm
import Derived.Test.YteeifhlhpiimoaaGreatDoorXAc
import Derived.Test.YteeifhlhpiimoaaGreatDoorXAd
import Derived.Test.YteeifhlhpiimoaaGreatDoorXAl
import Derived.Test.YteeifhlhpiimoaaGreatDoorXAe
import Derived.Test.YteeifhlhpiimoaaGreatDoorXAf
import Derived.Test.YteeifhlhpiimoaaGreatDoorXAj
import Derived.Test.YteeifhlhpiimoaaGreatDoorXAh
import Derived.Sort.Walk0
import Derived.Deep.MidRow
import Derived.Test.YteeifhlhpiimoaaGreatDoorXAa
set_option maxHeartbeats 4000000
set_option maxRecDepth 100000
open Array renaming getElem?_modify→qB,length_toList→oo
open Go renaming Act→cu,Calls→ax,Oper→aZ,Operand→ef,Program→eI,Value→ai,World→ae,bodyPost_ret→et,wpList_store_rowTo→Oh,yielded→gJ
open Go.Act renaming put→sV
open Go.Addr renaming add→jy
open Go.IntKind renaming i64→aQ,wrap_i64→aS
open Go.Proofs.Tryz renaming func150→NW,func151→NX,func154→Ku,func54→NZ,ntmps150→N6,ntmps151→N7,ntmps154→KA,ntmps54→N9,prog→ah,underlying29→pM,underlying33→bk
open Go.Region renaming wanted→eD
open Go.RowKit renaming Hid→ag
open Go.RowKit.Below renaming drew→eR,heap_setCell→fA,refl→bK
open Go.World renaming alloc_heap_new→bG,setCells→KH,setRow→qH
open Go.World.ownsRow renaming cellAt→U4,frozenAt→af5,stored→af6
open List renaming all_append→Vi,ext_getElem?→pO,getElem?_cons_succ→agN,getElem?_eq_getElem→bp,getElem?_eq_none→jz,getElem?_eq_some_iff→dL,getElem?_set_ne→GM,getElem?_set_self→GN,head?_eq_getElem?→Vo,length_cons→eF,length_eq_zero_iff→rO,length_set→s',range→dU,setIfInBounds_toArray→ta,set_cons_succ→tc,set_cons_zero→td,take_add_one→gV,take_of_length_le→eE
open Nat renaming div_le_self→GP,eq_zero_or_pos→fL,gcd→qJ,gcd_comm→OB,le_of_eq→eJ,le_refl→aB,le_trans→aV,lt_of_le_of_lt→KQ,lt_or_ge→fB,mod_lt→rQ,sub_self→KS,zero_le→ei
open UInt8 renaming toNat_inj→Ci
section
namespace Go.Proofs.YteeifhlhpiimoaaGreatDoor
open Go Go.RowKit Go.Shelf
attribute [local go_sem] Oper.semAt_some
def vL (t:List UInt8):Bool:=decide (t≠[])&&decide (t.length≤200)&&t.all dy&&(decide (t=[48])||decide (t.head?≠some 48))
theorem acG {l t:List UInt8} (h:eU l=t) (hc:l=t∨(l=45::t∧t≠[48])):cR l=vL t:=by
 unfold cR vL;rw[h];rcases hc with rfl|⟨rfl,h0⟩
 · rfl
 · rw[decide_eq_false (show ¬(45::t)=[48] by simp),decide_eq_false h0]
theorem aoF:cR [45,48]=false:=by decide
theorem F6 {t:List UInt8} {j:Nat} {c:UInt8} (h:t[j]?=some c) (hd:dy c=false):vL t=false:=by
 have:t.all dy=false:=by
  rw[List.all_eq_false];exact⟨c,List.mem_of_getElem? h,by rw[hd];simp⟩
 unfold vL;rw[this];simp
theorem Tc {t:List UInt8} (h:t.all dy=true):vL t=(decide (t≠[])&&decide (t.length≤200)&&(decide (t=[48])||decide (t.head?≠some 48))):=by unfold vL;rw[h];simp
theorem Tt (s:ByteArray) (hs:s.size≤1000000) (w:ae):ax ah 150 #[.string s] w (cC w (cR s.data.toList)):=by
 obtain⟨l,hl⟩:=oQ (s.data.toList);have iE:s.size=l.length:=by rw[←hl];exact oo.symm
 have key:∃t:ByteArray,(∃b,s.size≠0∧b=45∧(∀h:0<s.size,s[0].toNat=b)∧s.extract 1 s.size=t∧l=45::t.data.toList)∨(t=s∧eU l=l∧(s.size=0∨∃b,b≠45∧(∀h:0<s.size,s[0].toNat=b)∧s.size≠0)):=by
  cases ga:l with
  |nil=>exact⟨s,.inr ⟨rfl,rfl,.inl (by rw[iE,ga];rfl)⟩⟩
  | cons c l'=>
    have hp:0<s.size:=by rw[iE,ga];simp
    have h0:s[0]=c:=by
     have:=tI hl hp;rw[ga] at this;simpa using this.symm
    by_cases hc:c=45
    · subst hc
      refine⟨s.extract 1 s.size,.inl ⟨45,by omega,rfl,fun h=>by rw[h0];rfl,rfl,?_⟩⟩;rw[Lib.extract_data,hl,ga,iE,ga];simp
    · refine⟨s,.inr ⟨rfl,by rw[vO,if_neg hc],.inr ⟨c.toNat,fun e=>hc (Ci.1 e),fun h=>by rw[h0],by omega⟩⟩⟩
 obtain⟨t,key⟩:=key;obtain⟨k,hk⟩:=oQ (t.size);obtain⟨tl,pF⟩:=oQ (t.data.toList);have ic:tl.length=k:=by rw[←pF,←hk];exact oo
 have dW:=hZ ic;have HT:=hZ pF;have hg:(t.toList==[48])=decide (tl=[48]):=by rw[ByteArray.toList_eq,pF];by_cases h:tl=[48]<;>simp[h]
 have fJ:k≤1000000:=by
  rcases key with⟨b,h1,h2,h3,h4,h5⟩|⟨h1,h2,h3⟩
  · rw[h5,pF,eF] at iE;omega
  · rw[←hk,h1];exact hs
 have kD:=hZ fJ;rw[hl];clear ic fJ;obtain⟨Iw,Dq⟩:=oQ (decide (tl=[48]));rw[Dq] at hg;have K3:=hZ Dq;rcases key with⟨b,bU,rfl,hb,hx,ar⟩|⟨rfl,bW,hb⟩
 · have hp : 0 <s.size:=by omega
   have dt:=hb hp;rw[pF] at ar;have d1:decide ((0:Int)<(s.size:Int))=true:=by simp;omega
   by_cases sA:tl=[48]
   · have f_:(t.toList==[48])=true:=by rw[hg,←Dq,sA];rfl
     (have hv:cR l=false:=by rw[ar,sA];exact aoF);rw[hv];clear hg hb ar hv sA pF iE hl hs bU Dq
     go_enter NW,N6
     go_wp2_with fail;go_ret;exact⟨rfl,bK _ _⟩
   · obtain rfl:Iw=false:=by rw[←Dq];exact decide_eq_false sA
     have hv:cR l=vL tl:=acG (by rw[ar];rfl) (.inr ⟨ar,sA⟩);rw[hv];clear hb ar hv sA pF iE hl hs bU Dq
     go_enter NW,N6
     go_wp2_with fail;obtain⟨Iw,Zk⟩:∃e,e=false:=⟨_,rfl⟩;rw[←Zk] at K3 hg;clear hx dt hp d1 Zk
     go_loop [3] (fun iv=> ∃j:Nat,j≤k∧iv=.int .i64 (j:Int)∧ag ((tl.take j).all dy=true)) (fun iv=>match iv with|.int _ x=>k-x.toNat|_=>0)
     case atStart=>exact⟨0,ei _,rfl,hZ rfl⟩
     case round=>
      obtain⟨j,hj,rfl,HA⟩:=hrel;rcases fB j k with ar|Fp
      · have d1:decide (j<k)=true:=by simp[ar]
        (have n_:j<t.size:=by rw[hk];exact ar);obtain⟨ch,uY⟩:=oQ (t[j]);have hX:=tI HT.out n_;rw[uY] at hX;have HX:=hZ hX;obtain⟨c,hc⟩:=oQ (ch.toNat);have HC:=hZ hc;(have y1:(0:Int)≤(j:Int):=by omega);(have y2:(j:Int)<(k:Int):=by omega);(have w1:aQ.wrap ((j:Int)+1)=((j+1:Nat):Int):=by have:=kD.out;rw[aS];omega);clear hX
        by_cases h1:c<48
        · have b1:decide ((c:Int)<48)=true:=by simp;omega
          rw[F6 HX.out (by unfold dy;rw[HC.out];simp;omega)];go_wp2_with fail;go_ret;exact⟨rfl,bK _ _⟩
        · have b1:decide ((c:Int)<48)=false:=by simp;omega
          by_cases h2:57<c
          · have b2:decide (57<(c:Int))=true:=by simp;omega
            rw[F6 HX.out (by unfold dy;rw[HC.out];simp;omega)];go_wp2_with fail;go_ret;exact⟨rfl,bK _ _⟩
          · have b2:decide (57<(c:Int))=false:=by simp;omega
            have HN:ag ((tl.take (j+1)).all dy=true):=hZ (by
             rw[gV,HX.out,Vi,HA.out]
             simp[dy];rw[HC.out];omega)
            go_wp2_with fail
            go_round
            case rel=>exact⟨j+1,by omega,rfl,HN⟩
            case measure=>simp;omega
      · obtain rfl:j=k:=by omega
        (have d1:decide (j<j)=false:=by simp);have rh:=HA.out;rw[eE (by rw[dW.out];omega)] at rh;have hv:=Tc rh;rw[dW.out] at hv;clear rh;rcases fL j with rfl|Bj
        · have e1:decide ((0:Int)<((0:Nat):Int))=false:=by decide
          have oR:tl=[]:=rO.1 dW.out;have HV:ag (vL tl=false):=hZ (by rw[hv,oR];rfl);clear oR hv;go_wp2_with fail;go_ret;exact⟨(by rw[HV.out];rfl),bK _ _⟩
        · have e1:decide ((0:Int)<(j:Int))=true:=by simp;omega
          (have bf:decide (tl≠[])=true:=by have:=dW.out;refine decide_eq_true fun e=>?_;rw[e] at this;simp at this;omega);rw[bf] at hv;clear bf
          by_cases rb:j≤200
          · have e2:decide ((j:Int)≤200)=true:=by simp;omega
            rw[decide_eq_true rb,K3.out] at hv;(have n_:0<t.size:=by rw[hk];exact Bj);obtain⟨ch,uY⟩:=oQ (t[0]);have hX:=tI HT.out n_;rw[uY] at hX;obtain⟨c,hc⟩:=oQ (ch.toNat);obtain⟨g,vh⟩:=oQ (((c:Int) !=48))
            have hh:decide (tl.head?≠some 48)=g:=by
             rw[Vo,hX,←vh]
             by_cases h:c=48
             · have:ch=48:=Ci.1 (by rw[hc,h];rfl)
               rw[this,h];rfl
             · have:ch≠48:=fun e=>h (by rw[←hc,e];rfl)
               rw[decide_eq_true (by simpa using this)];simp;omega
            rw[hh] at hv;have HV:=hZ hv;clear hX hh hv;cases Iw
            · go_wp2_with fail
              go_ret;exact⟨(by rw[HV.out];simp),bK _ _⟩
            · go_wp2_with fail
              go_ret;exact⟨(by rw[HV.out];rfl),bK _ _⟩
          · have e2:decide ((j:Int)≤200)=false:=by simp;omega
            rw[decide_eq_false rb] at hv;have HV:=hZ hv;clear hv;go_wp2_with fail;go_ret;exact⟨(by rw[HV.out];rfl),bK _ _⟩
 · have hv : cR l=vL tl:=acG (by rw[bW,←hl,pF]) (.inl (by rw[←hl,pF]))
   rw[hv];clear hv bW pF iE hl hs Dq;rcases hb with h0|⟨b,I2,hb,aq⟩
   · have fp :k=0:=by rw[←hk];exact h0
     (have d0:decide (0<k)=false:=by rw[fp];decide);clear h0 fp
     go_enter NW,N6
     go_wp2_with fail;clear d0
     go_loop [3] (fun iv=> ∃j:Nat,j≤k∧iv=.int .i64 (j:Int)∧ag ((tl.take j).all dy=true)) (fun iv=>match iv with|.int _ x=>k-x.toNat|_=>0)
     case atStart=>exact⟨0,ei _,rfl,hZ rfl⟩
     case round=>
      obtain⟨j,hj,rfl,HA⟩:=hrel;rcases fB j k with ar|Fp
      · have d1:decide (j<k)=true:=by simp[ar]
        (have n_:j<t.size:=by rw[hk];exact ar);obtain⟨ch,uY⟩:=oQ (t[j]);have hX:=tI HT.out n_;rw[uY] at hX;have HX:=hZ hX;obtain⟨c,hc⟩:=oQ (ch.toNat);have HC:=hZ hc;(have y1:(0:Int)≤(j:Int):=by omega);(have y2:(j:Int)<(k:Int):=by omega);(have w1:aQ.wrap ((j:Int)+1)=((j+1:Nat):Int):=by have:=kD.out;rw[aS];omega);clear hX
        by_cases h1:c<48
        · have b1:decide ((c:Int)<48)=true:=by simp;omega
          rw[F6 HX.out (by unfold dy;rw[HC.out];simp;omega)];go_wp2_with fail;go_ret;exact⟨rfl,bK _ _⟩
        · have b1:decide ((c:Int)<48)=false:=by simp;omega
          by_cases h2:57<c
          · have b2:decide (57<(c:Int))=true:=by simp;omega
            rw[F6 HX.out (by unfold dy;rw[HC.out];simp;omega)];go_wp2_with fail;go_ret;exact⟨rfl,bK _ _⟩
          · have b2:decide (57<(c:Int))=false:=by simp;omega
            have HN:ag ((tl.take (j+1)).all dy=true):=hZ (by
             rw[gV,HX.out,Vi,HA.out]
             simp[dy];rw[HC.out];omega)
            go_wp2_with fail
            go_round
            case rel=>exact⟨j+1,by omega,rfl,HN⟩
            case measure=>simp;omega
      · obtain rfl:j=k:=by omega
        (have d1:decide (j<j)=false:=by simp);have rh:=HA.out;rw[eE (by rw[dW.out];omega)] at rh;have hv:=Tc rh;rw[dW.out] at hv;clear rh;rcases fL j with rfl|Bj
        · have e1:decide ((0:Int)<((0:Nat):Int))=false:=by decide
          have oR:tl=[]:=rO.1 dW.out;have HV:ag (vL tl=false):=hZ (by rw[hv,oR];rfl);clear oR hv;go_wp2_with fail;go_ret;exact⟨(by rw[HV.out];rfl),bK _ _⟩
        · have e1:decide ((0:Int)<(j:Int))=true:=by simp;omega
          (have bf:decide (tl≠[])=true:=by have:=dW.out;refine decide_eq_true fun e=>?_;rw[e] at this;simp at this;omega);rw[bf] at hv;clear bf
          by_cases rb:j≤200
          · have e2:decide ((j:Int)≤200)=true:=by simp;omega
            rw[decide_eq_true rb,K3.out] at hv;(have n_:0<t.size:=by rw[hk];exact Bj);obtain⟨ch,uY⟩:=oQ (t[0]);have hX:=tI HT.out n_;rw[uY] at hX;obtain⟨c,hc⟩:=oQ (ch.toNat);obtain⟨g,vh⟩:=oQ (((c:Int) !=48))
            have hh:decide (tl.head?≠some 48)=g:=by
             rw[Vo,hX,←vh]
             by_cases h:c=48
             · have:ch=48:=Ci.1 (by rw[hc,h];rfl)
               rw[this,h];rfl
             · have:ch≠48:=fun e=>h (by rw[←hc,e];rfl)
               rw[decide_eq_true (by simpa using this)];simp;omega
            rw[hh] at hv;have HV:=hZ hv;clear hX hh hv;cases Iw
            · go_wp2_with fail
              go_ret;exact⟨(by rw[HV.out];simp),bK _ _⟩
            · go_wp2_with fail
              go_ret;exact⟨(by rw[HV.out];rfl),bK _ _⟩
          · have e2:decide ((j:Int)≤200)=false:=by simp;omega
            rw[decide_eq_false rb] at hv;have HV:=hZ hv;clear hv;go_wp2_with fail;go_ret;exact⟨(by rw[HV.out];rfl),bK _ _⟩
   · have hp : 0<t.size:=by omega
     have dt:=hb hp;(have d0:decide (0<k)=true:=by simp;omega);(have d2:((b:Int)==45)=false:=by simp;omega);clear hb aq I2
     go_enter NW,N6
     go_wp2_with fail;clear d0 d2 dt hp
     go_loop [3] (fun iv=> ∃j:Nat,j≤k∧iv=.int .i64 (j:Int)∧ag ((tl.take j).all dy=true)) (fun iv=>match iv with|.int _ x=>k-x.toNat|_=>0)
     case atStart=>exact⟨0,ei _,rfl,hZ rfl⟩
     case round=>
      obtain⟨j,hj,rfl,HA⟩:=hrel;rcases fB j k with ar|Fp
      · have d1:decide (j<k)=true:=by simp[ar]
        (have n_:j<t.size:=by rw[hk];exact ar);obtain⟨ch,uY⟩:=oQ (t[j]);have hX:=tI HT.out n_;rw[uY] at hX;have HX:=hZ hX;obtain⟨c,hc⟩:=oQ (ch.toNat);have HC:=hZ hc;(have y1:(0:Int)≤(j:Int):=by omega);(have y2:(j:Int)<(k:Int):=by omega);(have w1:aQ.wrap ((j:Int)+1)=((j+1:Nat):Int):=by have:=kD.out;rw[aS];omega);clear hX
        by_cases h1:c<48
        · have b1:decide ((c:Int)<48)=true:=by simp;omega
          rw[F6 HX.out (by unfold dy;rw[HC.out];simp;omega)];go_wp2_with fail;go_ret;exact⟨rfl,bK _ _⟩
        · have b1:decide ((c:Int)<48)=false:=by simp;omega
          by_cases h2:57<c
          · have b2:decide (57<(c:Int))=true:=by simp;omega
            rw[F6 HX.out (by unfold dy;rw[HC.out];simp;omega)];go_wp2_with fail;go_ret;exact⟨rfl,bK _ _⟩
          · have b2:decide (57<(c:Int))=false:=by simp;omega
            have HN:ag ((tl.take (j+1)).all dy=true):=hZ (by
             rw[gV,HX.out,Vi,HA.out]
             simp[dy];rw[HC.out];omega)
            go_wp2_with fail
            go_round
            case rel=>exact⟨j+1,by omega,rfl,HN⟩
            case measure=>simp;omega
      · obtain rfl:j=k:=by omega
        (have d1:decide (j<j)=false:=by simp);have rh:=HA.out;rw[eE (by rw[dW.out];omega)] at rh;have hv:=Tc rh;rw[dW.out] at hv;clear rh;rcases fL j with rfl|Bj
        · have e1:decide ((0:Int)<((0:Nat):Int))=false:=by decide
          have oR:tl=[]:=rO.1 dW.out;have HV:ag (vL tl=false):=hZ (by rw[hv,oR];rfl);clear oR hv;go_wp2_with fail;go_ret;exact⟨(by rw[HV.out];rfl),bK _ _⟩
        · have e1:decide ((0:Int)<(j:Int))=true:=by simp;omega
          (have bf:decide (tl≠[])=true:=by have:=dW.out;refine decide_eq_true fun e=>?_;rw[e] at this;simp at this;omega);rw[bf] at hv;clear bf
          by_cases rb:j≤200
          · have e2:decide ((j:Int)≤200)=true:=by simp;omega
            rw[decide_eq_true rb,K3.out] at hv;(have n_:0<t.size:=by rw[hk];exact Bj);obtain⟨ch,uY⟩:=oQ (t[0]);have hX:=tI HT.out n_;rw[uY] at hX;obtain⟨c,hc⟩:=oQ (ch.toNat);obtain⟨g,vh⟩:=oQ (((c:Int) !=48))
            have hh:decide (tl.head?≠some 48)=g:=by
             rw[Vo,hX,←vh]
             by_cases h:c=48
             · have:ch=48:=Ci.1 (by rw[hc,h];rfl)
               rw[this,h];rfl
             · have:ch≠48:=fun e=>h (by rw[←hc,e];rfl)
               rw[decide_eq_true (by simpa using this)];simp;omega
            rw[hh] at hv;have HV:=hZ hv;clear hX hh hv;cases Iw
            · go_wp2_with fail
              go_ret;exact⟨(by rw[HV.out];simp),bK _ _⟩
            · go_wp2_with fail
              go_ret;exact⟨(by rw[HV.out];rfl),bK _ _⟩
          · have e2:decide ((j:Int)≤200)=false:=by simp;omega
            rw[decide_eq_false rb] at hv;have HV:=hZ hv;clear hv;go_wp2_with fail;go_ret;exact⟨(by rw[HV.out];rfl),bK _ _⟩
def zB (z:Int):ByteArray:=⟨(gA z).toArray⟩
theorem apq (z:Int):(zB z).data.toList=gA z:=rfl
theorem apt (z:Int):(zB z).size=(gA z).length:=rfl
theorem akr (z:Int):(gA z).length≤(bX z.natAbs).length+1:=by unfold gA;split<;>simp
theorem Qz {z:Int} (h:(dg z.natAbs).length≤200):(bX z.natAbs).length≤200:=by rw[LN];omega
theorem apu {z:Int} (h:(dg z.natAbs).length≤200):cR (zB z).data.toList=true:=(Nv (Qz h)).1
theorem xx {z:Int} (h:(dg z.natAbs).length≤200) (w:ae):ax ah 150 #[.string (zB z)] w (cC w true):=by
 have:=Tt (zB z) (by have:=akr z;have:=Qz h;rw[apt];omega) w;rw[apu h] at this;exact this
def jd (x y:Int):Int:=if x<y then -1 else if y<x then 1 else 0
theorem alR (a b:Nat):rD a b=jd (a:Int) (b:Int):=by unfold rD jd;simp only[Int.ofNat_lt]
theorem alP {x y:Int} (hx:0≤x) (hy:0≤y):rD x.natAbs y.natAbs=jd x y:=by rw[alR];congr 1<;>omega
theorem alS {x y:Int} (hx:x<0) (hy:y<0):rD y.natAbs x.natAbs=jd x y:=by
 unfold rD jd
 split<;>split<;>first|rfl|omega|(split<;>first|rfl|omega|(split<;>first|rfl|omega))
theorem M3 (x y:Int) (hx:(dg x.natAbs).length≤200) (hy:(dg y.natAbs).length≤200) (w:ae):ax ah 151 #[.string (zB x),.string (zB y)] w (wF w (jd x y)):=by
 have V1:=hZ (fun w=>xx hx w);have V2:=hZ (fun w=>xx hy w);have D1:=hZ (fun w=>BK x (zB x) rfl hx w);have D2:=hZ (fun w=>BK y (zB y) rfl hy w);obtain⟨s,hs⟩:=oQ (zB x);obtain⟨t,ht⟩:=oQ (zB y);rw[hs] at V1 D1⊢;rw[ht] at V2 D2⊢;unfold Ep at D1 D2;clear hx hy hs ht
 by_cases q1:x<0<;>by_cases q2:y<0
 · rw[decide_eq_true q1] at D1
   rw[decide_eq_true q2] at D2;(have HR:ag (∀v1 v2 W,aX W v1 (dg x.natAbs)→aX W v2 (dg y.natAbs)→ax ah 218 #[v2,v1] W (wF W (jd x y))):=hZ fun v1 v2 W h1 h2=>by rw[←alS q1 q2];exact M7 _ _ v2 v1 W h2 h1);clear q1 q2
   go_enter NX,N7
   go_wp2_with (first
    |(go_at_call 150;refine(V1.out w).mono ?_;rintro e w1 ⟨rfl,hb⟩;have fj:=hZ hb;clear hb V1)
    |(go_at_call 150;refine(V2.out w1).mono ?_;rintro e w2 ⟨rfl,hb⟩;have eL:=aw fj hb;clear hb V2 fj)
    |(go_at_call 217;refine(D1.out w2).mono ?_;rintro e w3 ⟨v1,rfl,hv,-,hb⟩;have cA:=hZ hv;have gE:=aw eL hb;clear hb hv D1 eL)
    |(go_at_call 217;refine(D2.out w3).mono ?_;rintro e w4 ⟨v2,rfl,hv,-,hb⟩;have cI:=hZ hv;have cA:=hZ (cA.out.below hb);have ia:=aw gE hb;clear hb hv D2 gE)
    |(go_at_call 218;refine(HR.out v1 v2 w4 cA.out cI.out).mono ?_;rintro e w5 ⟨rfl,hb⟩;have lh:=aw ia hb;clear hb)
    |fail)
   go_ret;exact⟨rfl,lh.out⟩
 · rw[decide_eq_true q1] at D1
   rw[decide_eq_false q2] at D2;rw[show jd x y=-1 from by unfold jd;rw[if_pos (show x<y by omega)]];clear q1 q2
   go_enter NX,N7
   go_wp2_with (first
    |(go_at_call 150;refine(V1.out w).mono ?_;rintro e w1 ⟨rfl,hb⟩;have fj:=hZ hb;clear hb V1)
    |(go_at_call 150;refine(V2.out w1).mono ?_;rintro e w2 ⟨rfl,hb⟩;have eL:=aw fj hb;clear hb V2 fj)
    |(go_at_call 217;refine(D1.out w2).mono ?_;rintro e w3 ⟨v1,rfl,hv,-,hb⟩;have cA:=hZ hv;have gE:=aw eL hb;clear hb hv D1 eL)
    |(go_at_call 217;refine(D2.out w3).mono ?_;rintro e w4 ⟨v2,rfl,hv,-,hb⟩;have cI:=hZ hv;have cA:=hZ (cA.out.below hb);have ia:=aw gE hb;clear hb hv D2 gE)
    |fail)
   go_ret;exact⟨rfl,ia.out⟩
 · rw[decide_eq_false q1] at D1
   rw[decide_eq_true q2] at D2;rw[show jd x y=1 from by unfold jd;rw[if_neg (show ¬x<y by omega),if_pos (show y<x by omega)]];clear q1 q2
   go_enter NX,N7
   go_wp2_with (first
    |(go_at_call 150;refine(V1.out w).mono ?_;rintro e w1 ⟨rfl,hb⟩;have fj:=hZ hb;clear hb V1)
    |(go_at_call 150;refine(V2.out w1).mono ?_;rintro e w2 ⟨rfl,hb⟩;have eL:=aw fj hb;clear hb V2 fj)
    |(go_at_call 217;refine(D1.out w2).mono ?_;rintro e w3 ⟨v1,rfl,hv,-,hb⟩;have cA:=hZ hv;have gE:=aw eL hb;clear hb hv D1 eL)
    |(go_at_call 217;refine(D2.out w3).mono ?_;rintro e w4 ⟨v2,rfl,hv,-,hb⟩;have cI:=hZ hv;have cA:=hZ (cA.out.below hb);have ia:=aw gE hb;clear hb hv D2 gE)
    |fail)
   go_ret;exact⟨rfl,ia.out⟩
 · rw[decide_eq_false q1] at D1
   rw[decide_eq_false q2] at D2;(have HR:ag (∀v1 v2 W,aX W v1 (dg x.natAbs)→aX W v2 (dg y.natAbs)→ax ah 218 #[v1,v2] W (wF W (jd x y))):=hZ fun v1 v2 W h1 h2=>by rw[←alP (by omega) (by omega)];exact M7 _ _ v1 v2 W h1 h2);clear q1 q2
   go_enter NX,N7
   go_wp2_with (first
    |(go_at_call 150;refine(V1.out w).mono ?_;rintro e w1 ⟨rfl,hb⟩;have fj:=hZ hb;clear hb V1)
    |(go_at_call 150;refine(V2.out w1).mono ?_;rintro e w2 ⟨rfl,hb⟩;have eL:=aw fj hb;clear hb V2 fj)
    |(go_at_call 217;refine(D1.out w2).mono ?_;rintro e w3 ⟨v1,rfl,hv,-,hb⟩;have cA:=hZ hv;have gE:=aw eL hb;clear hb hv D1 eL)
    |(go_at_call 217;refine(D2.out w3).mono ?_;rintro e w4 ⟨v2,rfl,hv,-,hb⟩;have cI:=hZ hv;have cA:=hZ (cA.out.below hb);have ia:=aw gE hb;clear hb hv D2 gE)
    |(go_at_call 218;refine(HR.out v1 v2 w4 cA.out cI.out).mono ?_;rintro e w5 ⟨rfl,hb⟩;have lh:=aw ia hb;clear hb)
    |fail)
   go_ret;exact⟨rfl,lh.out⟩
end Go.Proofs.YteeifhlhpiimoaaGreatDoor
end
section
namespace Go.Proofs.YteeifhlhpiimoaaGreatDoor
open Go Go.RowKit Go.Shelf
attribute [local go_sem] Oper.semAt_some
theorem aX.aor {w:ae} {v:ai} {a b:Nat} (h:aX w v (dg a)) (k:aX w v (dg b)):a=b:=by
 obtain⟨A,c,rfl,-,-,-,h4⟩:=h;obtain⟨A',c',e,-,-,-,k4⟩:=k;injection e with e1 e2 e3;subst e1;rw[←mY a,h4.uniq k4 e2,mY]
open Classical in
noncomputable def QB (v:ai) (w:ae):Nat:=if h:∃b,aX w v (dg b) then h.choose else 0
theorem XY {v:ai} {w:ae} {b:Nat} (h:aX w v (dg b)):QB v w=b:=by
 have hx:∃b,aX w v (dg b):=⟨b,h⟩;rw[QB,dif_pos hx];exact hx.choose_spec.aor h
theorem LO {n:Nat}:(dg n).length=0↔n=0:=by
 rcases fL n with rfl|h
 · rw[lu];simp
 · rw[nX h];simp;omega
theorem NM {y:Nat} (h:0<y):((zB (y:Int)).toList==[48])=false:=by
 rw[ByteArray.toList_eq,apq,beq_eq_false_iff_ne];unfold gA;rw[if_neg (by omega)];intro e;exact Iq (n:=((y:Int)).natAbs) (by omega) 48 (by rw[e];rfl) rfl
theorem abZ (x y:Int) (hx:(dg x.natAbs).length≤200) (hy:(dg y.natAbs).length≤200) (w:ae):ax ah 153 #[.string (zB x),.string (zB y)] w (VD w (iu false (qJ x.natAbs y.natAbs))):=by
 have V1:=hZ (fun w=>xx hx w);have V2:=hZ (fun w=>xx hy w);have D1:=hZ (fun w=>BK x (zB x) rfl hx w);have D2:=hZ (fun w=>BK y (zB y) rfl hy w);obtain⟨g,hg⟩:=oQ (qJ x.natAbs y.natAbs);have HG:=hZ hg;have HX:=hZ hx;have HY:=hZ hy;rw[hg];obtain⟨s,hs⟩:=oQ (zB x);obtain⟨t,ht⟩:=oQ (zB y);rw[hs] at V1 D1⊢;rw[ht] at V2 D2⊢;unfold Ep at D1 D2;clear hx hy hs ht hg
 go_enter Tryz.func153,Tryz.ntmps153
 go_wp2_with (first
  |(go_at_call 150;refine(V1.out w).mono ?_;rintro e w1 ⟨rfl,hb⟩;have fj:=hZ (hb);clear hb V1)
  |(go_at_call 150;refine(V2.out w1).mono ?_;rintro e w2 ⟨rfl,hb⟩;have eL:=aw fj hb;clear hb V2 fj)
  |(go_at_call 217;refine(D1.out w2).mono ?_;rintro e w3 ⟨v1,rfl,hv,-,hb⟩;have cA:=hZ hv;have gE:=aw eL hb;clear hb hv D1 eL)
  |(go_at_call 217;refine(D2.out w3).mono ?_;rintro e w4 ⟨v2,rfl,hv,-,hb⟩;have cI:=hZ hv;have cA:=hZ (cA.out.below hb);have ia:=aw gE hb;clear hb hv D2 gE)
  |fail)
 go_loopw [7,9] (fun va vb wr=> ∃(a b:Nat),aX wr va (dg a)∧aX wr vb (dg b)∧ag (qJ a b=g)∧ag ((dg a).length≤200∧(dg b).length≤200)∧Below w.heap.size w wr) (fun _ vb wr=>QB vb wr)
 case atStart=>exact⟨x.natAbs,y.natAbs,cA.out,cI.out,HG,hZ ⟨HX.out,HY.out⟩,ia.out⟩
 case round=>
  obtain⟨a,b,ha,hb,HG,HL,hB⟩:=hrel;have HA:=hZ ha;have HB:=hZ hb;have fi:=hZ hB;obtain⟨A3,c3,rfl,-⟩:=ha;obtain⟨A4,c4,rfl,-⟩:=hb;obtain⟨n3,pC⟩:=oQ ((dg a).length);obtain⟨n4,ie⟩:=oQ ((dg b).length);rw[pC] at HA⊢;rw[ie] at HB⊢;have HN:=hZ (And.intro pC ie);have Fk:n4=0↔b=0:=by rw[←ie];exact LO
  have Cm:=hZ Fk;clear hB pC ie Fk
  by_cases h0:0<n4
  · have d1:decide (0<n4)=true:=by simp[h0]
    have dt:0<b:=by
     rcases fL b with e|e
     · have:=Cm.out.2 e;omega
     · exact e
    have HM:=hZ (XY HB.out);have HO:=hZ (S' a b dt _ _ wr HA.out HB.out (by have:=HL.out;omega) (by have:=HL.out;omega));have de:=hZ dt;clear dt
    go_wp2_with (first
     |(go_at_call 220;(with_reducible refine HO.out.mono ?_);rintro e w2 ⟨vq,vr,rfl,hq,hr,-,-,aA⟩;have HR:=hZ hr;have aG:=hZ aA;clear hq hr aA)
     |fail)
    refine⟨⟨b,a%b,HB.out.below aG.out,HR.out,hZ ?_,hZ ⟨HL.out.2,?_⟩,fi.out.trans (aG.out.mono fi.out.size)⟩,?_⟩
    · rw[←HG.out,OB a b,Nat.gcd_rec b a,OB]
    · exact aV (yz (Nat.le_of_lt (rQ _ de.out))) HL.out.2
    · have e1:=XY HR.out
      have e2:=HM.out;have:=rQ a de.out;omega
  · obtain rfl:n4=0:=by omega
    obtain rfl:b=0:=Cm.out.1 rfl;(have qk:a=g:=by have:=HG.out;rwa[Nat.gcd_zero_right] at this);subst qk;(have d1:decide (0<0)=false:=by decide);have HT:=hZ (F4 false a _ wr HA.out HL.out.1)
    go_wp2_with (first
     |(go_at_call 221;(with_reducible refine HT.out.mono ?_);rintro e w2 ⟨rfl,aA⟩;have aG:=hZ aA;clear aA)
     |fail)
    go_ret2
    exact⟨rfl,fi.out.trans (aG.out.mono fi.out.size)⟩
theorem abO (x:Int) (y:Nat) (h0:0<y) (hd:y∣x.natAbs) (hx:(dg x.natAbs).length≤200) (hy:(dg y).length≤200) (w:ae):ax ah 154 #[.string (zB x),.string (zB (y:Int))] w (fun e w'=>e=.returned (.tuple #[.string (iu (decide (x<0)) (x.natAbs/y)),.string (iu false 0),.int .i64 0])∧Below w.heap.size w w'):=by
 have jt:(dg (y:Int).natAbs).length≤200:=hy;have V1:=hZ (fun w=>xx hx w);have V2:=hZ (fun w=>xx jt w);have D1:=hZ (fun w=>BK x (zB x) rfl hx w);have D2:=hZ (fun w=>BK (y:Int) (zB (y:Int)) rfl jt w);have sA:=NM h0;have hq:(dg (x.natAbs/y)).length≤200:=aV (yz (GP _ _)) hx;have HQ:=hZ hq;have hr:x.natAbs%y=0:=Nat.mod_eq_zero_of_dvd hd
 have HO:=hZ (fun v1 v2 W (h1:aX W v1 (dg x.natAbs)) (h2:aX W v2 (dg y))=>by
  have:=S' x.natAbs y h0 v1 v2 W h1 h2 (by omega) (by omega);rw[hr] at this
  exact this)
 obtain⟨s,hs⟩:=oQ (zB x);obtain⟨t,ht⟩:=oQ (zB (y:Int));rw[hs] at V1 D1⊢;rw[ht] at V2 D2 sA⊢;unfold Ep at D1 D2;rw[decide_eq_false (show ¬(y:Int)<0 by omega)] at D2;have Lr:=hZ (fun c W=>BM false 0 (.slice none 0 c) W);clear hx hy jt hs ht hq hr hd h0 Lr
 by_cases q1:x<0
 · rw[decide_eq_true q1] at D1⊢
   clear q1
   go_enter Ku,KA
   go_wp2_with (first
    |(go_at_call 150;refine(V1.out w).mono ?_;rintro e w1 ⟨rfl,hb⟩;have fj:=hZ (hb);clear hb V1)
    |(go_at_call 150;refine(V2.out w1).mono ?_;rintro e w2 ⟨rfl,hb⟩;have eL:=aw fj hb;clear hb V2 fj)
    |(go_at_call 217;refine(D1.out w2).mono ?_;rintro e w3 ⟨v1,rfl,hv,-,hb⟩;have cA:=hZ hv;have gE:=aw eL hb;clear hb hv D1 eL)
    |(go_at_call 217;refine(D2.out w3).mono ?_;rintro e w4 ⟨v2,rfl,hv,-,hb⟩;have cI:=hZ hv;have cA:=hZ (cA.out.below hb);have ia:=aw gE hb;clear hb hv D2 gE)
    |(go_at_call 220;(refine(HO.out v1 v2 w4 cA.out cI.out).mono ?_);rintro e w5 ⟨vq,vr,rfl,hq,hr,-,-,hb⟩;have pY:=hZ hq;have iB:=hZ hr;have lh:=aw ia hb;obtain⟨Ar,cr,rfl,-⟩:=hr;clear hb hq ia;have er:(dg 0).length=0:=LO.2 rfl;rw[er] at iB⊢)
    |(go_at_call 221;refine(F4 true _ vq w5 pY.out HQ.out).mono ?_;rintro e w6 ⟨rfl,hb⟩;have iB:=hZ (iB.out.below hb);have nV:=aw lh hb;clear hb lh)
    |(go_at_call 155;refine(BM false 0 _ w6 iB.out (by rw[er];omega)).mono ?_;rintro e w7 ⟨rfl,hb⟩;have EJ:=aw nV hb;clear hb nV)
    |fail)
   refine et (v:=.tuple #[_,_,_]) (by simp[results]) rfl ⟨rfl,EJ.out⟩
 · rw[decide_eq_false q1] at D1⊢
   clear q1
   go_enter Ku,KA
   go_wp2_with (first
    |(go_at_call 150;refine(V1.out w).mono ?_;rintro e w1 ⟨rfl,hb⟩;have fj:=hZ (hb);clear hb V1)
    |(go_at_call 150;refine(V2.out w1).mono ?_;rintro e w2 ⟨rfl,hb⟩;have eL:=aw fj hb;clear hb V2 fj)
    |(go_at_call 217;refine(D1.out w2).mono ?_;rintro e w3 ⟨v1,rfl,hv,-,hb⟩;have cA:=hZ hv;have gE:=aw eL hb;clear hb hv D1 eL)
    |(go_at_call 217;refine(D2.out w3).mono ?_;rintro e w4 ⟨v2,rfl,hv,-,hb⟩;have cI:=hZ hv;have cA:=hZ (cA.out.below hb);have ia:=aw gE hb;clear hb hv D2 gE)
    |(go_at_call 220;(refine(HO.out v1 v2 w4 cA.out cI.out).mono ?_);rintro e w5 ⟨vq,vr,rfl,hq,hr,-,-,hb⟩;have pY:=hZ hq;have iB:=hZ hr;have lh:=aw ia hb;obtain⟨Ar,cr,rfl,-⟩:=hr;clear hb hq ia;have er:(dg 0).length=0:=LO.2 rfl;rw[er] at iB⊢)
    |(go_at_call 221;refine(F4 false _ vq w5 pY.out HQ.out).mono ?_;rintro e w6 ⟨rfl,hb⟩;have iB:=hZ (iB.out.below hb);have nV:=aw lh hb;clear hb lh)
    |(go_at_call 155;refine(BM false 0 _ w6 iB.out (by rw[er];omega)).mono ?_;rintro e w7 ⟨rfl,hb⟩;have EJ:=aw nV hb;clear hb nV)
    |fail)
   refine et (v:=.tuple #[_,_,_]) (by simp[results]) rfl ⟨rfl,EJ.out⟩
end Go.Proofs.YteeifhlhpiimoaaGreatDoor
end
section
namespace Go.Proofs.YteeifhlhpiimoaaGreatDoor
open Go Go.RowKit Go.Shelf
attribute [local go_sem] Oper.semAt_some
theorem Ge (n:Nat):iu false n=zB (n:Int):=by
 have:=Nw (n:Int);rw[decide_eq_false (show ¬(n:Int)<0 by omega)] at this;unfold iu zB;rw[←this];rfl
theorem T8:zB 0=⟨#[48]⟩:=by unfold zB gA;rw[if_neg (by omega),show(0:Int).natAbs=0 from rfl,p8 (by decide)];rfl
def rH (x:Int) (y:Nat):ByteArray:=iu (decide (x<0)) (x.natAbs/qJ x.natAbs y)
def rG (x:Int) (y:Nat):ByteArray:=iu false (y/qJ x.natAbs y)
def wG (x:Int) (y:Nat) (w:ae) (e:Ending) (w':ae):Prop:=e=.returned (.tuple #[.agg #[.string (rH x y),.string (rG x y)],.int .i64 0])∧Below w.heap.size w w'
def VC (s:ByteArray) (w:ae) (e:Ending) (w':ae):Prop:=e=.returned (.tuple #[.string s,.string (iu false 0),.int .i64 0])∧Below w.heap.size w w'
theorem amM (x:Int) (y:Nat) (h0:0<y) (hx:(dg x.natAbs).length≤200) (hy:(dg y).length≤200) (w:ae):ax ah 98 #[.string (zB x),.string (zB (y:Int))] w (wG x y w):=by
 have jt:(dg (y:Int).natAbs).length≤200:=hy;have tU:0<qJ x.natAbs y:=Nat.gcd_pos_of_pos_right _ h0;have yP:(dg (qJ x.natAbs y)).length≤200:=aV (yz (Nat.gcd_le_right _ h0)) hy;have C1:=hZ (fun W=>xx hx W);have C2:=hZ (fun W=>xx jt W)
 have C3:ag (∀W,ax ah 151 #[.string (zB (y:Int)),.string ⟨#[48]⟩] W (wF W 1)):=hZ fun W=>by
  have:=M3 (y:Int) 0 jt (by rw[show(0:Int).natAbs=0 from rfl,lu];simp) W;rw[T8,show jd (y:Int) 0=1 from by unfold jd;rw[if_neg (by omega),if_pos (by omega)]] at this;exact this
 have C4:=hZ (fun W=>abZ x (y:Int) hx jt W);rw[show(y:Int).natAbs=y from rfl] at C4
 have C5:ag (∀W,ax ah 154 #[.string (zB x),.string (iu false (qJ x.natAbs y))] W (VC (rH x y) W)):=hZ fun W=>by
  rw[Ge];exact abO x _ tU (Nat.gcd_dvd_left _ _) hx yP W
 have C6:ag (∀W,ax ah 154 #[.string (zB (y:Int)),.string (iu false (qJ x.natAbs y))] W (VC (rG x y) W)):=hZ fun W=>by
  have:=abO (y:Int) _ tU (Nat.gcd_dvd_right _ _) jt yP W;rw[decide_eq_false (show ¬(y:Int)<0 by omega),←Ge (qJ x.natAbs y)] at this;exact this
 have sA:=NM h0;unfold wG;obtain⟨s,hs⟩:=oQ (zB x);obtain⟨t,ht⟩:=oQ (zB (y:Int));obtain⟨u,hu⟩:=oQ (iu false (qJ x.natAbs y));obtain⟨rn,JE⟩:=oQ (rH x y);obtain⟨J6,JC⟩:=oQ (rG x y);rw[hs] at C1 C4 C5⊢;rw[ht] at C2 C3 C4 C6 sA⊢;rw[hu] at C4 C5 C6;rw[JE] at C5⊢;rw[JC] at C6⊢;clear hs ht hu JE JC hx hy jt tU yP h0;have R0:=hZ (bG w (.cells #[.string ⟨#[]⟩,.string ⟨#[]⟩] 29));have yo:=hZ (aY w (.cells #[.string ⟨#[]⟩,.string ⟨#[]⟩] 29));obtain⟨b,hb⟩:=oQ (w.heap.size);obtain⟨w0,Bz⟩:=oQ (w.alloc (.cells #[.string ⟨#[]⟩,.string ⟨#[]⟩] 29));rw[Bz] at R0 yo;rw[hb] at R0;have HB:=hZ hb
 go_enter Tryz.func98,Tryz.ntmps98
 go_wp2_with (first
  |(go_at_call 150;refine(C1.out w0).mono ?_;rintro e w1 ⟨rfl,hq⟩;have R1:=ak hq R0;have fj:=aw yo hq;clear hq R0 yo C1)
  |(go_at_call 150;refine(C2.out w1).mono ?_;rintro e w2 ⟨rfl,hq⟩;have R2:=ak hq R1;have eL:=aw fj hq;clear hq R1 fj C2)
  |(go_at_call 151;refine(C3.out w2).mono ?_;rintro e w3 ⟨rfl,hq⟩;have R3:=ak hq R2;have gE:=aw eL hq;clear hq R2 eL C3)
  |(go_at_call 153;refine(C4.out w3).mono ?_;rintro e w4 ⟨rfl,hq⟩;have R4:=ak hq R3;have ia:=aw gE hq;clear hq R3 gE C4)
  |(go_at_call 154;refine(C5.out w4).mono ?_;rintro e w5 ⟨rfl,hq⟩;have R5:=ak hq R4;have lh:=aw ia hq;clear hq R4 ia C5)
  |(go_at_call 154;refine(C6.out w5).mono ?_;rintro e w6 ⟨rfl,hq⟩;have R6:=ak hq R5;have nV:=aw lh hq;have y1:=aJ (i:=0) R6.out rfl;have y2:=aJ (i:=1) R6.out rfl;have f1:=cY R6.out 0;have f2:=cY R6.out 1;clear hq R5 lh C6)
  |fail)
 have hR:=DV R6.out (.string rn) (.string J6);refine et (nF rfl _ _ b [.string rn,.string J6] _ rfl (bl hR) pM rfl (by kernel_rfl)) rfl ?_;exact⟨rfl,CW nV.out (eJ HB.out) _ _⟩
theorem Tg (x:Int) (y:Nat) (h0:0<y) (hx:x.natAbs<10^18) (hy:y<10^18) (w:ae):ax ah 53 #[.int .i64 x,.int .i64 (y:Int)] w (wG x y w):=by
 have C1:ag (∀W,ax ah 99 #[.int .i64 x] W (fun e w'=>e=.returned (.string (zB x))∧Below W.heap.size W w')):=hZ fun W=>abY x W hx;have C2:ag (∀W,ax ah 99 #[.int .i64 (y:Int)] W (fun e w'=>e=.returned (.string (zB (y:Int)))∧Below W.heap.size W w')):=hZ fun W=>abY (y:Int) W hy;have C3:=hZ (fun W=>amM x y h0 (aV (AO hx) (by omega)) (aV (AO hy) (by omega)) W);unfold wG at C3⊢;obtain⟨s,hs⟩:=oQ (zB x);obtain⟨t,ht⟩:=oQ (zB (y:Int));obtain⟨rn,JE⟩:=oQ (rH x y);obtain⟨J6,JC⟩:=oQ (rG x y);rw[hs] at C1 C3;rw[ht] at C2 C3;rw[JE,JC] at C3⊢;clear hs ht JE JC hx hy h0;have R0:=hZ (bG w (.cells #[.string ⟨#[]⟩,.string ⟨#[]⟩] 29));have yo:=hZ (aY w (.cells #[.string ⟨#[]⟩,.string ⟨#[]⟩] 29));obtain⟨b,hb⟩:=oQ (w.heap.size);obtain⟨w0,Bz⟩:=oQ (w.alloc (.cells #[.string ⟨#[]⟩,.string ⟨#[]⟩] 29));rw[Bz] at R0 yo;rw[hb] at R0;have HB:=hZ hb
 go_enter Tryz.func53,Tryz.ntmps53
 go_wp2_with (first
  |(go_at_call 99;refine(C1.out w0).mono ?_;rintro e w1 ⟨rfl,hq⟩;have R1:=ak hq R0;have fj:=aw yo hq;clear hq R0 yo C1)
  |(go_at_call 99;refine(C2.out w1).mono ?_;rintro e w2 ⟨rfl,hq⟩;have R2:=ak hq R1;have eL:=aw fj hq;clear hq R1 fj C2)
  |(go_at_call 98;refine(C3.out w2).mono ?_;rintro e w6 ⟨rfl,hq⟩;have R6:=ak hq R2;have nV:=aw eL hq;have y1:=aJ (i:=0) R6.out rfl;have y2:=aJ (i:=1) R6.out rfl;have f1:=cY R6.out 0;have f2:=cY R6.out 1;clear hq R2 eL C3)
  |fail)
 have hR:=DV R6.out (.string rn) (.string J6);refine et (nF rfl _ _ b [.string rn,.string J6] _ rfl (bl hR) pM rfl (by kernel_rfl)) rfl ?_;exact⟨rfl,CW nV.out (eJ HB.out) _ _⟩
def iN (x:Int):Prop:=-9223372036854775808≤x∧x≤9223372036854775807
theorem apd (x:Int):iN (aQ.wrap x):=by unfold iN;rw[aS];omega
def J1 (n:Int) (i:Nat):UInt8:=UInt8.ofNat (97+(dA (aQ.wrap (n+(i:Int))) 26).toNat)
def J_ (n:Int):List UInt8:=(dU 32).map (J1 n)
def F7 (n:Int):ByteArray:=⟨(J_ n).toArray⟩
def xp (n:Int) (k:Nat):List UInt8:=(dU k).map (J1 n)++List.replicate (32-k) 0
theorem ab2 (n:Int) (k:Nat) (h:k≤32):(xp n k).length=32:=by unfold xp;simp;omega
theorem amP (n:Int) (k:Nat) (h:k<32):(xp n k).set k (J1 n k)=xp n (k+1):=by
 unfold xp;rw[List.set_append_right _ _ (by simp),List.range_succ,List.map_append,List.length_map,List.length_range,KS,show 32-k=(32-(k+1))+1 by omega,List.replicate_succ,td,List.append_assoc];rfl
theorem amQ (n:Int) (w:ae):ax ah 43 #[.int .i64 n] w fun e w'=>e=.returned (.string (F7 n))∧Below w.heap.size w w':=by
 have wW:=abb w
 go_enter Tryz.func43,Tryz.ntmps43
 go_wp2;have h0:ew (w.alloc (.cells D6 5)) w.heap.size bv (xp n 0):=ew.Qm w _ _ (by rw[acT];rfl);obtain⟨w1,lD⟩:=oQ (w.alloc (.cells D6 5));have aq:Below w.heap.size w w1:=by rw[←lD];exact aY _ _
 rw[lD] at h0⊢;clear lD wW
 go_loopw [4] (fun i wr=> ∃k:Nat,k≤32∧i=.int .i64 (k:Int)∧ew wr w.heap.size bv (xp n k)∧Below w.heap.size w wr) (fun i _=>match i with|.int _ k=>32-k.toNat|_=>0)
 case atStart=>exact⟨0,by omega,rfl,h0,aq⟩
 case round=>
  obtain⟨k,hk,rfl,hR,hB⟩:=hrel;have HR:=hZ hR;have HB:=hZ hB;clear h0 aq hR hB
  by_cases ar:k<32
  · obtain⟨j,hj⟩:=oQ (aQ.wrap (n+(k:Int)))
    (have RL:iN j:=by rw[←hj];exact apd _);obtain⟨z,hz⟩:=oQ (dA j 26);have aaA:=kU j (n:=26) (by omega);rw[hz] at aaA;obtain⟨m,rfl⟩:∃m:Nat,z=(m:Int):=⟨z.toNat,by omega⟩;obtain⟨c,hc⟩:=oQ (97+m);(have ajY:m<26:=by omega);(have d1:decide (k<32)=true:=by simp[ar]);(have d2:decide ((k:Int)<32)=true:=by simp;omega);(have z1:(0:Int)≤(k:Int):=by omega);(have z2:(k:Int)<32:=by omega);(have NG:aQ.wrap ((k:Int)+1)=((k+1:Nat):Int):=by rw[aS];omega);(have w3':aQ.wrap (97+(m:Int))=(c:Int):=by rw[aS];omega);(have w4':IntKind.u8.wrap (c:Int)=(c:Int):=by rw[IntKind.wrap_u8];omega);have hl:=ab2 n k hk;have ri:=HR.out.get (i:=k) (by omega);have Mj:=HR.out.free k (by omega);obtain⟨q,hq⟩:=oQ ((xp n k)[k]'(by omega));rw[hq] at ri;have w_:=HR.out.Tw k (by omega) (J1 n k) (.int .u8 (c:Int)) (by unfold J1 bv;rw[hj,hz,Int.toNat_natCast,hc,UInt8.toNat_ofNat'];congr 1;omega);rw[amP n k ar] at w_;have PE:=hZ w_;have HP:=hZ hz;have HJ1:=hZ RL.1;have K_:=hZ RL.2;clear w_ hq hl hz RL aaA
    go_wp2_with (first|(go_at_call 51;(with_reducible refine(S2 _ _ _ HJ1.out K_.out (by omega) (by omega)).mono ?_);rintro e2 w2 ⟨rfl,rfl⟩;rw[HP.out])|fail)
    go_round
    case rel=>exact⟨k+1,by omega,rfl,PE.out,HB.out.setCell (p:=⟨w.heap.size,k,none⟩) (aB _) _⟩
    case measure=>simp;omega
  · have d1:decide (k<32)=false:=by simp;omega
    (obtain rfl:k=32:=by omega);have hcv:=HR.out.convert (P:=ah) (cap:=32) (ab2 n 32 (aB _)) 116 9 5 Tryz.underlying116 Tryz.underlying5 Tryz.underlying9;(have hr:xp n 32=J_ n:=by unfold xp J_;simp);rw[hr] at hcv;go_wp2;go_ret;exact⟨rfl,HB.out⟩
def kn (k:Nat):List Nat:=match k with
 |1=>[0,1,3,4,7]|2=>[4,8]|3=>[0,1,2,4]|4=>[0,1,2,4]|5=>[0,1,2,3,9]|6=>[4,1]|7=>[0,1,2,5,6]|8=>[4,8]|9=>[0,4,5]|_=>[]
theorem aa1 (w:ae) (l:List Nat) (hl:l.length≤100) (hp:0<l.length):aX (w.alloc (.cells (l.map nv).toArray 3)) (.slice (some ⟨w.heap.size,0,none⟩) l.length l.length) l:=by
 refine⟨_,_,rfl,aB _,by unfold maxLen;omega,fun h=>(by cases h),fun i x hx=>⟨_,rfl,by simp,?_⟩⟩;have h:=bG w (.cells (l.map nv).toArray 3);rw[show(⟨w.heap.size,0,none⟩:Addr).add i=⟨w.heap.size,i,none⟩ from by simp[jy];omega];exact aJ h (by simp[hx])
theorem LR (k:Nat) (h1:1≤k) (h9:k≤9) (w:ae):ax ah 52 #[.int .i64 (k:Int)] w fun e w'=> ∃v,e=.returned v∧aX w' v (kn k)∧gK w.heap.size v∧Below w.heap.size w w':=by
 have HL:=hZ (aa1 w (kn k));have HB:=hZ (fun o=>aY w o);rcases(show k=1∨k=2∨k=3∨k=4∨k=5∨k=6∨k=7∨k=8∨k=9 by omega) with rfl|rfl|rfl|rfl|rfl|rfl|rfl|rfl|rfl
 all_goals
  clear h1 h9
  go_enter Tryz.func52,Tryz.ntmps52
  go_wp2;go_ret;exact⟨_,rfl,HL.out (by decide) (by decide),fun a n c h=>(by cases h;exact aB _),HB.out _⟩
theorem aR.uk {W:ae} {b:Nat} {e e':af} (h:aR W b e) (i:Nat) (v:ai) (he:e.cells.toArray.setIfInBounds i v=e'.cells.toArray):aR (W.setCell ⟨b,i,none⟩ v) b e':=by
 unfold aR at h⊢;rw[←he];exact heap_setCell_same W b i _ _ v h
def dS (e:af) (f:Nat) (n:Int):af:=match f with
 |3=>{e with bQ:=n}|4=>{e with item:=n}|5=>{e with dj:=n}|6=>{e with iJ:=n}|_=>e
theorem M_ {w w1:ae} {b:Nat} {e:af} (he:aR w1 w.heap.size e) (aq:Below w.heap.size w w1) (hs:w1.heap.size=w.heap.size+1) (hb:w.heap.size=b):∃w2,w1.alloc (.cells #[.int .i64 0,.int .i64 0,.int .i64 0,.int .i64 0,.bool false,.int .i64 0,.int .i64 0,.int .i64 0,.int .i64 0,.int .i64 0,.int .i64 0,.string ⟨#[]⟩,.string ⟨#[]⟩,.string ⟨#[]⟩,.string ⟨#[]⟩,.string ⟨#[]⟩,.string ⟨#[]⟩,.string ⟨#[]⟩] 33)=w2∧ag (w1.heap.size=b+1)∧ag (aR w2 b e)∧ag (aR w2 (b+1) aW)∧ag (Below w.heap.size w w2):=by
 subst hb;refine⟨_,rfl,hZ hs,hZ (he.below (aY _ _)),hZ ?_,hZ (aq.trans ((aY _ _).mono aq.size))⟩;rw[←hs];exact af.new w1 aW
theorem M' {w w3:ae} {b:Nat} {e:af} (hz:aR w3 (b+1) aW) (hb:Below w.heap.size w w3) (h:w.heap.size=b):aR (w3.setRow (b+1) e.cells.toArray) (b+1) e∧Below w.heap.size w (w3.setRow (b+1) e.cells.toArray):=by
 have h1:=vN (e:=e) hz;refine⟨h1.1,hb.trans ?_⟩;exact⟨rfl,rfl,rfl,by simp[qH],fun k hk=>h1.2.block k (by have:=hb.size;omega) (by omega)⟩
theorem NN (e:af):aW.cells.toArray.size=e.cells.toArray.size:=rfl
theorem Nb (e:af) (f:Nat) (hf:f=3∨f=4∨f=5∨f=6) (n:Int) (w:ae):ax ah 54 #[e.val,.int .i64 (f:Int),.int .i64 n] w fun x w'=>x=.returned (dS e f n).val∧Below w.heap.size w w':=by
 obtain⟨b,hb⟩:=oQ (w.heap.size);have HB:=hZ hb;have IE:=fun e:af=>hZ (di (e:=e));have IS:=fun e:af=>hZ (show(ah.info? 33).map (·.size)=some e.cells.toArray.size from di (e:=e));clear hb;rcases hf with rfl|rfl|rfl|rfl
 · go_enter NZ,N9
   go_wp2_with (first
    | ((with_reducible refine ff rfl (.tmp 0) rfl e ?hx ?_);(case hx=>rfl);intro w1 aH aq aP
       obtain⟨w2,q2,q3,E2,Z2,B2⟩:=M_ aH aq aP HB.out;have E3:=hZ (E2.out.uk (e':=dS e 3 n) 7 (.int .i64 n) rfl);have x1:=E2.out.cell (i:=7) rfl;have x2:=E2.out.free 7;have Z3:ag (aR (w2.setCell ⟨b,7,none⟩ (.int .i64 n)) (b+1) aW):=hZ ((fA _ _ _ _ (by simp)).trans Z2.out);have B3:=hZ (B2.out.setCell (p:=⟨b,7,none⟩) (eJ HB.out) (.int .i64 n));have hb:=HB.out;have hs:=q3.out;clear aH aq aP E2 Z2 B2;obtain⟨w3,nC⟩:=oQ (w2.setCell ⟨b,7,none⟩ (.int .i64 n));rw[nC] at E3 Z3 B3;have ZR:ag (w3.heap[b+1]?=some (.cells aW.cells.toArray 33 (0,0))):=Z3
       have cX:=hZ (bl (cs:=(dS e 3 n).cells) E3.out))
    |(with_reducible refine lx (.tmp 3) b 0 cX.out (IE _).out bk ?_)
    |((with_reducible refine Oh rfl 33 (.tmp 6) (.tmp 36) rfl rfl (b+1) (dS e 3 n).cells.toArray ?hx ?hy 33 _ ZR.out (IS _).out (NN _) (rC _) ?_);(case hx=>rfl);(case hy=>rfl))
    |fail)
   obtain⟨hR,hB⟩:=M' (e:=dS e 3 n) Z3.out B3.out HB.out;refine et (BL rfl _ _ (b+1) (dS e 3 n).cells _ rfl (bl hR) bk rfl (IE _).out) rfl ⟨rfl,hB⟩
 · go_enter NZ,N9
   go_wp2_with (first
    | ((with_reducible refine ff rfl (.tmp 0) rfl e ?hx ?_);(case hx=>rfl);intro w1 aH aq aP
       obtain⟨w2,q2,q3,E2,Z2,B2⟩:=M_ aH aq aP HB.out;have E3:=hZ (E2.out.uk (e':=dS e 4 n) 8 (.int .i64 n) rfl);have x1:=E2.out.cell (i:=8) rfl;have x2:=E2.out.free 8;have Z3:ag (aR (w2.setCell ⟨b,8,none⟩ (.int .i64 n)) (b+1) aW):=hZ ((fA _ _ _ _ (by simp)).trans Z2.out);have B3:=hZ (B2.out.setCell (p:=⟨b,8,none⟩) (eJ HB.out) (.int .i64 n));have hb:=HB.out;have hs:=q3.out;clear aH aq aP E2 Z2 B2;obtain⟨w3,nC⟩:=oQ (w2.setCell ⟨b,8,none⟩ (.int .i64 n));rw[nC] at E3 Z3 B3;have ZR:ag (w3.heap[b+1]?=some (.cells aW.cells.toArray 33 (0,0))):=Z3
       have cX:=hZ (bl (cs:=(dS e 4 n).cells) E3.out))
    |(with_reducible refine lx (.tmp 3) b 0 cX.out (IE _).out bk ?_)
    |((with_reducible refine Oh rfl 33 (.tmp 6) (.tmp 36) rfl rfl (b+1) (dS e 4 n).cells.toArray ?hx ?hy 33 _ ZR.out (IS _).out (NN _) (rC _) ?_);(case hx=>rfl);(case hy=>rfl))
    |fail)
   obtain⟨hR,hB⟩:=M' (e:=dS e 4 n) Z3.out B3.out HB.out;refine et (BL rfl _ _ (b+1) (dS e 4 n).cells _ rfl (bl hR) bk rfl (IE _).out) rfl ⟨rfl,hB⟩
 · go_enter NZ,N9
   go_wp2_with (first
    | ((with_reducible refine ff rfl (.tmp 0) rfl e ?hx ?_);(case hx=>rfl);intro w1 aH aq aP
       obtain⟨w2,q2,q3,E2,Z2,B2⟩:=M_ aH aq aP HB.out;have E3:=hZ (E2.out.uk (e':=dS e 5 n) 9 (.int .i64 n) rfl);have x1:=E2.out.cell (i:=9) rfl;have x2:=E2.out.free 9;have Z3:ag (aR (w2.setCell ⟨b,9,none⟩ (.int .i64 n)) (b+1) aW):=hZ ((fA _ _ _ _ (by simp)).trans Z2.out);have B3:=hZ (B2.out.setCell (p:=⟨b,9,none⟩) (eJ HB.out) (.int .i64 n));have hb:=HB.out;have hs:=q3.out;clear aH aq aP E2 Z2 B2;obtain⟨w3,nC⟩:=oQ (w2.setCell ⟨b,9,none⟩ (.int .i64 n));rw[nC] at E3 Z3 B3;have ZR:ag (w3.heap[b+1]?=some (.cells aW.cells.toArray 33 (0,0))):=Z3
       have cX:=hZ (bl (cs:=(dS e 5 n).cells) E3.out))
    |(with_reducible refine lx (.tmp 3) b 0 cX.out (IE _).out bk ?_)
    |((with_reducible refine Oh rfl 33 (.tmp 6) (.tmp 36) rfl rfl (b+1) (dS e 5 n).cells.toArray ?hx ?hy 33 _ ZR.out (IS _).out (NN _) (rC _) ?_);(case hx=>rfl);(case hy=>rfl))
    |fail)
   obtain⟨hR,hB⟩:=M' (e:=dS e 5 n) Z3.out B3.out HB.out;refine et (BL rfl _ _ (b+1) (dS e 5 n).cells _ rfl (bl hR) bk rfl (IE _).out) rfl ⟨rfl,hB⟩
 · go_enter NZ,N9
   go_wp2_with (first
    | ((with_reducible refine ff rfl (.tmp 0) rfl e ?hx ?_);(case hx=>rfl);intro w1 aH aq aP
       obtain⟨w2,q2,q3,E2,Z2,B2⟩:=M_ aH aq aP HB.out;have E3:=hZ (E2.out.uk (e':=dS e 6 n) 10 (.int .i64 n) rfl);have x1:=E2.out.cell (i:=10) rfl;have x2:=E2.out.free 10;have Z3:ag (aR (w2.setCell ⟨b,10,none⟩ (.int .i64 n)) (b+1) aW):=hZ ((fA _ _ _ _ (by simp)).trans Z2.out);have B3:=hZ (B2.out.setCell (p:=⟨b,10,none⟩) (eJ HB.out) (.int .i64 n));have hb:=HB.out;have hs:=q3.out;clear aH aq aP E2 Z2 B2;obtain⟨w3,nC⟩:=oQ (w2.setCell ⟨b,10,none⟩ (.int .i64 n));rw[nC] at E3 Z3 B3;have ZR:ag (w3.heap[b+1]?=some (.cells aW.cells.toArray 33 (0,0))):=Z3
       have cX:=hZ (bl (cs:=(dS e 6 n).cells) E3.out))
    |(with_reducible refine lx (.tmp 3) b 0 cX.out (IE _).out bk ?_)
    |((with_reducible refine Oh rfl 33 (.tmp 6) (.tmp 36) rfl rfl (b+1) (dS e 6 n).cells.toArray ?hx ?hy 33 _ ZR.out (IS _).out (NN _) (rC _) ?_);(case hx=>rfl);(case hy=>rfl))
    |fail)
   obtain⟨hR,hB⟩:=M' (e:=dS e 6 n) Z3.out B3.out HB.out;refine et (BL rfl _ _ (b+1) (dS e 6 n).cells _ rfl (bl hR) bk rfl (IE _).out) rfl ⟨rfl,hB⟩
structure gX where
 y0:Int
 y1:Int
 y2:Int
 y3:Int
 y4:Int
 y5:Int
def gX.cells (y:gX):List ai:=[.int .i64 y.y0,.int .i64 y.y1,.int .i64 y.y2,.int .i64 y.y3,.int .i64 y.y4,.int .i64 y.y5]
structure gX.Ok (y:gX):Prop where
 h0:iN y.y0
 h1:iN y.y1
 h2:iN y.y2
 h3:iN y.y3
 h4:iN y.y4
 h5:iN y.y5
def Rt (y:gX):af:={aW with kind:=1+dA y.y0 9,bR:=1+dA (Int.tdiv y.y0 9) 3,day:=dA y.y1 30,gone:=dA (Int.tdiv y.y1 30) 7==0}
def Dn (kd:Nat) (v d:Int) (g:Bool):af:={aW with kind:=(kd:Int),bR:=v,day:=d,gone:=g}
def BG (y:gX):Int:=dA y.y2 41-20
def Bh (y:gX):Int:=dA y.y2 41-20+dA y.y5 5
def tJ (y:gX):Nat:=(1+dA (Int.tdiv y.y2 41) 4).toNat
def AN (y:gX):Nat:=(1+dA y.y4 9).toNat
def zA (y:gX) (k:Nat):Int:=y.y2/2^(2*k)
theorem Nd {x:Int} (h:iN x) {k:Nat} (hk:k≤4):iN (x/2^(2*k)):=by
 obtain⟨h1,h2⟩:=h;unfold iN;rcases(show k=0∨k=1∨k=2∨k=3∨k=4 by omega) with rfl|rfl|rfl|rfl|rfl
 all_goals (simp only[Nat.mul_zero,Nat.mul_one,Nat.reduceMul,Int.reducePow];omega)
def iK (y:gX) (k f:Nat) (e:af):af:=match f with
 |0=>{e with id:=1+dA y.y3 9}
 |1=>{e with az:=dA y.y4 40}
 |2=>{e with bj:=e.az+dA y.y5 30}
 |7=>{e with ln:=rH (BG y) (tJ y),ld:=rG (BG y) (tJ y),hn:=rH (Bh y) (tJ y),hd:=rG (Bh y) (tJ y)}
 |8=>{e with rn:=rH (dA y.y2 9) (AN y),rd:=rG (dA y.y2 9) (AN y)}
 |9=>{e with text:=F7 y.y2}
 |f=>dS e f (1+dA (zA y k) 4)
def Dc (y:gX):Nat→List Nat→af→af
 |_,[],e=>e
 |k,f::fs,e=>Dc y (k+1) fs (iK y k f e)
def kindOf (y:gX):Nat:=(1+dA y.y0 9).toNat
def iq (y:gX):af:=Dc y 0 (kn (kindOf y)) (Rt y)
theorem q_ {y:gX} {fs:List Nat} {k f:Nat} {e:af} (h:fs[k]?=some f):Dc y k (fs.drop k) e=Dc y (k+1) (fs.drop (k+1)) (iK y k f e):=by
 obtain⟨h1,h2⟩:=dL.1 h;rw[List.drop_eq_getElem_cons h1,h2];rfl
structure gn (w:ae) (p b:Nat) (y:gX) (v7:ai) (fs:List Nat) (v3:ai) (out:List af) (e:af) (W:ae):Prop where
 hy:W.heap[p]?=some (.cells y.cells.toArray 78 (0,0))
 he:aR W b e
 hf:aX W v7 fs
 wR:gK (b+1) v7
 ho:OL W w.heap.size 33 18 af.cells v3 out
 gb:∀g,v3.ownBlock=some g→g<p
 fy:p<b
 BB:w.heap.size≤p
 hB:Below w.heap.size w W
section
variable {w:ae} {p b:Nat} {y:gX} {v7:ai} {fs:List Nat} {v3:ai} {out:List af} {e:af} {W:ae}
theorem gn.lt (h:gn w p b y v7 fs v3 out e W):b<W.heap.size:=bt h.he
theorem gn.cS (h:gn w p b y v7 fs v3 out e W) {i:Nat} {v:ai} (hv:y.cells[i]?=some v):W.cell? ⟨p,i,none⟩=some v:=aJ h.hy (by simpa using hv)
theorem gn.step (h:gn w p b y v7 fs v3 out e W) {W':ae} (hb:Below W.heap.size W W'):gn w p b y v7 fs v3 out e W':=
 ⟨fe hb h.hy,h.he.below hb,h.hf.below hb,h.wR,h.ho.below hb (aB _),h.gb,h.fy,h.BB,h.hB.trans (hb.mono h.hB.size)⟩
theorem gn.drew (h:gn w p b y v7 fs v3 out e W):gn w p b y v7 fs v3 out e W.drew:=h.step (eR (bK _ _))
theorem gn.set (h:gn w p b y v7 fs v3 out e W) {e':af} (i:Nat) (v:ai) (he:e.cells.toArray.setIfInBounds i v=e'.cells.toArray):gn w p b y v7 fs v3 out e' (W.setCell ⟨b,i,none⟩ v):=by
 have fy:=h.fy;have BB:=h.BB;refine⟨(fA _ _ _ _ (by show p≠b;omega)).trans h.hy,h.he.uk i v he,h.hf.set h.wR _ (Nat.lt_succ_self b) _,h.wR,h.ho.keep fun g hg=>fA _ _ _ _ (by have:=h.gb g hg;show g≠b;omega),h.gb,h.fy,h.BB,h.hB.setCell (show w.heap.size≤b by omega) _⟩
theorem gn.mz {a7:Addr} {m c7 k f:Nat} (h:gn w p b y (.slice (some a7) m c7) fs v3 out e W) (hf:fs[k]?=some f):W.cell? (a7.add k)=some (.int .i64 (f:Int)):=by
 obtain⟨A,c,e1,-,-,-,h4⟩:=h.hf;injection e1 with e1 _ _;subst e1;obtain⟨a,e2,-,hc⟩:=h4 k f hf;cases e2;exact hc
theorem gn.Tu (h:gn w p b y v7 fs v3 out e W) {e1 e2:af} (i:Nat) (u v:ai) (h1:e.cells.toArray.setIfInBounds i u=e1.cells.toArray) (h2:e1.cells.toArray.setIfInBounds (i+1) v=e2.cells.toArray):gn w p b y v7 fs v3 out e2 ((W.setCell ⟨b,i,none⟩ u).setCell ⟨b,i+1,none⟩ v):=(h.set i u h1).set (i+1) v h2
theorem gn.free (h:gn w p b y v7 fs v3 out e W) (i:Nat):W.frozen? ⟨b,i,none⟩=false:=h.he.free i
end
structure lS (w:ae) (p:Nat) (y:gX) (v3:ai) (out:List af) (W:ae):Prop where
 hy:W.heap[p]?=some (.cells y.cells.toArray 78 (0,0))
 ho:OL W w.heap.size 33 18 af.cells v3 out
 gb:∀g,v3.ownBlock=some g→g<p
 BB:w.heap.size≤p
 hB:Below w.heap.size w W
section
variable {w:ae} {p b:Nat} {y:gX} {v7:ai} {fs:List Nat} {v3:ai} {out:List af} {e:af} {W:ae}
theorem lS.cS (h:lS w p y v3 out W) {i:Nat} {v:ai} (hv:y.cells[i]?=some v):W.cell? ⟨p,i,none⟩=some v:=aJ h.hy (by simpa using hv)
theorem lS.step (h:lS w p y v3 out W) {W':ae} (hb:Below W.heap.size W W'):lS w p y v3 out W':=
 ⟨fe hb h.hy,h.ho.below hb (aB _),h.gb,h.BB,h.hB.trans (hb.mono h.hB.size)⟩
theorem lS.drew (h:lS w p y v3 out W):lS w p y v3 out W.drew:=h.step (eR (bK _ _))
theorem lS.start (ho:OL W w.heap.size 33 18 af.cells v3 out) (hB:Below w.heap.size w W):lS w W.heap.size y v3 out (W.alloc (.cells y.cells.toArray 78)):=
 ⟨bG _ _,ho.alloc _,fun g hg=>(ho.lt g hg).2,hB.size,hB.trans ((aY _ _).mono hB.size)⟩
theorem lS.alloc (h:lS w p y v3 out W):∃b V,W.heap.size=b∧W.alloc (.cells #[.int .i64 0,.int .i64 0,.int .i64 0,.int .i64 0,.bool false,.int .i64 0,.int .i64 0,.int .i64 0,.int .i64 0,.int .i64 0,.int .i64 0,.string ⟨#[]⟩,.string ⟨#[]⟩,.string ⟨#[]⟩,.string ⟨#[]⟩,.string ⟨#[]⟩,.string ⟨#[]⟩,.string ⟨#[]⟩] 33)=V∧lS w p y v3 out V∧aR V b aW∧p<b:=
 ⟨_,_,rfl,rfl,h.step (aY _ _),af.new W aW,bt h.hy⟩
theorem lS.row (h:lS w p y v3 out W) (fy:p<b) (e:af):lS w p y v3 out (W.setRow b e.cells.toArray):=by
 obtain⟨h1,h2,h3,h4,h5⟩:=h
 have hs:∀k,k≠b→(W.setRow b e.cells.toArray).heap[k]?=W.heap[k]?:=fun k hk=>by
  simp only[qH,qB];rw[if_neg (fun e=>hk e.symm)]
 exact⟨(hs p (by omega)).trans h1,h2.keep fun g hg=>hs g (by have:=h3 g hg;omega),h3,h4,h5.trans ⟨rfl,rfl,rfl,by simp[qH],fun k hk=>hs k (by omega)⟩⟩
theorem lS.full (h:lS w p y v3 out W) (he:aR W b e) (fy:p<b) (hf:aX W v7 fs) (wR:gK (b+1) v7):gn w p b y v7 fs v3 out e W:=⟨h.hy,he,hf,wR,h.ho,h.gb,fy,h.BB,h.hB⟩
theorem gn.row (h:gn w p b y v7 fs v3 out e W) (e':af):gn w p b y v7 fs v3 out e' (W.setRow b e'.cells.toArray):=by
 have hz:=lS.row (w:=w) (p:=p) (y:=y) (v3:=v3) (out:=out) ⟨h.hy,h.ho,h.gb,h.BB,h.hB⟩ h.fy e'
 have hs:∀k,k≠b→(W.setRow b e'.cells.toArray).heap[k]?=W.heap[k]?:=fun k hk=>by
  simp only[qH,qB];rw[if_neg (fun e=>hk e.symm)]
 refine hz.full (vN h.he).1 h.fy ?_ h.wR;obtain⟨A,c,rfl,q1,q2,q3,q4⟩:=h.hf;refine⟨A,c,rfl,q1,q2,q3,fun i x hx=>?_⟩;obtain⟨a,rfl,hl,hc⟩:=q4 i x hx;have hb:=h.wR a _ _ rfl;refine⟨a,rfl,by simpa[qH] using hl,?_⟩;unfold World.cell? at hc⊢;rw[hs _ (by rw[lr];omega)];exact hc
theorem zD {P:eI} {ops:Array aZ} {o:aZ} {a:cu} {V:ae} {K:cu→ae→Prop} {Q:Exit→cu→ae→Prop} {D:Prop} {e0:af} (ct:o.guard=none) (x y:ef) (ho:o.op=.store 33 x y) (hd:o.dst=none) (b:Nat) (e:af)
 (hx:a.eval x=.pointer (some ⟨b,0,none⟩)) (hy:a.eval y=.agg e.cells.toArray) (hi:(P.info? 33).map (·.size)=some e.cells.toArray.size) (h0:aR V b e0) (hk:K a (V.setRow b e.cells.toArray)):
 if eD o (gJ ops a.tmps)=true then Oper.wp P o a V K Q else D:=by
 have hw:eD o (gJ ops a.tmps)=true:=by simp[eD,ct]
 rw[if_pos hw];refine wp_store_row _ x y ho b _ hx hy 33 _ h0 hi rfl (rC e) ?_;rw[hd];exact hk
theorem mf {P:eI} {ops:Array aZ} {S:ae→Prop} {o:aZ} {v:ai} {a:cu} {V:ae} {K:cu→ae→Prop} {Q:Exit→cu→ae→Prop} {D:Prop} (hy:YieldsIf P ops S o v a) (ct:o.guard=none) (hS:S V) (hk:K (a.put o.dst v) V):
 if eD o (gJ ops a.tmps)=true then Oper.wp P o a V K Q else D:=by
 have hw:eD o (gJ ops a.tmps)=true:=by simp[eD,ct]
 rw[if_pos hw];rcases hy with⟨_,h⟩|⟨h,_⟩
 · unfold Oper.wp;rw[h V hS];exact hk
 · rw[hw] at h;cases h
theorem acK {ops:Array aZ} {rest:List aZ} {o:aZ} {a:cu} {V:ae} {Q:Exit→cu→ae→Prop} (ct:o.guard=none) (x:ef) (ho:o.op=.buildSlice 25 1 #[(0,x)]) (e:af) (hx:a.eval x=e.val)
 (hk:∀b V',V.heap.size=b→V.alloc (.cells e.cells.toArray 33)=V'→wpList ah ops Q rest (a.put o.dst (.slice (some ⟨b,0,none⟩) 1 1)) V'):wpList ah ops Q (o::rest) a V:=by
 refine wpList_plain ct fun K hK=>?_;have h:=hk _ _ rfl rfl;unfold Oper.wp execOp;have hr:=zx V e;obtain⟨z,hz⟩:=oQ (e.val);rw[hz] at hr hx;simp only[ho,List.map_toArray,List.map_cons,List.map_nil,hx,Sem.run_bind,hr,Result.andThen_ok];exact hK _ _ h
end
theorem ajg (k:Nat):∀f∈kn k,f≤9:=by
 intro f hf;unfold kn at hf
 split at hf<;>simp at hf<;>omega
theorem ajh (k:Nat):(kn k).length≤5:=by unfold kn;split<;>simp
def KV (e:af):Prop:=0≤e.az∧e.az≤40
theorem rI (y:gX) (k f:Nat) {e:af} (h:KV e):KV (iK y k f e):=by
 have hp:=kU y.y4 (n:=40) (by omega);unfold iK
 split
 all_goals first
  |exact h
  |(unfold KV;exact⟨hp.1,by have:=hp.2;show dA y.y4 40≤40;omega⟩)
  |(unfold dS;split<;>exact h)
end Go.Proofs.YteeifhlhpiimoaaGreatDoor
end
section
namespace Go.Proofs.YteeifhlhpiimoaaGreatDoor
open Go Go.RowKit Go.Shelf Wr
theorem acF {neg:Bool} {n:Nat} (h:n<1000000000000000000):(iu neg n).size≤45:=by
 have h1:(iu neg n).size=(BQ neg n).length:=rfl;have h2:(dg n).length≤18:=AO h;have h3:=LN n;rw[h1];unfold BQ
 split
 · simp
 · rw[List.length_append]
   (have:(if neg=true then([45]:List UInt8) else[]).length≤1:=by split<;>simp);omega
theorem Tf {x:Int} {y:Nat} (h:x.natAbs<1000000000000000000):(rH x y).size≤45:=acF (KQ (GP _ _) h)
theorem S9 {x:Int} {y:Nat} (h:y<1000000000000000000):(rG x y).size≤45:=acF (KQ (GP _ _) h)
theorem amS (n:Int):(F7 n).size=32:=by
 have:(F7 n).size=(J_ n).length:=rfl;rw[this];unfold J_;simp
structure AD (e:af):Prop where
 ln:e.ln.size≤45
 ld:e.ld.size≤45
 hn:e.hn.size≤45
 hd:e.hd.size≤45
 rn:e.rn.size≤45
 rd:e.rd.size≤45
 text:e.text.size≤45
theorem AD.TR {e:af} (h:AD e):e.oE:=⟨by have:=h.ln;omega,by have:=h.ld;omega,by have:=h.hn;omega,by have:=h.hd;omega,by have:=h.rn;omega,by have:=h.rd;omega,by have:=h.text;omega⟩
theorem DY:AD aW:=⟨by decide,by decide,by decide,by decide,by decide,by decide,by decide⟩
theorem aoa (y:gX) (k f:Nat) {e:af} (h:AD e):AD (iK y k f e):=by
 have p41:=kU y.y2 (n:=41) (by omega);have p5:=kU y.y5 (n:=5) (by omega);have p9:=kU y.y2 (n:=9) (by omega);have p4:=kU (Int.tdiv y.y2 41) (n:=4) (by omega);have q9:=kU y.y4 (n:=9) (by omega);have hl:(BG y).natAbs<1000000000000000000:=by unfold BG;omega
 have hh:(Bh y).natAbs<1000000000000000000:=by unfold Bh;omega
 have hd:tJ y<1000000000000000000:=by unfold tJ;omega
 have hr:AN y<1000000000000000000:=by unfold AN;omega
 have hp:(dA y.y2 9).natAbs<1000000000000000000:=by omega
 unfold iK
 split
 · exact⟨h.ln,h.ld,h.hn,h.hd,h.rn,h.rd,h.text⟩
 · exact⟨h.ln,h.ld,h.hn,h.hd,h.rn,h.rd,h.text⟩
 · exact⟨h.ln,h.ld,h.hn,h.hd,h.rn,h.rd,h.text⟩
 · exact⟨Tf hl,S9 hd,Tf hh,S9 hd,h.rn,h.rd,h.text⟩
 · exact⟨h.ln,h.ld,h.hn,h.hd,Tf hp,S9 hr,h.text⟩
 · exact⟨h.ln,h.ld,h.hn,h.hd,h.rn,h.rd,by show(F7 y.y2).size≤45;rw[amS];omega⟩
 · unfold dS;split<;>exact⟨h.ln,h.ld,h.hn,h.hd,h.rn,h.rd,h.text⟩
theorem acz (y:gX):∀(fs:List Nat) (k:Nat) {e:af},AD e→AD (Dc y k fs e)
 |[],_,_,h=>h
 |f::fs,k,_,h=>acz y fs (k+1) (aoa y k f h)
theorem ant (y:gX):AD (iq y):=acz y _ 0 ⟨DY.ln,DY.ld,DY.hn,DY.hd,DY.rn,DY.rd,DY.text⟩
end Go.Proofs.YteeifhlhpiimoaaGreatDoor
end
section
namespace Go.Proofs.YteeifhlhpiimoaaGreatDoor
open Go Go.RowKit Go.Shelf
attribute [local go_sem] Oper.semAt_some
def DW:List ai→Nat→List ai→List ai
 |xs,_,[]=>xs
 |xs,o,v::vs=>DW (xs.set o v) (o+1) vs
theorem Tv:∀(vs:List ai) (o:Nat) (xs:List ai) (k:Nat),o+vs.length≤xs.length→(DW xs o vs)[k]?=if o≤k∧k<o+vs.length then vs[k-o]? else xs[k]?
 |[],o,xs,k,_=>by rw[if_neg (by simp)];rfl
 | v ::vs,o,xs,k,h=>by
   simp only[eF] at h;rw[DW,Tv vs (o+1) (xs.set o v) k (by simp;omega)]
   by_cases h1:o+1≤k∧k<o+1+vs.length
   · rw[if_pos h1,if_pos (by simp only[eF];omega),show k-o=(k-(o+1))+1 by omega,agN]
   · rw[if_neg h1]
     by_cases h2:k=o
     · subst h2
       rw[if_pos (by simp only[eF];omega),KS,GN (by omega)];rfl
     · rw[if_neg (by simp only[eF];omega),GM (by omega)]
theorem S1 {B g n c:Nat} {T:TypeId} {s:Nat}:∀(vs:List ai) (o:Nat) (xs:List ai) (w:ae),w.ownsRow B T s (.slice (some ⟨g,0,none⟩) n c) n xs→(w.setCells g o vs).ownsRow B T s (.slice (some ⟨g,0,none⟩) n c) n (DW xs o vs)
 |[],_,_,_,h=>h
 |v::vs,o,xs,w,h=>by rw[KH,DW];exact S1 vs (o+1) _ _ (af6 h o v).1
theorem OL.put {w:ae} {B g n c i:Nat} {l:List af} (h:OL w B 33 18 af.cells (.slice (some ⟨g,0,none⟩) n c) l) (hi:i<n) (e:af):
 OL (w.setCells g (i*18) e.cells) B 33 18 af.cells (.slice (some ⟨g,0,none⟩) n c) (l.set i e):=by
 have hn:=h.len.1;subst hn;have h1:=S1 e.cells (i*18) _ w h;unfold OL;rw[s'];have hf:∀x:af,x.cells.length=18:=fun _=>rfl;have hlen:(l.flatMap af.cells).length=l.length*18:=m_ hf;have ZK:((l.set i e).flatMap af.cells).length=l.length*18:=by rw[m_ hf,s']
 have e1:DW (l.flatMap af.cells) (i*18) e.cells=(l.set i e).flatMap af.cells:=by
  apply pO;intro k;rw[Tv _ _ _ _ (by rw[hf,hlen];omega),hf]
  by_cases hk:k<l.length*18
  · obtain⟨q,r,hr,rfl⟩:∃q r,r<18∧k=q*18+r:=⟨k/18,k%18,by omega,by omega⟩
    have hq:q<l.length:=by omega
    by_cases JA:q=i
    · subst JA
      rw[if_pos (by omega),mA (f:=af.cells) (s:=18) hf (l.set q e) q e (by rw[GN hq]) r hr]
      congr 1;omega
    · rw[if_neg (by omega),mA (f:=af.cells) (s:=18) hf l q l[q] (bp hq) r hr,mA (f:=af.cells) (s:=18) hf (l.set i e) q l[q] (by rw[GM (by omega)];exact bp hq) r hr]
  · rw[if_neg (by omega),jz (by omega),jz (by omega)]
 rw[←e1];exact h1
theorem OL.row {w:ae} {B g n c i:Nat} {l:List af} {e:af} (h:OL w B 33 18 af.cells (.slice (some ⟨g,0,none⟩) n c) l) (he:l[i]?=some e):w.rangeAt g (i*18) e.cells:=by
 intro j v hv;have hn:=h.len.1;subst hn;have hf:∀x:af,x.cells.length=18:=fun _=>rfl;have hj:j<18:=(dL.1 hv).1;have hi:i<l.length:=(dL.1 he).1;have hlen:(l.flatMap af.cells).length=l.length*18:=m_ hf;rw[U4 h (i*18+j) (by omega),mA (f:=af.cells) (s:=18) hf l i e he j hj];exact hv
theorem OL.there {w:ae} {B g n c i:Nat} {l:List af} (h:OL w B 33 18 af.cells (.slice (some ⟨g,0,none⟩) n c) l) (hi:i<n):w.there g (i*18) 18:=by
 have hn:=h.len.1;subst hn;obtain⟨e,he⟩:∃e,l[i]?=some e:=⟨_,bp hi⟩;intro j hj;have h1:=h.row he;obtain⟨v,hv⟩:∃v,e.cells[j]?=some v:=⟨_,bp hj⟩;exact⟨by rw[h1 j v hv];rfl,af5 h _⟩
theorem OL.XB {w:ae} {B n c:Nat} {A:Option Addr} {m:List af} (h:OL w B 33 18 af.cells (.slice A n c) m):∀j x,(m.flatMap af.cells)[j]?=some x→∃a,A=some a∧w.cell? (a.add j)=some x:=by
 intro j x hx;have hlen:(m.flatMap af.cells).length=m.length*18:=m_ (fun _=>rfl);have hj:j<m.length*18:=by rw[←hlen];exact(dL.1 hx).1
 have hn:=h.len.1;subst hn;obtain⟨g,cap,e1,-,-,-,-⟩:=h.form (by omega);injection e1 with e1 e2 e3;subst e1 e3;refine⟨_,rfl,?_⟩;rw[show(⟨g,0,none⟩:Addr).add j=⟨g,j,none⟩ from by simp[jy];omega,U4 h j (by omega)];exact hx
theorem OL.cut {w:ae} {B n c k:Nat} {A:Option Addr} {m:List af} (h:OL w B 33 18 af.cells (.slice A n c) m):∀j x,((m.take k).flatMap af.cells)[j]?=some x→∃a,A=some a∧w.cell? (a.add j)=some x:=by
 intro j x hx;rw[←QK (f:=af.cells) (size:=18) (fun _=>rfl),List.getElem?_take] at hx
 split at hx
 · exact h.XB j x hx
 · cases hx
theorem anN {P:eI} {ops:Array aZ} {o:aZ} {a:cu} {V:ae} {K:cu→ae→Prop} {Q:Exit→cu→ae→Prop} {D:Prop} (ct:o.guard=none) (x y:ef) (ho:o.op=.store 33 x y) (hd:o.dst=none) (b i:Nat) (e:af)
 (hx:a.eval x=.pointer (some ⟨b,i,none⟩)) (hy:a.eval y=.agg e.cells.toArray) (hi:(P.info? 33).map (·.size)=some e.cells.toArray.size) (ht:V.there b i 18) (hk:K a (V.setCells b i e.cells)):
 if eD o (gJ ops a.tmps)=true then Oper.wp P o a V K Q else D:=by
 have hw:eD o (gJ ops a.tmps)=true:=by simp[eD,ct]
 rw[if_pos hw];refine wp_store_mid 33 x y ho b i _ hx hy ht hi (rC e) ?_;rw[hd];exact hk
structure TE where
 e:af
 t:Nat
abbrev TE.cells (x:TE):List ai:=x.e.cells
abbrev TE.val (x:TE):ai:=.agg x.cells.toArray
def cV (x y:TE):Bool:=decide (pk x.e y.e<0)||(decide (pk x.e y.e=0)&&decide (x.t<y.t))
theorem aik {x y:af}:pk x y<0↔x.az<y.az∨(x.az=y.az∧x.id<y.id):=by
 unfold pk uf dZ
 split<;>split<;>omega
theorem aij {x y:af}:pk x y=0↔x.az=y.az∧x.id=y.id:=by
 unfold pk uf dZ
 split<;>split<;>omega
theorem xg {x y:TE}:cV x y=true↔x.e.az<y.e.az∨(x.e.az=y.e.az∧(x.e.id<y.e.id∨(x.e.id=y.e.id∧x.t<y.t))):=by
 unfold cV;rw[Bool.or_eq_true,Bool.and_eq_true,decide_eq_true_eq,decide_eq_true_eq,decide_eq_true_eq,aik,aij];omega
theorem aa5 {x y:TE} (h:cV x y=false):¬(x.e.az<y.e.az∨(x.e.az=y.e.az∧(x.e.id<y.e.id∨(x.e.id=y.e.id∧x.t<y.t)))):=fun z=>by
 rw[xg.2 z] at h;cases h
theorem vH:p7 cV:=by
 refine⟨fun a b h=>?_,fun a b c h k=>?_⟩
 · cases q:cV b a
   · rfl
   · have h1:=xg.1 h;have h2:=xg.1 q;omega
 · cases q:cV a c
   · rfl
   · exfalso
     have h1:=aa5 h;have h2:=aa5 k;have h3:=xg.1 q;omega
theorem ML {x y:TE} (h:y.t<x.t):cV x y=decide (pk x.e y.e<0):=by
 unfold cV;rw[show decide (x.t<y.t)=false by simp;omega,Bool.and_false,Bool.or_false]
def Sep (l:List TE) (a m b:Nat):Prop:=∀p q x y,a≤p→p<m→m≤q→q<b→l[p]?=some x→l[q]?=some y→x.t<y.t
def F9:List ai→Nat→List ai→List ai
 |xs,_,[]=>xs
 |xs,o,v::vs=>F9 (xs.set o v) (o+1) vs
theorem ach:∀(vs:List ai) (o:Nat) (xs:List ai) (k:Nat),o+vs.length≤xs.length→(F9 xs o vs)[k]?=if o≤k∧k<o+vs.length then vs[k-o]? else xs[k]?
 |[],o,xs,k,_=>by rw[if_neg (by simp)];rfl
 | v ::vs,o,xs,k,h=>by
   simp only[eF] at h;rw[F9,ach vs (o+1) (xs.set o v) k (by simp;omega)]
   by_cases h1:o+1≤k∧k<o+1+vs.length
   · rw[if_pos h1,if_pos (by simp only[eF];omega),show k-o=(k-(o+1))+1 by omega,agN]
   · rw[if_neg h1]
     by_cases h2:k=o
     · subst h2
       rw[if_pos (by simp only[eF];omega),KS,GN (by omega)];rfl
     · rw[if_neg (by simp only[eF];omega),GM (by omega)]
theorem aby {B g n c:Nat} {T:TypeId} {s:Nat}:∀(vs:List ai) (o:Nat) (xs:List ai) (w:ae),w.ownsRow B T s (.slice (some ⟨g,0,none⟩) n c) n xs→(w.setCells g o vs).ownsRow B T s (.slice (some ⟨g,0,none⟩) n c) n (F9 xs o vs)
 |[],_,_,_,h=>h
 |v::vs,o,xs,w,h=>by rw[KH,F9];exact aby vs (o+1) _ _ (af6 h o v).1
theorem OL.uh {w:ae} {B g n c i:Nat} {l:List TE} (h:OL w B 33 18 TE.cells (.slice (some ⟨g,0,none⟩) n c) l) (hi:i<n) (e:TE):
 OL (w.setCells g (i*18) e.cells) B 33 18 TE.cells (.slice (some ⟨g,0,none⟩) n c) (l.set i e):=by
 have hn:=h.len.1;subst hn;have h1:=aby e.cells (i*18) _ w h;unfold OL;rw[s'];have hf:∀x:TE,x.cells.length=18:=fun _=>rfl;have hlen:(l.flatMap TE.cells).length=l.length*18:=m_ hf;have ZK:((l.set i e).flatMap TE.cells).length=l.length*18:=by rw[m_ hf,s']
 have e1:F9 (l.flatMap TE.cells) (i*18) e.cells=(l.set i e).flatMap TE.cells:=by
  apply pO;intro k;rw[ach _ _ _ _ (by rw[hf,hlen];omega),hf]
  by_cases hk:k<l.length*18
  · obtain⟨q,r,hr,rfl⟩:∃q r,r<18∧k=q*18+r:=⟨k/18,k%18,by omega,by omega⟩
    have hq:q<l.length:=by omega
    by_cases JA:q=i
    · subst JA
      rw[if_pos (by omega),mA (f:=TE.cells) (s:=18) hf (l.set q e) q e (by rw[GN hq]) r hr]
      congr 1;omega
    · rw[if_neg (by omega),mA (f:=TE.cells) (s:=18) hf l q l[q] (bp hq) r hr,mA (f:=TE.cells) (s:=18) hf (l.set i e) q l[q] (by rw[GM (by omega)];exact bp hq) r hr]
  · rw[if_neg (by omega),jz (by omega),jz (by omega)]
 rw[←e1];exact h1
theorem OL.nG {w:ae} {B g n c i:Nat} {l:List TE} {e:TE} (h:OL w B 33 18 TE.cells (.slice (some ⟨g,0,none⟩) n c) l) (he:l[i]?=some e):w.rangeAt g (i*18) e.cells:=by
 intro j v hv;have hn:=h.len.1;subst hn;have hf:∀x:TE,x.cells.length=18:=fun _=>rfl;have hj:j<18:=(dL.1 hv).1;have hi:i<l.length:=(dL.1 he).1;have hlen:(l.flatMap TE.cells).length=l.length*18:=m_ hf;rw[U4 h (i*18+j) (by omega),mA (f:=TE.cells) (s:=18) hf l i e he j hj];exact hv
theorem OL.uo {w:ae} {B g n c i:Nat} {l:List TE} (h:OL w B 33 18 TE.cells (.slice (some ⟨g,0,none⟩) n c) l) (hi:i<n):w.there g (i*18) 18:=by
 have hn:=h.len.1;subst hn;obtain⟨e,he⟩:∃e,l[i]?=some e:=⟨_,bp hi⟩;intro j hj;have h1:=h.nG he;obtain⟨v,hv⟩:∃v,e.cells[j]?=some v:=⟨_,bp hj⟩;exact⟨by rw[h1 j v hv];rfl,af5 h _⟩
theorem um {P:eI} {ops:Array aZ} {o:aZ} {a:cu} {V:ae} {K:cu→ae→Prop} {Q:Exit→cu→ae→Prop} {D:Prop} (ct:o.guard=none) (x y:ef) (ho:o.op=.store 33 x y) (hd:o.dst=none) (b i:Nat) (e:TE)
 (hx:a.eval x=.pointer (some ⟨b,i,none⟩)) (hy:a.eval y=.agg e.cells.toArray) (hi:(P.info? 33).map (·.size)=some e.cells.toArray.size) (ht:V.there b i 18) (hk:K a (V.setCells b i e.cells)):
 if eD o (gJ ops a.tmps)=true then Oper.wp P o a V K Q else D:=by
 have hw:eD o (gJ ops a.tmps)=true:=by simp[eD,ct]
 rw[if_pos hw];refine wp_store_mid 33 x y ho b i _ hx hy ht hi (rC e.e) ?_;rw[hd];exact hk
def jw (l:List TE) (a b:Nat):Nat→List TE
 |0=>l
 | k+1=>match (jw l a b k)[a+k]?,(jw l a b k)[b+k]? with
   |some x,some y=>((jw l a b k).set (a+k) y).set (b+k) x
   |_,_=>jw l a b k
theorem Ga (l:List TE) (a b:Nat):∀k,(jw l a b k).length=l.length
 |0=>rfl
 | k+1=>by
   rw[jw]
   split
   · rw[s',s',Ga l a b k]
   · exact Ga l a b k
theorem TF (l:List TE) (B g n c a b k:Nat) (cv:ai) (d_:a+k≤n) (oN:b+k≤n) (hm:n≤1000000) (w:ae) (hO:OL w B 33 18 TE.cells (.slice (some ⟨g,0,none⟩) n c) l):
 ax ah 273 #[.slice (some ⟨g,0,none⟩) n c,.int .i64 (a:Int),.int .i64 (b:Int),.int .i64 (k:Int),cv] w fun r w'=>r=.returned (.tuple #[])∧OL w' B 33 18 TE.cells (.slice (some ⟨g,0,none⟩) n c) (jw l a b k)∧Below B w w':=by
 have HO:=hZ hO;have pV:ag (B≤g):=hZ (hO.lt g rfl).1;have dO:ag (l.length=n):=hZ hO.len.1.symm;have IE:=fun e:TE=>hZ (di (e:=e.e));have IS:=fun e:TE=>hZ (show(ah.info? 33).map (·.size)=some e.cells.toArray.size from di (e:=e.e));have HK:=hZ (And.intro d_ (And.intro oN hm));have de:ag (Below B w w):=hZ (bK _ _);clear hO d_ oN hm
 go_enter Tryz.func273,Tryz.ntmps273
 go_wp2_with fail
 go_loopw [10] (fun xv wr=> ∃i:Nat,xv=.int .i64 (i:Int)∧i≤k∧ag (OL wr B 33 18 TE.cells (.slice (some ⟨g,0,none⟩) n c) (jw l a b i))∧ag (Below B w wr)) (fun x _=>k-(intOf x).toNat)
 case atStart=>exact⟨0,rfl,ei _,HO,de⟩
 case round=>
  clear HO de;obtain⟨i,rfl,hi,HV,HB⟩:=hrel
  by_cases Fs:i<k
  · have wT:=HK.out
    (have d1:decide (i<k)=true:=by simp[Fs]);obtain⟨p,hp⟩:=oQ (a+i);obtain⟨q,hq⟩:=oQ (b+i);(have wp:aQ.wrap ((a:Int)+(i:Int))=(p:Int):=by rw[aS];omega);(have wq:aQ.wrap ((b:Int)+(i:Int))=(q:Int):=by rw[aS];omega);(have wi:aQ.wrap ((i:Int)+1)=((i+1:Nat):Int):=by rw[aS];omega);obtain⟨m,hm⟩:=oQ (jw l a b i);(have vt:m.length=n:=by rw[←hm,Ga];exact dO.out);obtain⟨ea,Rs⟩:∃e,m[p]?=some e:=⟨_,bp (by omega)⟩;obtain⟨eb,Ru⟩:∃e,m[q]?=some e:=⟨_,bp (by omega)⟩;rw[hm] at HV;have fM:=hZ HV.out.drew;have fC:ag (Below B w wr.drew):=hZ (eR HB.out);have uN:=hZ (fM.out.nG Rs);have uO:=hZ (fM.out.nG Ru);have lN:ag (p<n):=hZ (by omega);have oB:ag (q<n):=hZ (by omega);(have y1:(0:Int)≤(p:Int):=by omega);(have y2:(p:Int)<(n:Int):=by omega);(have y3:(0:Int)≤(q:Int):=by omega);(have y4:(q:Int)<(n:Int):=by omega);have HS:ag (jw l a b (i+1)=(m.set p eb).set q ea):=hZ (by rw[jw,hm,hp,hq,Rs,Ru]);have K6:=hZ Fs;clear wT hp hq hm vt Rs Ru Fs HV HB;go_wp2_with fail;refine cJ (fun _=>True) trivial fun hHeld=>?_;obtain⟨U5,fN⟩:=oQ (wr.drew);rw[fN] at fM fC uN uO⊢;clear fN;refine bg 0 1 2 3 ?_;refine bg 4 5 6 7 ?_;refine bg 8 9 10 11 ?_;refine bg 12 14 15 16 ?_;refine eC 17 18 ?_;refine rd [13,19] ?_;refine rc (fun K hK=>?_) ?_
    ·
     refine mf (S:=fun U=>U.rangeAt g (q*18) eb.cells) (yx g (q*18) (IE _).out bk (fun w hw=>hw)) (by rfl) uO.out ?_;refine kk hK trivial fun hHeld=>?_;clear hK K;refine rE 19 fun K hK=>?_;refine mf (S:=fun U=>U.rangeAt g (p*18) ea.cells) (yx g (p*18) (IE _).out bk (fun w hw=>hw)) (by rfl) uN.out ?_;refine kk hK trivial fun hHeld=>?_;clear hK K;refine tk 20 ?_;refine rE 21 fun K hK=>?_;refine um (by rfl) (.tmp 36) (.tmp 29) (by rfl) (by rfl) g (p*18) eb (by first|rfl|simp[jy]) (by rfl) (IS _).out (fM.out.uo lN.out) ?_;have cA:=hZ (fM.out.uh lN.out eb);have oy:=hZ (Below.setCells pV.out eb.cells (p*18) fC.out);obtain⟨V1,oJ⟩:=oQ (U5.setCells g (p*18) eb.cells);rw[oJ] at cA oy⊢;clear oJ;refine kk hK trivial fun hHeld=>?_;clear hK K;refine tk 22 ?_;refine rE 23 fun K hK=>?_;refine um (by rfl) (.tmp 37) (.tmp 35) (by rfl) (by rfl) g (q*18) ea (by first|rfl|simp[jy]) (by rfl) (IS _).out (cA.out.uo oB.out) ?_;have cI:=hZ (cA.out.uh oB.out ea);have jQ:=hZ (Below.setCells pV.out ea.cells (q*18) oy.out);obtain⟨V2,lW⟩:=oQ (V1.setCells g (q*18) ea.cells);rw[lW] at cI jQ⊢;clear lW;refine kk hK trivial fun hHeld=>?_;clear hK K;refine dn ?_;clear hHeld;go_wp2_with fail
     go_round
     case rel=>exact⟨i+1,rfl,K6.out,hZ (by rw[HS.out];exact cI.out),jQ⟩
     case measure=>simp[intOf];have:=K6.out;omega
    refine dx fun K hK=>?_;refine mf (S:=fun U=>U.rangeAt g (p*18) ea.cells) (yx g (p*18) (IE _).out bk (fun w hw=>hw)) (by rfl) uN.out ?_;refine kk hK trivial fun hHeld=>?_;clear hK K;refine rE 13 fun K hK=>?_;refine mf (S:=fun U=>U.rangeAt g (q*18) eb.cells) (yx g (q*18) (IE _).out bk (fun w hw=>hw)) (by rfl) uO.out ?_;refine kk hK trivial fun hHeld=>?_;clear hK K;refine tk 20 ?_;refine rE 21 fun K hK=>?_;refine um (by rfl) (.tmp 36) (.tmp 29) (by rfl) (by rfl) g (p*18) eb (by first|rfl|simp[jy]) (by rfl) (IS _).out (fM.out.uo lN.out) ?_;have cA:=hZ (fM.out.uh lN.out eb);have oy:=hZ (Below.setCells pV.out eb.cells (p*18) fC.out);obtain⟨V1,oJ⟩:=oQ (U5.setCells g (p*18) eb.cells);rw[oJ] at cA oy⊢;clear oJ;refine kk hK trivial fun hHeld=>?_;clear hK K;refine tk 22 ?_;refine rE 23 fun K hK=>?_;refine um (by rfl) (.tmp 37) (.tmp 35) (by rfl) (by rfl) g (q*18) ea (by first|rfl|simp[jy]) (by rfl) (IS _).out (cA.out.uo oB.out) ?_;have cI:=hZ (cA.out.uh oB.out ea);have jQ:=hZ (Below.setCells pV.out ea.cells (q*18) oy.out);obtain⟨V2,lW⟩:=oQ (V1.setCells g (q*18) ea.cells);rw[lW] at cI jQ⊢;clear lW;refine kk hK trivial fun hHeld=>?_;clear hK K;refine dn ?_;clear hHeld;go_wp2_with fail
    go_round
    case rel=>exact⟨i+1,rfl,K6.out,hZ (by rw[HS.out];exact cI.out),jQ⟩
    case measure=>simp[intOf];have:=K6.out;omega
  · have d1:decide (i<k)=false:=by simp;omega
    (obtain rfl:k=i:=by omega);go_wp2_with fail
    go_end0
    exact⟨rfl,HV.out,HB.out⟩
end Go.Proofs.YteeifhlhpiimoaaGreatDoor
end
