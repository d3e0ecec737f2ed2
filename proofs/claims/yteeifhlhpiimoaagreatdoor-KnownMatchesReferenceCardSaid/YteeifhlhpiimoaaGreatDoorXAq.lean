/-
  The contract of yardstickref18's Some; the like for what stands beside it. Conditions: rows of six integers of 64 bits in memory.
-/
import Derived.Test.YteeifhlhpiimoaaGreatDoorXAa
import Derived.Test.YteeifhlhpiimoaaGreatDoorXAn
import Derived.Test.YteeifhlhpiimoaaGreatDoorXAk
import Derived.Test.YteeifhlhpiimoaaGreatDoorXAp
import Derived.Test.YteeifhlhpiimoaaGreatDoorXAl
set_option maxHeartbeats 4000000
set_option maxRecDepth 100000
open And renaming intro→ay
open Go renaming Addr→bI,Calls→ax,Oper→aZ,Operand→ef,TypeId→bF,Value→ai,World→ae,bounds_i64→GF,maxLen→cH,wpList→dT
open Go.Act renaming put→sV
open Go.Addr renaming add→jy
open Go.DataW renaming Trod→NQ,trod_int→B5
open Go.IntKind renaming i64→aQ,wrap_i64→aS
open Go.Proofs.Tryz renaming prog→ah,underlying3→nL,underlying33→bk,underlying86→afF
open Go.RowKit renaming Hid→ag
open Go.World renaming alloc_heap_new→bG,cells?_some→af2,rangeAt→k7
open List renaming getElem?_eq_getElem→bp,getElem?_eq_some_iff→dL,length_filter_le→KO,mem_of_getElem?→mP,setIfInBounds_toArray→ta,set_cons_succ→tc,set_cons_zero→td,take_add_one→gV,take_of_length_le→eE
open Nat renaming le_refl→aB,le_trans→aV,lt_or_ge→fB,zero_le→ei
section
namespace Go.Proofs.YteeifhlhpiimoaaGreatDoor
open Go Go.RowKit Go.Shelf
attribute [local go_sem] Oper.semAt_some
def EU (w:ae) (A:Option bI) (l:List gX):Prop:=∀(i:Nat) (y:gX),l[i]?=some y→∃a,A=some a∧a.block<w.heap.size∧∀j v,y.cells[j]?=some v→w.cell? (a.add (i*6+j))=some v
theorem EU.below {w W:ae} {A:Option bI} {l:List gX} (h:EU w A l) (hb:Below w.heap.size w W):EU W A l:=fun i y hy=>by
 obtain⟨a,h1,h2,h3⟩:=h i y hy;exact⟨a,h1,Nat.lt_of_lt_of_le h2 hb.size,fun j v hv=>(hb.cell (p:=a.add (i*6+j)) (by rw[lr];exact h2)).trans (h3 j v hv)⟩
theorem TW {x:Int} (h:iN x):aQ.wrap x=x:=by obtain⟨h1,h2⟩:=h;rw[aS];omega
theorem TK {x t d:Int} (h:iN x) (hd:2≤d) (ht:Int.tdiv x d=t):iN t:=by
 have h1:=Int.natAbs_tdiv x d;have h2:x.natAbs/d.natAbs≤x.natAbs/2:=Nat.div_le_div_left (by omega) (by omega);obtain⟨h3,h4⟩:=h;rw[ht] at h1;unfold iN;have h5:t.natAbs=x.natAbs/d.natAbs:=h1;omega
theorem pI {x n k:Int} (h:iN x) (hn:1≤n) (cN:n≤9223372036854775807) (hk:dA x n=k):ag (∀W,ax ah 51 #[.int .i64 x,.int .i64 n] W (fun e W'=>e=.returned (.int .i64 k)∧W=W')):=
 hZ fun W=>by rw[←hk];exact S2 W x n h.1 h.2 hn cN
theorem anu (l:List gX) (A:Option bI) (n c:Nat) (hn:l.length=n) (qo:n≤cH) (DK:∀y∈l,y.Ok) (w:ae) (hA:EU w A l):
 ax ah 12 #[.slice A n c] w fun e w'=> ∃v,e=.returned v∧OL w' w.heap.size 33 18 af.cells v ((l.take 30).map iq)∧Below w.heap.size w w':=by
 have HA:=hZ hA;have lM:=hZ DK;have HN:=hZ hn;have ED:ag (n≤9223372036854775807):=hZ (by unfold cH at qo;omega);have IE:=fun e:af=>hZ (di (e:=e));have IS:=fun e:af=>hZ (show(ah.info? 33).map (·.size)=some e.cells.toArray.size from di (e:=e));clear hA DK hn qo
 go_enter Tryz.func12,Tryz.ntmps12
 go_wp2_with fail
 go_loopw [3,4] (fun ov iv wr=> ∃(v3:ai) (i:Nat),v3=ov∧iv=.int .i64 (i:Int)∧i≤n∧i≤30∧ag (OL wr w.heap.size 33 18 af.cells v3 ((l.take i).map iq))∧ag (Below w.heap.size w wr)) (fun _ i _=>30-(intOf i).toNat)
 case atStart=>exact⟨_,0,rfl,rfl,ei _,ei _,hZ OL.nil,hZ (Below.refl _ _)⟩
 case round=>
  obtain⟨v3,i,rfl,rfl,hi,Mo,HO,HB⟩:=hrel
  by_cases ar:i<n∧i<30
  · have aL:=hZ ar
    obtain⟨y,hy⟩:∃y,l[i]?=some y:=⟨_,bp (by rw[HN.out];exact ar.1)⟩;have HYI:=hZ hy;have pf:=hZ (lM.out y (mP hy));obtain⟨a,rfl,d_,gq⟩:=HA.out.below HB.out i y hy;obtain⟨q,hq⟩:=oQ (a.add (i*6));(have c0:wr.cell? q=some (.int .i64 y.y0):=by have h:=gq 0 _ rfl;rw[Nat.add_zero,hq] at h;exact h);(have c1:wr.cell? ⟨q.block,q.off+1,none⟩=some (.int .i64 y.y1):=by have h:=gq 1 _ rfl;rw[←AE,hq] at h;exact h);(have c2:wr.cell? ⟨q.block,q.off+2,none⟩=some (.int .i64 y.y2):=by have h:=gq 2 _ rfl;rw[←AE,hq] at h;exact h);(have c3:wr.cell? ⟨q.block,q.off+3,none⟩=some (.int .i64 y.y3):=by have h:=gq 3 _ rfl;rw[←AE,hq] at h;exact h);(have c4:wr.cell? ⟨q.block,q.off+4,none⟩=some (.int .i64 y.y4):=by have h:=gq 4 _ rfl;rw[←AE,hq] at h;exact h);(have c5:wr.cell? ⟨q.block,q.off+5,none⟩=some (.int .i64 y.y5):=by have h:=gq 5 _ rfl;rw[←AE,hq] at h;exact h);(have d1:decide (i<n)=true:=by simp[ar.1]);(have d2:decide ((i:Int)<30)=true:=by simp;omega);(have z1:(0:Int)≤(i:Int):=by omega);(have z2:(i:Int)<(n:Int):=by omega);obtain⟨k0,fp⟩:=oQ (dA y.y0 9);obtain⟨t1,sN⟩:=oQ (Int.tdiv y.y0 9);obtain⟨k1,fJ⟩:=oQ (dA t1 3);obtain⟨k2,kt⟩:=oQ (dA y.y1 30);obtain⟨t3,kR⟩:=oQ (Int.tdiv y.y1 30);obtain⟨k3,jV⟩:=oQ (dA t3 7);obtain⟨g,hg⟩:=oQ ((k3==0));have wM:iN t1:=TK pf.out.h0 (by omega) sN;have QY:iN t3:=TK pf.out.h1 (by omega) kR;have Qd:=pI pf.out.h0 (n:=9) (by omega) (by omega) fp;have Qe:=pI wM (n:=3) (by omega) (by omega) fJ;have Qf:=pI pf.out.h1 (n:=30) (by omega) (by omega) kt;have Qg:=pI QY (n:=7) (by omega) (by omega) jV;have wt1:aQ.wrap t1=t1:=TW wM;have wt3:aQ.wrap t3=t3:=TW QY
    have r0:=kU y.y0 (n:=9) (by omega);have r1:=kU t1 (n:=3) (by omega);rw[fp] at r0;rw[fJ] at r1;obtain⟨kd,ZG⟩:∃kd:Nat,1+k0=(kd:Int):=⟨(1+k0).toNat,by omega⟩;obtain⟨a1,YN⟩:=oQ (1+k1);(have wa0:aQ.wrap (kd:Int)=(kd:Int):=by rw[aS];omega);(have wa1:aQ.wrap a1=a1:=by rw[aS];omega);have Ha:ag (1≤kd∧kd≤9∧kd=kindOf y):=hZ ⟨by omega,by omega,by unfold kindOf;rw[fp];omega⟩;have OW:ag (Rt y=Dn kd a1 k2 g):=hZ (by unfold Rt Dn;rw[fp,sN,fJ,kt,kR,jV,hg,ZG,YN]);have HYC:ag (y.cells=[.int .i64 y.y0,.int .i64 y.y1,.int .i64 y.y2,.int .i64 y.y3,.int .i64 y.y4,.int .i64 y.y5]):=hZ rfl;obtain⟨p,hp⟩:=oQ (wr.heap.size);obtain⟨W0,gP⟩:=oQ (wr.alloc (.cells #[.int .i64 y.y0,.int .i64 y.y1,.int .i64 y.y2,.int .i64 y.y3,.int .i64 y.y4,.int .i64 y.y5] 78));(have hz:lS w p y v3 ((l.take i).map iq) W0.drew:=by rw[←gP,←hp];exact(lS.start HO.out HB.out).drew);have HZ:=hZ hz;clear hy gq hz wM QY r0 r1 fp fJ kt jV;go_wp2_with fail;refine cJ (fun U=>U.cell? ⟨p,0,none⟩=some (.int .i64 y.y0)∧U.cell? ⟨p,1,none⟩=some (.int .i64 y.y1)) ⟨HZ.out.cS rfl,HZ.out.cS rfl⟩ fun hHeld=>?_;obtain⟨U0,en⟩:=oQ (W0.drew);rw[en] at HZ hHeld⊢;clear en;refine bg 0 1 4 5 ?_;refine bg 6 9 10 12 ?_;refine eC 13 14 ?_;apply o7;intro N0;apply o7;intro N1;apply o7;intro N2;apply o7;intro N3
    ·
     refine rd [2,18] ?_;refine rc (fun K hK=>?_) ?_
     ·
      go_simp;refine(Qd.out U0).mono ?_;rintro e2 W2 ⟨rfl,rfl⟩;refine kk hK (⟨HZ.out.cS rfl,HZ.out.cS rfl⟩) fun hHeld=>?_;clear hK K;refine tk 3 ?_;refine rd [7,18] ?_;refine rc (fun K hK=>?_) ?_
      ·
       go_simp;refine(Qe.out U0).mono ?_;rintro e2 W2 ⟨rfl,rfl⟩;refine kk hK (⟨HZ.out.cS rfl,HZ.out.cS rfl⟩) fun hHeld=>?_;clear hK K;refine tk 8 ?_;refine rd [11,18] ?_;refine rc (fun K hK=>?_) ?_
       ·
        go_simp;refine(Qf.out U0).mono ?_;rintro e2 W2 ⟨rfl,rfl⟩;refine kk hK (⟨HZ.out.cS rfl,HZ.out.cS rfl⟩) fun hHeld=>?_;clear hK K;refine rd [15,18] ?_;refine rc (fun K hK=>?_) ?_
        ·
         go_simp;refine(Qg.out U0).mono ?_;rintro e2 W2 ⟨rfl,rfl⟩;refine kk hK (⟨HZ.out.cS rfl,HZ.out.cS rfl⟩) fun hHeld=>?_;clear hK K;refine eC 16 17 ?_;refine rE 18 fun K hK=>?_;go_simp;obtain⟨b,V6,q1,q2,hz,he,fy⟩:=HZ.out.alloc;rw[q1,q2];have HZ:=hZ hz;have HE:=hZ (ay he fy);clear q1 q2 hz he fy;refine kk hK (⟨HZ.out.cS rfl,HZ.out.cS rfl⟩) fun hHeld=>?_;clear hK K;have HX:=(ay HZ (ay HE hHeld));exact N0 V6 b HX
        refine dx fun K hK=>?_;go_simp;obtain⟨b,V6,q1,q2,hz,he,fy⟩:=HZ.out.alloc;rw[q1,q2];have HZ:=hZ hz;have HE:=hZ (ay he fy);clear q1 q2 hz he fy;refine kk hK (⟨HZ.out.cS rfl,HZ.out.cS rfl⟩) fun hHeld=>?_;clear hK K;have HX:=(ay HZ (ay HE hHeld));exact N1 V6 b HX
       refine dx fun K hK=>?_;go_simp;obtain⟨b,V6,q1,q2,hz,he,fy⟩:=HZ.out.alloc;rw[q1,q2];have HZ:=hZ hz;have HE:=hZ (ay he fy);clear q1 q2 hz he fy;refine kk hK (⟨HZ.out.cS rfl,HZ.out.cS rfl⟩) fun hHeld=>?_;clear hK K;have HX:=(ay HZ (ay HE hHeld));exact N2 V6 b HX
      refine dx fun K hK=>?_;go_simp;obtain⟨b,V6,q1,q2,hz,he,fy⟩:=HZ.out.alloc;rw[q1,q2];have HZ:=hZ hz;have HE:=hZ (ay he fy);clear q1 q2 hz he fy;refine kk hK (⟨HZ.out.cS rfl,HZ.out.cS rfl⟩) fun hHeld=>?_;clear hK K;have HX:=(ay HZ (ay HE hHeld));exact N3 V6 b HX
     refine dx fun K hK=>?_;go_simp;obtain⟨b,V6,q1,q2,hz,he,fy⟩:=HZ.out.alloc;rw[q1,q2];have HZ:=hZ hz;have HE:=hZ (ay he fy);clear q1 q2 hz he fy;refine kk hK (⟨HZ.out.cS rfl,HZ.out.cS rfl⟩) fun hHeld=>?_;clear hK K;refine rE 2 fun K hK=>?_;go_simp;refine(Qd.out V6).mono ?_;rintro e2 W2 ⟨rfl,rfl⟩;refine kk hK (⟨HZ.out.cS rfl,HZ.out.cS rfl⟩) fun hHeld=>?_;clear hK K;refine tk 3 ?_;exact N3 V6 b ⟨HZ,HE,hHeld⟩
    ·
     rintro LH b ⟨HZ,HE,hHeld⟩;refine rE 7 fun K hK=>?_;go_simp;refine(Qe.out LH).mono ?_;rintro e2 W2 ⟨rfl,rfl⟩;refine kk hK (⟨HZ.out.cS rfl,HZ.out.cS rfl⟩) fun hHeld=>?_;clear hK K;refine tk 8 ?_;exact N2 LH b ⟨HZ,HE,hHeld⟩
    ·
     rintro CU b ⟨HZ,HE,hHeld⟩;refine rE 11 fun K hK=>?_;go_simp;refine(Qf.out CU).mono ?_;rintro e2 W2 ⟨rfl,rfl⟩;refine kk hK (⟨HZ.out.cS rfl,HZ.out.cS rfl⟩) fun hHeld=>?_;clear hK K;exact N1 CU b ⟨HZ,HE,hHeld⟩
    ·
     rintro tH b ⟨HZ,HE,hHeld⟩;refine rE 15 fun K hK=>?_;go_simp;refine(Qg.out tH).mono ?_;rintro e2 W2 ⟨rfl,rfl⟩;refine kk hK (⟨HZ.out.cS rfl,HZ.out.cS rfl⟩) fun hHeld=>?_;clear hK K;refine eC 16 17 ?_;exact N0 tH b ⟨HZ,HE,hHeld⟩
    ·
     rintro EW b ⟨HZ,HE,hHeld⟩;refine rE 19 fun K hK=>?_;refine zD (by rfl) (.tmp 6) (.tmp 40) (by rfl) (by rfl) b (Dn kd a1 k2 g) (by rfl) (by rfl) (IS _).out HE.out.1 ?_;have sn:=hZ (HZ.out.row HE.out.2 (Dn kd a1 k2 g));have cK:=hZ (ay (vN (e:=Dn kd a1 k2 g) HE.out.1).1 HE.out.2);obtain⟨W7,wO⟩:=oQ (EW.setRow b (Dn kd a1 k2 g).cells.toArray);rw[wO] at sn cK⊢;clear wO;refine kk hK (⟨sn.out.cS rfl,sn.out.cS rfl⟩) fun hHeld=>?_;clear hK K;refine dn ?_;clear hHeld;have x0:=cK.out.1.cell (i:=0) rfl;have x0':W7.cell? ⟨b,0,none⟩=some (.int .i64 (kd:Int)):=x0;clear x0 Qd Qe Qf Qg wt1 wt3 wa0 wa1 sN kR hg ZG YN HZ HE gP hp
     go_wp2_with (first
      |(go_at_call 52;refine(LR kd Ha.out.1 Ha.out.2.1 W7).mono ?_;rintro e2 W8 ⟨v7,rfl,hf,wR,hb⟩;have HI:=hZ ((sn.out.step hb).full (cK.out.1.below hb) cK.out.2 hf (wR.base (bt cK.out.1)));obtain⟨A7,c7,rfl,-⟩:=hf;clear wR hb)
      |fail)
     obtain⟨fs,tT⟩:=oQ (kn kd);rw[tT] at HI⊢;obtain⟨m,hm⟩:=oQ (fs.length);have HM:ag (fs.length=m∧m≤5∧∀f∈fs,f≤9):=hZ ⟨hm,by rw[←hm,←tT];exact ajh kd,by rw[←tT];exact ajg kd⟩;rw[hm] at HI⊢;have dB:ag (Dc y 0 (fs.drop 0) (Dn kd a1 k2 g)=iq y):=hZ (by unfold iq;rw[OW.out,←Ha.out.2.2,tT];rfl);clear tT hm sn cK x0'
     go_loopw [8] (fun kv wr=> ∃(k:Nat) (e:af),kv=.int .i64 (k:Int)∧k≤m∧ag (Dc y k (fs.drop k) e=iq y)∧ag (KV e)∧ag (gn w p b y (.slice A7 m c7) fs v3 ((l.take i).map iq) e wr)) (fun kv _=>m-(intOf kv).toNat)
     case atStart=>exact⟨0,_,rfl,ei _,dB,hZ ⟨Int.le_refl _,(show(0:Int)≤40 by decide)⟩,HI⟩
     case round=>
      clear HI dB;obtain⟨k,e,rfl,hk,pU,iL,HI⟩:=hrel;rcases fB k m with dR|dR
      · have d3:decide (k<m)=true:=by simp[dR]
        (have kt:k<fs.length:=by rw[HM.out.1];exact dR);obtain⟨A,cc,e9,q1,q2,q3,q4⟩:=HI.out.hf;injection e9 with e91 e92 e93;subst e91 e93;obtain⟨a7,rfl,ha7,Fl⟩:=q4.get kt;obtain⟨f,hf⟩:=oQ (fs[k]);rw[hf] at Fl;unfold nv at Fl;have gm:ag (fs[k]?=some f):=hZ (by rw[←hf];exact bp kt);have Du:=HM.out.2.2 f (mP gm.out);(have y1:(0:Int)≤(k:Int):=by omega);(have y2:(k:Int)<(m:Int):=by omega);(have wk:aQ.wrap ((k:Int)+1)=((k+1:Nat):Int):=by have:=HM.out.2.1;rw[aS];omega);clear hf e92 q1 q2 q3 q4 kt;rcases(show f=0∨f=1∨f=2∨f=3∨f=4∨f=5∨f=6∨f=7∨f=8∨f=9 by omega) with rfl|rfl|rfl|rfl|rfl|rfl|rfl|rfl|rfl|rfl
        all_goals clear Du
        · obtain⟨u,hu⟩:=oQ (dA y.y3 9)
          have PK:=pI pf.out.h3 (n:=9) (by omega) (by omega) hu;have ru:=kU y.y3 (n:=9) (by omega);rw[hu] at ru;obtain⟨v,hv⟩:=oQ (1+u);(have wv:aQ.wrap v=v:=by rw[aS];omega);have c3:=HI.out.cS (i:=3) rfl;have x1:=HI.out.he.cell (i:=1) rfl;have x2:=HI.out.free 1;have fu:=hZ (HI.out.set (e':=iK y k 0 e) 1 (.int .i64 v) (by unfold iK;rw[hu,hv];rfl));clear ru hu
          go_wp2_with (first|(go_at_call 51;refine(PK.out _).mono ?_;rintro e2 W2 ⟨rfl,rfl⟩)|fail)
          go_round
          case rel=>exact⟨k+1,_,rfl,by omega,hZ (by rw[←q_ gm.out];exact pU.out),hZ (rI y k 0 iL.out),fu⟩
          case measure=>simp[intOf];omega
        · obtain⟨u,hu⟩:=oQ (dA y.y4 40)
          have PK:=pI pf.out.h4 (n:=40) (by omega) (by omega) hu;have ru:=kU y.y4 (n:=40) (by omega);rw[hu] at ru;have c4:=HI.out.cS (i:=4) rfl;have x1:=HI.out.he.cell (i:=5) rfl;have x2:=HI.out.free 5;have fu:=hZ (HI.out.set (e':=iK y k 1 e) 5 (.int .i64 u) (by unfold iK;rw[hu];rfl));clear ru hu
          go_wp2_with (first|(go_at_call 51;refine(PK.out _).mono ?_;rintro e2 W2 ⟨rfl,rfl⟩)|fail)
          go_round
          case rel=>exact⟨k+1,_,rfl,by omega,hZ (by rw[←q_ gm.out];exact pU.out),hZ (rI y k 1 iL.out),fu⟩
          case measure=>simp[intOf];omega
        · obtain⟨u,hu⟩:=oQ (dA y.y5 30)
          have PK:=pI pf.out.h5 (n:=30) (by omega) (by omega) hu;have ru:=kU y.y5 (n:=30) (by omega);rw[hu] at ru;obtain⟨v,hv⟩:=oQ (e.az+u);(have wv:aQ.wrap v=v:=by have:=iL.out.1;have:=iL.out.2;rw[aS];omega);have dV:=hZ HI.out.drew;have x1:=dV.out.he.cell (i:=6) rfl;have x2:=dV.out.free 6;have fu:=hZ (dV.out.set (e':=iK y k 2 e) 6 (.int .i64 v) (by unfold iK;rw[hu,hv];rfl));clear ru hu;go_wp2_with fail;refine cJ (fun U=>U.cell? ⟨b,5,none⟩=some (.int .i64 e.az)∧U.cell? ⟨p,5,none⟩=some (.int .i64 y.y5)) ⟨dV.out.he.cell rfl,dV.out.cS rfl⟩ fun hHeld=>?_;refine bg 0 1 2 3 ?_;refine rE 4 fun K hK=>?_;go_simp;refine(PK.out _).mono ?_;rintro e2 W2 ⟨rfl,rfl⟩;refine kk hK hHeld fun hHeld=>?_;clear hK K;refine eC 5 6 ?_;refine rE 7 fun K hK=>?_;go_simp;refine kk hK (⟨fu.out.he.cell rfl,fu.out.cS rfl⟩) fun hHeld=>?_;clear hK K;refine dn ?_;clear hHeld;go_wp2_with fail
          go_round
          case rel=>exact⟨k+1,_,rfl,by omega,hZ (by rw[←q_ gm.out];exact pU.out),hZ (rI y k 2 iL.out),fu⟩
          case measure=>simp[intOf];omega
        · obtain⟨j,hj⟩:=oQ (2*k)
          (have vl:k≤4:=by have:=HM.out.2.1;omega);have qf:=Nd pf.out.h2 vl;obtain⟨sv,oS⟩:=oQ (y.y2/2^j);rw[hj,oS] at qf;obtain⟨u,hu⟩:=oQ (dA sv 4);have PK:=pI qf (n:=4) (by omega) (by omega) hu;have ru:=kU sv (n:=4) (by omega);rw[hu] at ru;obtain⟨v,hv⟩:=oQ (1+u);(have wv:aQ.wrap v=v:=by rw[aS];omega);(have wj:aQ.wrap (2*(k:Int))=(j:Int):=by rw[aS];omega);(have j0:(0:Int)≤(j:Int):=by omega);(have j1:(j:Int)≤64:=by omega);(have j2:j≤64:=by omega);have jh:ag (iK y k 3 e=dS e 3 v):=hZ (by show dS e 3 (1+dA (zA y k) 4)=_;unfold zA;rw[hj,oS,hu,hv]);have PS:ag (∀W,ax ah 54 #[e.val,.int .i64 (3:Int),.int .i64 v] W fun x w'=>x=.returned (dS e 3 v).val∧Below W.heap.size W w'):=hZ fun W=>Nb e 3 (by omega) v W;have dV:=hZ HI.out.drew;clear ru hu qf hj;go_wp2_with fail;refine cJ (fun U=>U.cell? (a7.add k)=some (.int .i64 (3:Int))∧U.cell? ⟨p,2,none⟩=some (.int .i64 y.y2)) ⟨dV.out.mz gm.out,dV.out.cS rfl⟩ fun hHeld=>?_;obtain⟨U0,en⟩:=oQ (wr.drew);rw[en] at dV hHeld⊢;clear en;refine bg 1 2 3 4 ?_;refine bg 5 6 7 8 ?_;refine tk 9 ?_;refine rd [0,10] ?_;refine rc (fun K hK=>?_) ?_
          ·
           refine mf (S:=fun U=>aR U b e) (yx b 0 (IE _).out bk (fun w hw=>bl hw)) (by rfl) dV.out.he ?_;refine kk hK hHeld fun hHeld=>?_;clear hK K;refine rE 10 fun K hK=>?_;go_simp;refine(PK.out _).mono ?_;rintro e2 W2 ⟨rfl,rfl⟩;refine kk hK hHeld fun hHeld=>?_;clear hK K;refine tk 11 ?_;refine rE 12 fun K hK=>?_;go_simp;refine(PS.out _).mono ?_;rintro e2 W8 ⟨rfl,hb⟩;have dN:=hZ (dV.out.step hb);clear hb;refine kk hK (⟨dN.out.mz gm.out,dN.out.cS rfl⟩) fun hHeld=>?_;clear hK K;refine rE 13 fun K hK=>?_;refine zD (by rfl) (.tmp 6) (.tmp 66) (by rfl) (by rfl) b (dS e 3 v) (by rfl) (by rfl) (IS _).out dN.out.he ?_;have fD:=hZ (dN.out.row (dS e 3 v));refine kk hK (⟨fD.out.mz gm.out,fD.out.cS rfl⟩) fun hHeld=>?_;clear hK K;refine dn ?_;have fu:ag (gn w p b y (.slice (some a7) m c7) fs v3 ((l.take i).map iq) (iK y k 3 e) _):=hZ (by rw[jh.out];exact fD.out);clear hHeld;go_wp2_with fail
           go_round
           case rel=>exact⟨k+1,_,rfl,by omega,hZ (by rw[←q_ gm.out];exact pU.out),hZ (rI y k 3 iL.out),fu⟩
           case measure=>simp[intOf];omega
          refine dx fun K hK=>?_;go_simp;refine(PK.out _).mono ?_;rintro e2 W2 ⟨rfl,rfl⟩;refine kk hK hHeld fun hHeld=>?_;clear hK K;refine tk 11 ?_;refine rE 0 fun K hK=>?_;refine mf (S:=fun U=>aR U b e) (yx b 0 (IE _).out bk (fun w hw=>bl hw)) (by rfl) dV.out.he ?_;refine kk hK hHeld fun hHeld=>?_;clear hK K;refine rE 12 fun K hK=>?_;go_simp;refine(PS.out _).mono ?_;rintro e2 W8 ⟨rfl,hb⟩;have dN:=hZ (dV.out.step hb);clear hb;refine kk hK (⟨dN.out.mz gm.out,dN.out.cS rfl⟩) fun hHeld=>?_;clear hK K;refine rE 13 fun K hK=>?_;refine zD (by rfl) (.tmp 6) (.tmp 66) (by rfl) (by rfl) b (dS e 3 v) (by rfl) (by rfl) (IS _).out dN.out.he ?_;have fD:=hZ (dN.out.row (dS e 3 v));refine kk hK (⟨fD.out.mz gm.out,fD.out.cS rfl⟩) fun hHeld=>?_;clear hK K;refine dn ?_;have fu:ag (gn w p b y (.slice (some a7) m c7) fs v3 ((l.take i).map iq) (iK y k 3 e) _):=hZ (by rw[jh.out];exact fD.out);clear hHeld;go_wp2_with fail
          go_round
          case rel=>exact⟨k+1,_,rfl,by omega,hZ (by rw[←q_ gm.out];exact pU.out),hZ (rI y k 3 iL.out),fu⟩
          case measure=>simp[intOf];omega
        · obtain⟨j,hj⟩:=oQ (2*k)
          (have vl:k≤4:=by have:=HM.out.2.1;omega);have qf:=Nd pf.out.h2 vl;obtain⟨sv,oS⟩:=oQ (y.y2/2^j);rw[hj,oS] at qf;obtain⟨u,hu⟩:=oQ (dA sv 4);have PK:=pI qf (n:=4) (by omega) (by omega) hu;have ru:=kU sv (n:=4) (by omega);rw[hu] at ru;obtain⟨v,hv⟩:=oQ (1+u);(have wv:aQ.wrap v=v:=by rw[aS];omega);(have wj:aQ.wrap (2*(k:Int))=(j:Int):=by rw[aS];omega);(have j0:(0:Int)≤(j:Int):=by omega);(have j1:(j:Int)≤64:=by omega);(have j2:j≤64:=by omega);have jh:ag (iK y k 4 e=dS e 4 v):=hZ (by show dS e 4 (1+dA (zA y k) 4)=_;unfold zA;rw[hj,oS,hu,hv]);have PS:ag (∀W,ax ah 54 #[e.val,.int .i64 (4:Int),.int .i64 v] W fun x w'=>x=.returned (dS e 4 v).val∧Below W.heap.size W w'):=hZ fun W=>Nb e 4 (by omega) v W;have dV:=hZ HI.out.drew;clear ru hu qf hj;go_wp2_with fail;refine cJ (fun U=>U.cell? (a7.add k)=some (.int .i64 (4:Int))∧U.cell? ⟨p,2,none⟩=some (.int .i64 y.y2)) ⟨dV.out.mz gm.out,dV.out.cS rfl⟩ fun hHeld=>?_;obtain⟨U0,en⟩:=oQ (wr.drew);rw[en] at dV hHeld⊢;clear en;refine bg 1 2 3 4 ?_;refine bg 5 6 7 8 ?_;refine tk 9 ?_;refine rd [0,10] ?_;refine rc (fun K hK=>?_) ?_
          ·
           refine mf (S:=fun U=>aR U b e) (yx b 0 (IE _).out bk (fun w hw=>bl hw)) (by rfl) dV.out.he ?_;refine kk hK hHeld fun hHeld=>?_;clear hK K;refine rE 10 fun K hK=>?_;go_simp;refine(PK.out _).mono ?_;rintro e2 W2 ⟨rfl,rfl⟩;refine kk hK hHeld fun hHeld=>?_;clear hK K;refine tk 11 ?_;refine rE 12 fun K hK=>?_;go_simp;refine(PS.out _).mono ?_;rintro e2 W8 ⟨rfl,hb⟩;have dN:=hZ (dV.out.step hb);clear hb;refine kk hK (⟨dN.out.mz gm.out,dN.out.cS rfl⟩) fun hHeld=>?_;clear hK K;refine rE 13 fun K hK=>?_;refine zD (by rfl) (.tmp 6) (.tmp 66) (by rfl) (by rfl) b (dS e 4 v) (by rfl) (by rfl) (IS _).out dN.out.he ?_;have fD:=hZ (dN.out.row (dS e 4 v));refine kk hK (⟨fD.out.mz gm.out,fD.out.cS rfl⟩) fun hHeld=>?_;clear hK K;refine dn ?_;have fu:ag (gn w p b y (.slice (some a7) m c7) fs v3 ((l.take i).map iq) (iK y k 4 e) _):=hZ (by rw[jh.out];exact fD.out);clear hHeld;go_wp2_with fail
           go_round
           case rel=>exact⟨k+1,_,rfl,by omega,hZ (by rw[←q_ gm.out];exact pU.out),hZ (rI y k 4 iL.out),fu⟩
           case measure=>simp[intOf];omega
          refine dx fun K hK=>?_;go_simp;refine(PK.out _).mono ?_;rintro e2 W2 ⟨rfl,rfl⟩;refine kk hK hHeld fun hHeld=>?_;clear hK K;refine tk 11 ?_;refine rE 0 fun K hK=>?_;refine mf (S:=fun U=>aR U b e) (yx b 0 (IE _).out bk (fun w hw=>bl hw)) (by rfl) dV.out.he ?_;refine kk hK hHeld fun hHeld=>?_;clear hK K;refine rE 12 fun K hK=>?_;go_simp;refine(PS.out _).mono ?_;rintro e2 W8 ⟨rfl,hb⟩;have dN:=hZ (dV.out.step hb);clear hb;refine kk hK (⟨dN.out.mz gm.out,dN.out.cS rfl⟩) fun hHeld=>?_;clear hK K;refine rE 13 fun K hK=>?_;refine zD (by rfl) (.tmp 6) (.tmp 66) (by rfl) (by rfl) b (dS e 4 v) (by rfl) (by rfl) (IS _).out dN.out.he ?_;have fD:=hZ (dN.out.row (dS e 4 v));refine kk hK (⟨fD.out.mz gm.out,fD.out.cS rfl⟩) fun hHeld=>?_;clear hK K;refine dn ?_;have fu:ag (gn w p b y (.slice (some a7) m c7) fs v3 ((l.take i).map iq) (iK y k 4 e) _):=hZ (by rw[jh.out];exact fD.out);clear hHeld;go_wp2_with fail
          go_round
          case rel=>exact⟨k+1,_,rfl,by omega,hZ (by rw[←q_ gm.out];exact pU.out),hZ (rI y k 4 iL.out),fu⟩
          case measure=>simp[intOf];omega
        · obtain⟨j,hj⟩:=oQ (2*k)
          (have vl:k≤4:=by have:=HM.out.2.1;omega);have qf:=Nd pf.out.h2 vl;obtain⟨sv,oS⟩:=oQ (y.y2/2^j);rw[hj,oS] at qf;obtain⟨u,hu⟩:=oQ (dA sv 4);have PK:=pI qf (n:=4) (by omega) (by omega) hu;have ru:=kU sv (n:=4) (by omega);rw[hu] at ru;obtain⟨v,hv⟩:=oQ (1+u);(have wv:aQ.wrap v=v:=by rw[aS];omega);(have wj:aQ.wrap (2*(k:Int))=(j:Int):=by rw[aS];omega);(have j0:(0:Int)≤(j:Int):=by omega);(have j1:(j:Int)≤64:=by omega);(have j2:j≤64:=by omega);have jh:ag (iK y k 5 e=dS e 5 v):=hZ (by show dS e 5 (1+dA (zA y k) 4)=_;unfold zA;rw[hj,oS,hu,hv]);have PS:ag (∀W,ax ah 54 #[e.val,.int .i64 (5:Int),.int .i64 v] W fun x w'=>x=.returned (dS e 5 v).val∧Below W.heap.size W w'):=hZ fun W=>Nb e 5 (by omega) v W;have dV:=hZ HI.out.drew;clear ru hu qf hj;go_wp2_with fail;refine cJ (fun U=>U.cell? (a7.add k)=some (.int .i64 (5:Int))∧U.cell? ⟨p,2,none⟩=some (.int .i64 y.y2)) ⟨dV.out.mz gm.out,dV.out.cS rfl⟩ fun hHeld=>?_;obtain⟨U0,en⟩:=oQ (wr.drew);rw[en] at dV hHeld⊢;clear en;refine bg 1 2 3 4 ?_;refine bg 5 6 7 8 ?_;refine tk 9 ?_;refine rd [0,10] ?_;refine rc (fun K hK=>?_) ?_
          ·
           refine mf (S:=fun U=>aR U b e) (yx b 0 (IE _).out bk (fun w hw=>bl hw)) (by rfl) dV.out.he ?_;refine kk hK hHeld fun hHeld=>?_;clear hK K;refine rE 10 fun K hK=>?_;go_simp;refine(PK.out _).mono ?_;rintro e2 W2 ⟨rfl,rfl⟩;refine kk hK hHeld fun hHeld=>?_;clear hK K;refine tk 11 ?_;refine rE 12 fun K hK=>?_;go_simp;refine(PS.out _).mono ?_;rintro e2 W8 ⟨rfl,hb⟩;have dN:=hZ (dV.out.step hb);clear hb;refine kk hK (⟨dN.out.mz gm.out,dN.out.cS rfl⟩) fun hHeld=>?_;clear hK K;refine rE 13 fun K hK=>?_;refine zD (by rfl) (.tmp 6) (.tmp 66) (by rfl) (by rfl) b (dS e 5 v) (by rfl) (by rfl) (IS _).out dN.out.he ?_;have fD:=hZ (dN.out.row (dS e 5 v));refine kk hK (⟨fD.out.mz gm.out,fD.out.cS rfl⟩) fun hHeld=>?_;clear hK K;refine dn ?_;have fu:ag (gn w p b y (.slice (some a7) m c7) fs v3 ((l.take i).map iq) (iK y k 5 e) _):=hZ (by rw[jh.out];exact fD.out);clear hHeld;go_wp2_with fail
           go_round
           case rel=>exact⟨k+1,_,rfl,by omega,hZ (by rw[←q_ gm.out];exact pU.out),hZ (rI y k 5 iL.out),fu⟩
           case measure=>simp[intOf];omega
          refine dx fun K hK=>?_;go_simp;refine(PK.out _).mono ?_;rintro e2 W2 ⟨rfl,rfl⟩;refine kk hK hHeld fun hHeld=>?_;clear hK K;refine tk 11 ?_;refine rE 0 fun K hK=>?_;refine mf (S:=fun U=>aR U b e) (yx b 0 (IE _).out bk (fun w hw=>bl hw)) (by rfl) dV.out.he ?_;refine kk hK hHeld fun hHeld=>?_;clear hK K;refine rE 12 fun K hK=>?_;go_simp;refine(PS.out _).mono ?_;rintro e2 W8 ⟨rfl,hb⟩;have dN:=hZ (dV.out.step hb);clear hb;refine kk hK (⟨dN.out.mz gm.out,dN.out.cS rfl⟩) fun hHeld=>?_;clear hK K;refine rE 13 fun K hK=>?_;refine zD (by rfl) (.tmp 6) (.tmp 66) (by rfl) (by rfl) b (dS e 5 v) (by rfl) (by rfl) (IS _).out dN.out.he ?_;have fD:=hZ (dN.out.row (dS e 5 v));refine kk hK (⟨fD.out.mz gm.out,fD.out.cS rfl⟩) fun hHeld=>?_;clear hK K;refine dn ?_;have fu:ag (gn w p b y (.slice (some a7) m c7) fs v3 ((l.take i).map iq) (iK y k 5 e) _):=hZ (by rw[jh.out];exact fD.out);clear hHeld;go_wp2_with fail
          go_round
          case rel=>exact⟨k+1,_,rfl,by omega,hZ (by rw[←q_ gm.out];exact pU.out),hZ (rI y k 5 iL.out),fu⟩
          case measure=>simp[intOf];omega
        · obtain⟨j,hj⟩:=oQ (2*k)
          (have vl:k≤4:=by have:=HM.out.2.1;omega);have qf:=Nd pf.out.h2 vl;obtain⟨sv,oS⟩:=oQ (y.y2/2^j);rw[hj,oS] at qf;obtain⟨u,hu⟩:=oQ (dA sv 4);have PK:=pI qf (n:=4) (by omega) (by omega) hu;have ru:=kU sv (n:=4) (by omega);rw[hu] at ru;obtain⟨v,hv⟩:=oQ (1+u);(have wv:aQ.wrap v=v:=by rw[aS];omega);(have wj:aQ.wrap (2*(k:Int))=(j:Int):=by rw[aS];omega);(have j0:(0:Int)≤(j:Int):=by omega);(have j1:(j:Int)≤64:=by omega);(have j2:j≤64:=by omega);have jh:ag (iK y k 6 e=dS e 6 v):=hZ (by show dS e 6 (1+dA (zA y k) 4)=_;unfold zA;rw[hj,oS,hu,hv]);have PS:ag (∀W,ax ah 54 #[e.val,.int .i64 (6:Int),.int .i64 v] W fun x w'=>x=.returned (dS e 6 v).val∧Below W.heap.size W w'):=hZ fun W=>Nb e 6 (by omega) v W;have dV:=hZ HI.out.drew;clear ru hu qf hj;go_wp2_with fail;refine cJ (fun U=>U.cell? (a7.add k)=some (.int .i64 (6:Int))∧U.cell? ⟨p,2,none⟩=some (.int .i64 y.y2)) ⟨dV.out.mz gm.out,dV.out.cS rfl⟩ fun hHeld=>?_;obtain⟨U0,en⟩:=oQ (wr.drew);rw[en] at dV hHeld⊢;clear en;refine bg 1 2 3 4 ?_;refine bg 5 6 7 8 ?_;refine tk 9 ?_;refine rd [0,10] ?_;refine rc (fun K hK=>?_) ?_
          ·
           refine mf (S:=fun U=>aR U b e) (yx b 0 (IE _).out bk (fun w hw=>bl hw)) (by rfl) dV.out.he ?_;refine kk hK hHeld fun hHeld=>?_;clear hK K;refine rE 10 fun K hK=>?_;go_simp;refine(PK.out _).mono ?_;rintro e2 W2 ⟨rfl,rfl⟩;refine kk hK hHeld fun hHeld=>?_;clear hK K;refine tk 11 ?_;refine rE 12 fun K hK=>?_;go_simp;refine(PS.out _).mono ?_;rintro e2 W8 ⟨rfl,hb⟩;have dN:=hZ (dV.out.step hb);clear hb;refine kk hK (⟨dN.out.mz gm.out,dN.out.cS rfl⟩) fun hHeld=>?_;clear hK K;refine rE 13 fun K hK=>?_;refine zD (by rfl) (.tmp 6) (.tmp 66) (by rfl) (by rfl) b (dS e 6 v) (by rfl) (by rfl) (IS _).out dN.out.he ?_;have fD:=hZ (dN.out.row (dS e 6 v));refine kk hK (⟨fD.out.mz gm.out,fD.out.cS rfl⟩) fun hHeld=>?_;clear hK K;refine dn ?_;have fu:ag (gn w p b y (.slice (some a7) m c7) fs v3 ((l.take i).map iq) (iK y k 6 e) _):=hZ (by rw[jh.out];exact fD.out);clear hHeld;go_wp2_with fail
           go_round
           case rel=>exact⟨k+1,_,rfl,by omega,hZ (by rw[←q_ gm.out];exact pU.out),hZ (rI y k 6 iL.out),fu⟩
           case measure=>simp[intOf];omega
          refine dx fun K hK=>?_;go_simp;refine(PK.out _).mono ?_;rintro e2 W2 ⟨rfl,rfl⟩;refine kk hK hHeld fun hHeld=>?_;clear hK K;refine tk 11 ?_;refine rE 0 fun K hK=>?_;refine mf (S:=fun U=>aR U b e) (yx b 0 (IE _).out bk (fun w hw=>bl hw)) (by rfl) dV.out.he ?_;refine kk hK hHeld fun hHeld=>?_;clear hK K;refine rE 12 fun K hK=>?_;go_simp;refine(PS.out _).mono ?_;rintro e2 W8 ⟨rfl,hb⟩;have dN:=hZ (dV.out.step hb);clear hb;refine kk hK (⟨dN.out.mz gm.out,dN.out.cS rfl⟩) fun hHeld=>?_;clear hK K;refine rE 13 fun K hK=>?_;refine zD (by rfl) (.tmp 6) (.tmp 66) (by rfl) (by rfl) b (dS e 6 v) (by rfl) (by rfl) (IS _).out dN.out.he ?_;have fD:=hZ (dN.out.row (dS e 6 v));refine kk hK (⟨fD.out.mz gm.out,fD.out.cS rfl⟩) fun hHeld=>?_;clear hK K;refine dn ?_;have fu:ag (gn w p b y (.slice (some a7) m c7) fs v3 ((l.take i).map iq) (iK y k 6 e) _):=hZ (by rw[jh.out];exact fD.out);clear hHeld;go_wp2_with fail
          go_round
          case rel=>exact⟨k+1,_,rfl,by omega,hZ (by rw[←q_ gm.out];exact pU.out),hZ (rI y k 6 iL.out),fu⟩
          case measure=>simp[intOf];omega
        · obtain⟨ka,wU⟩:=oQ (dA y.y2 41)
          have PA:=pI pf.out.h2 (n:=41) (by omega) (by omega) wU;have J9:=kU y.y2 (n:=41) (by omega);rw[wU] at J9;obtain⟨tb,xa⟩:=oQ (Int.tdiv y.y2 41);have QZ:iN tb:=TK pf.out.h2 (by omega) xa;have wtb:aQ.wrap tb=tb:=TW QZ;obtain⟨kb,ku⟩:=oQ (dA tb 4);have PB:=pI QZ (n:=4) (by omega) (by omega) ku;have J':=kU tb (n:=4) (by omega);rw[ku] at J';obtain⟨kc,Ft⟩:=oQ (dA y.y5 5);have PC:=pI pf.out.h5 (n:=5) (by omega) (by omega) Ft;have rkc:=kU y.y5 (n:=5) (by omega);rw[Ft] at rkc;obtain⟨den,Rp⟩:∃d:Nat,1+kb=(d:Int):=⟨(1+kb).toNat,by omega⟩;(have aoY:aQ.wrap (den:Int)=(den:Int):=by rw[aS];omega);obtain⟨la,ZI⟩:=oQ (ka-20);obtain⟨ha,hha⟩:=oQ (la+kc);(have wla:aQ.wrap la=la:=by rw[aS];omega);(have wha:aQ.wrap ha=ha:=by rw[aS];omega);have PO:ag (∀W,ax ah 53 #[.int .i64 (la),.int .i64 (den:Int)] W (wG (la) den W)):=hZ fun W=>Tg (la) den (by omega) (by show _<1000000000000000000;omega) (by show _<1000000000000000000;omega) W;unfold wG at PO;obtain⟨s1,aP⟩:=oQ (rH (la) den);obtain⟨s2,eO⟩:=oQ (rG (la) den);rw[aP,eO] at PO;have PQ:ag (∀W,ax ah 53 #[.int .i64 (ha),.int .i64 (den:Int)] W (wG (ha) den W)):=hZ fun W=>Tg (ha) den (by omega) (by show _<1000000000000000000;omega) (by show _<1000000000000000000;omega) W;unfold wG at PQ;obtain⟨s3,jM⟩:=oQ (rH (ha) den);obtain⟨s4,gy⟩:=oQ (rG (ha) den);rw[jM,gy] at PQ
          have jh:ag (iK y k 7 e={e with ln:=s1,ld:=s2,hn:=s3,hd:=s4}):=hZ (by
           (have e1:BG y=la:=by unfold BG;rw[wU];exact ZI);(have e2:Bh y=ha:=by unfold Bh;rw[wU,Ft,ZI];exact hha);(have e3:tJ y=den:=by unfold tJ;rw[xa,ku,Rp];rfl);show({e with ln:=rH (BG y) (tJ y),ld:=rG (BG y) (tJ y),hn:=rH (Bh y) (tJ y),hd:=rG (Bh y) (tJ y)}:af)=_
           rw[e1,e2,e3,aP,eO,jM,gy])
          have dV:=hZ HI.out.drew;clear J9 J' rkc wU ku Ft QZ aP eO jM gy;go_wp2_with fail;refine cJ (fun U=>U.cell? ⟨p,2,none⟩=some (.int .i64 y.y2)) (dV.out.cS rfl) fun hHeld=>?_;refine bg 0 1 4 5 ?_;refine tk 6 ?_;refine rE 2 fun K hK=>?_;go_simp;refine(PA.out _).mono ?_;rintro e2 W2 ⟨rfl,rfl⟩;refine kk hK hHeld fun hHeld=>?_;clear hK K;refine tk 3 ?_;refine rE 7 fun K hK=>?_;go_simp;refine(PB.out _).mono ?_;rintro e2 W2 ⟨rfl,rfl⟩;refine kk hK hHeld fun hHeld=>?_;clear hK K;refine tk 8 ?_;refine rE 9 fun K hK=>?_;go_simp;refine(PO.out _).mono ?_;rintro e2 W8 ⟨rfl,hb⟩;have dN:=hZ (dV.out.step hb);clear hb;have x1:=dN.out.he.cell (i:=11) rfl;have x2:=dN.out.he.cell (i:=12) rfl;have x3:=dN.out.free 11;have x4:=dN.out.free 12;refine kk hK (dN.out.cS rfl) fun hHeld=>?_;clear hK K;refine bg 10 11 12 13 ?_;refine tk 14 ?_;refine rE 15 fun K hK=>?_;go_simp;have fD:=hZ (dN.out.Tu (e1:={e with ln:=s1}) (e2:={e with ln:=s1,ld:=s2}) 11 (.string s1) (.string s2) rfl rfl);refine kk hK (fD.out.cS rfl) fun hHeld=>?_;clear hK K;refine dn ?_;have O6:=hZ fD.out.drew;clear hHeld x1 x2 x3 x4;go_wp2_with fail;refine cJ (fun U=>U.cell? ⟨p,2,none⟩=some (.int .i64 y.y2)∧U.cell? ⟨p,5,none⟩=some (.int .i64 y.y5)) ⟨O6.out.cS rfl,O6.out.cS rfl⟩ fun hHeld=>?_;refine bg 0 1 4 5 ?_;refine dr 8 9 10 ?_;refine rE 2 fun K hK=>?_;go_simp;refine(PA.out _).mono ?_;rintro e2 W2 ⟨rfl,rfl⟩;refine kk hK hHeld fun hHeld=>?_;clear hK K;refine tk 3 ?_
          refine rE 6 fun K hK=>?_;go_simp;refine(PC.out _).mono ?_;rintro e2 W2 ⟨rfl,rfl⟩;refine kk hK hHeld fun hHeld=>?_;clear hK K;refine tk 7 ?_;refine rE 11 fun K hK=>?_;go_simp;refine(PB.out _).mono ?_;rintro e2 W2 ⟨rfl,rfl⟩;refine kk hK hHeld fun hHeld=>?_;clear hK K;refine tk 12 ?_;refine rE 13 fun K hK=>?_;go_simp;refine(PQ.out _).mono ?_;rintro e2 W8 ⟨rfl,hb⟩;have Cu:=hZ (O6.out.step hb);clear hb;have x1:=Cu.out.he.cell (i:=13) rfl;have x2:=Cu.out.he.cell (i:=14) rfl;have x3:=Cu.out.free 13;have x4:=Cu.out.free 14;refine kk hK (⟨Cu.out.cS rfl,Cu.out.cS rfl⟩) fun hHeld=>?_;clear hK K;refine bg 14 15 16 17 ?_;refine tk 18 ?_;refine rE 19 fun K hK=>?_;go_simp;have O7:=hZ (Cu.out.Tu (e1:={e with ln:=s1,ld:=s2,hn:=s3}) (e2:={e with ln:=s1,ld:=s2,hn:=s3,hd:=s4}) 13 (.string s3) (.string s4) rfl rfl);refine kk hK (⟨O7.out.cS rfl,O7.out.cS rfl⟩) fun hHeld=>?_;clear hK K;refine dn ?_;have fu:ag (gn w p b y (.slice (some a7) m c7) fs v3 ((l.take i).map iq) (iK y k 7 e) _):=hZ (by rw[jh.out];exact O7.out);clear hHeld;go_wp2_with fail
          go_round
          case rel=>exact⟨k+1,_,rfl,by omega,hZ (by rw[←q_ gm.out];exact pU.out),hZ (rI y k 7 iL.out),fu⟩
          case measure=>simp[intOf];omega
        · obtain⟨ka,wU⟩:=oQ (dA y.y2 9)
          have PA:=pI pf.out.h2 (n:=9) (by omega) (by omega) wU;have J9:=kU y.y2 (n:=9) (by omega);rw[wU] at J9;obtain⟨kb,ku⟩:=oQ (dA y.y4 9);have PB:=pI pf.out.h4 (n:=9) (by omega) (by omega) ku;have J':=kU y.y4 (n:=9) (by omega);rw[ku] at J';obtain⟨den,Rp⟩:∃d:Nat,1+kb=(d:Int):=⟨(1+kb).toNat,by omega⟩;(have aoY:aQ.wrap (den:Int)=(den:Int):=by rw[aS];omega);have PO:ag (∀W,ax ah 53 #[.int .i64 (ka),.int .i64 (den:Int)] W (wG (ka) den W)):=hZ fun W=>Tg (ka) den (by omega) (by show _<1000000000000000000;omega) (by show _<1000000000000000000;omega) W;unfold wG at PO;obtain⟨s1,aP⟩:=oQ (rH (ka) den);obtain⟨s2,eO⟩:=oQ (rG (ka) den);rw[aP,eO] at PO
          have jh:ag (iK y k 8 e={e with rn:=s1,rd:=s2}):=hZ (by
           (have e3:AN y=den:=by unfold AN;rw[ku,Rp];rfl);show({e with rn:=rH (dA y.y2 9) (AN y),rd:=rG (dA y.y2 9) (AN y)}:af)=_
           rw[e3,wU,aP,eO])
          have dV:=hZ HI.out.drew;clear J9 J' wU ku aP eO;go_wp2_with fail;refine cJ (fun U=>U.cell? ⟨p,2,none⟩=some (.int .i64 y.y2)∧U.cell? ⟨p,4,none⟩=some (.int .i64 y.y4)) ⟨dV.out.cS rfl,dV.out.cS rfl⟩ fun hHeld=>?_;refine bg 0 1 3 4 ?_;refine rE 2 fun K hK=>?_;go_simp;refine(PA.out _).mono ?_;rintro e2 W2 ⟨rfl,rfl⟩;refine kk hK hHeld fun hHeld=>?_;clear hK K;refine rE 5 fun K hK=>?_;go_simp;refine(PB.out _).mono ?_;rintro e2 W2 ⟨rfl,rfl⟩;refine kk hK hHeld fun hHeld=>?_;clear hK K;refine tk 6 ?_;refine rE 7 fun K hK=>?_;go_simp;refine(PO.out _).mono ?_;rintro e2 W8 ⟨rfl,hb⟩;have dN:=hZ (dV.out.step hb);clear hb;have x1:=dN.out.he.cell (i:=15) rfl;have x2:=dN.out.he.cell (i:=16) rfl;have x3:=dN.out.free 15;have x4:=dN.out.free 16;refine kk hK (⟨dN.out.cS rfl,dN.out.cS rfl⟩) fun hHeld=>?_;clear hK K;refine bg 8 9 10 11 ?_;refine rE 12 fun K hK=>?_;go_simp;have fD:=hZ (dN.out.Tu (e1:={e with rn:=s1}) (e2:={e with rn:=s1,rd:=s2}) 15 (.string s1) (.string s2) rfl rfl);refine kk hK (⟨fD.out.cS rfl,fD.out.cS rfl⟩) fun hHeld=>?_;clear hK K;refine dn ?_;have fu:ag (gn w p b y (.slice (some a7) m c7) fs v3 ((l.take i).map iq) (iK y k 8 e) _):=hZ (by rw[jh.out];exact fD.out);clear hHeld;go_wp2_with fail
          go_round
          case rel=>exact⟨k+1,_,rfl,by omega,hZ (by rw[←q_ gm.out];exact pU.out),hZ (rI y k 8 iL.out),fu⟩
          case measure=>simp[intOf];omega
        · have PR:=hZ (fun W=>amQ y.y2 W)
          have c2:=HI.out.cS (i:=2) rfl;obtain⟨rt,Si⟩:=oQ (F7 y.y2);rw[Si] at PR;have HRT:=hZ Si;clear Si
          go_wp2_with (first
           |(go_at_call 43;refine(PR.out _).mono ?_;rintro e2 W2 ⟨rfl,hb⟩;have o_:=hZ (HI.out.step hb);clear hb;have x1:=o_.out.he.cell (i:=17) rfl;have x2:=o_.out.free 17;have fu:=hZ (o_.out.set (e':=iK y k 9 e) 17 (.string rt) (by unfold iK;rw[HRT.out];rfl)))
           |fail)
          go_round
          case rel=>exact⟨k+1,_,rfl,by omega,hZ (by rw[←q_ gm.out];exact pU.out),hZ (rI y k 9 iL.out),fu⟩
          case measure=>simp[intOf];omega
      · obtain rfl:k=m:=by omega
        (have d3:decide (k<k)=false:=by simp);(have he:e=iq y:=by have:=pU.out;rwa[List.drop_of_length_le (by rw[HM.out.1];exact aB _)] at this);subst he;have cX:=hZ (bl (cs:=(iq y).cells) HI.out.he);have qP:ag (((l.take i).map iq).length=i):=hZ (by rw[List.length_map,List.length_take,HN.out];omega);have eS:=hZ HI.out.hB.size;have iQ:w.heap.size≤wr.heap.size:=eS.out;(have w1:aQ.wrap ((i:Int)+1)=((i+1:Nat):Int):=by rw[aS];omega);have kI:ag ((l.take i).map iq++[iq y]=(l.take (i+1)).map iq):=hZ (by rw[gV,HYI.out,List.map_append];rfl)
        go_wp2_with (first
         |(with_reducible refine lx (.tmp 6) b 0 cX.out (IE _).out bk ?_)
         |((with_reducible refine acK rfl (.tmp 146) rfl (iq y) ?hx ?_);(case hx=>rfl);intro bn V9 gw ly;have H8:=hZ (show V9.heap[bn]?=some (.cells (iq y).cells.toArray 33 (0,0)) from by rw[←ly,←gw];exact bG _ _);have dI:=hZ (show Below wr.heap.size wr V9 from by rw[←ly];exact aY _ _);clear gw ly)
         |(at_builtin;refine nJ rfl (.tmp 145) (.tmp 147) 25 rfl mZ _ ((l.take i).map iq) i qP.out rfl (HI.out.ho.below dI.out (aB _)) (iq y) bn (iq y).cells.toArray rfl H8.out rfl rfl (ma _) (by have:=qP.out;unfold cH;omega) (by have:=qP.out;omega) (aV eS.out dI.out.size) ?_;intro g3 c3 w3 h3 _ _ _ aK;have jf:=hZ h3;have a_:=hZ (HI.out.hB.trans ((dI.out.mono eS.out).trans aK));clear h3 aK)
         |fail)
        go_roundw
        case rel=>exact⟨_,i+1,rfl,by go_num,by have:=aL.out;omega,by have:=aL.out;omega,hZ (by have:=jf.out;rwa[kI.out] at this),a_⟩
        case measure=>simp[intOf];have:=aL.out;omega
  · have Cq:ag (l.take i=l.take 30):=hZ (by
     rcases fB i n with h|h
     · rw[show i=30 by omega]
     · rw[eE (by rw[HN.out];exact h),eE (by rw[HN.out];omega)])
    by_cases h1:i<n
    · have d1:decide (i<n)=true:=by simp[h1]
      (obtain rfl:i=30:=by omega);(have d2:decide (((30:Nat):Int)<30)=false:=by decide);go_wp2_with fail;go_ret;exact⟨_,rfl,by rw[←List.map_take];exact HO.out,HB.out⟩
    · have d1:decide (i<n)=false:=by simp;omega
      go_wp2_with fail;go_ret;exact⟨_,rfl,by have:=HO.out;rwa[Cq.out] at this,HB.out⟩
end Go.Proofs.YteeifhlhpiimoaaGreatDoor
end
section
namespace Go.Proofs.YteeifhlhpiimoaaGreatDoor
open Go Go.RowKit Go.ChangeShapes Go.WideShapes Go.Deep
def tj {α:Type} (w:ae) (B:Nat) (A:Option bI) (size:Nat) (f:α→List ai) (l:List α):Prop:=
 ∀i x,l[i]?=some x→∃a,A=some a∧a.block<B∧∀j v,(f x)[j]?=some v→w.cell? (a.add (i*size+j))=some v
theorem tj.below {α:Type} {w w':ae} {B:Nat} {A:Option bI} {size:Nat} {f:α→List ai} {l:List α} (h:tj w B A size f l) (hb:Below B w w'):tj w' B A size f l:=fun i x hx=>by
 obtain⟨a,e,hl,hc⟩:=h i x hx;exact⟨a,e,hl,fun j v hv=>(hb.cell (by rw[lr];exact hl)).trans (hc j v hv)⟩
theorem tj.get {α:Type} {w:ae} {B:Nat} {A:Option bI} {size:Nat} {f:α→List ai} {l:List α} (h:tj w B A size f l) {i:Nat} (hi:i<l.length):
 ∃a,A=some a∧a.block<B∧∀j v,(f l[i])[j]?=some v→w.cell? (a.add (i*size+j))=some v:=h i _ (bp hi)
theorem aaZ {α:Type} {p:Nat→α→Prop}:∀n,(∀i,i<n→∃y,p i y)→∃l:List α,l.length=n∧∀i y,l[i]?=some y→p i y
 |0,_=>⟨[],rfl,fun i y h=>by simp at h⟩
 | n +1,h=>by
   obtain⟨l,hl,hp⟩:=aaZ n (fun i hi=>h i (by omega));obtain⟨y,hy⟩:=h n (by omega);refine⟨l++[y],by simp[hl],fun i z hz=>?_⟩;rcases fB i l.length with q|q
   · rw[List.getElem?_append_left q] at hz;exact hp i z hz
   · rw[List.getElem?_append_right q] at hz
     have:i-l.length=0:=by
      rcases Nat.eq_zero_or_pos (i-l.length) with e|e
      · exact e
      · rw[List.getElem?_eq_none (by show 1≤_;omega)] at hz;cases hz
     rw[this] at hz;(obtain rfl:y=z:=by simpa using hz);rw[show i=n by omega];exact hy
section
variable {H:Type} {enc:bF×ai→H} {P:Program} {W:ae} {base:Nat} {sp:Nat→Bool} {held:Bool} {b0:Nat} {r:Reach}
theorem abr {α:Type} (f:α→List ai) (ok:α→Prop) {t e:bF} {v:ai} {d:DataW H} {p:List MemPlace} (ht:P.underlying t=some (.slice e)) (size:Nat) (hc:P.cellsOf e=size) (Z0:0<size)
 (FE:∀n cs x,cs.length=size→DataW.trod enc P W base sp held n e cs=some x→∃y,cs=f y∧ok y)
 (hv:Value.okWide P W r b0 t v) (h:NQ enc P W base sp held t v d p):
 ∃(A:Option bI) (l:List α) (cap:Nat),v=.slice A l.length cap∧l.length≤cap∧cap≤cH∧tj W W.heap.size A size f l∧∀y∈l,ok y:=by
 obtain⟨fuel,hf⟩:=h;have hcs:=alO ht hv;rcases open_slice ht hf with⟨e1,_⟩|⟨a,len,cap,m,n,D,Pl,e1,_,hl,hm,Bp,_,hi⟩
 · rw[hcs] at e1
   injection e1 with e1;exact⟨none,[],0,e1,aB _,by unfold cH;omega,fun i x hx=>by simp at hx,fun s hs=>by cases hs⟩
 · rw[hcs] at e1
   injection e1 with e1;have jn:len≤m:=by rw[Bp];split<;>omega
   obtain⟨l,iE,hp⟩:=aaZ (p:=fun i (y:α)=>ok y∧∀j v,(f y)[j]?=some v→W.cell? (a.add (i*size+j))=some v) len (fun i RF=>by
    obtain⟨cs,lY,vB⟩:=hi i (by omega);rw[hc] at lY;obtain⟨_,h2,h3⟩:=af2 lY;obtain⟨y,rfl,DK⟩:=FE n cs _ h2 vB;refine⟨y,DK,fun j v hj=>?_⟩;(have hjl:j<size:=by rw[←h2];exact(dL.1 hj).1);have:=h3 j hjl;rw[AE] at this
    rw[this,hj])
   refine⟨some a,l,cap,by rw[iE];exact e1,by omega,hm,fun i x hx=>?_,fun y hy=>?_⟩
   · have hq:=hp i x hx
     refine⟨a,rfl,?_,hq.2⟩;(have RF:i<len:=by rw[←iE];exact(dL.1 hx).1);obtain⟨cs,lY,_⟩:=hi i (by omega);rw[hc] at lY;obtain⟨_,h2,h3⟩:=af2 lY;have:=h3 0 Z0;rw[bp (by omega)] at this;have:=Qt this
     rwa[lr,lr] at this
   · obtain⟨i,RF,rfl⟩:=List.getElem_of_mem hy
     exact(hp i _ (bp RF)).1
end
structure GR where
 A:Option bI
 l:List ByteArray
 c:Nat
def GR.cells (x:GR):List ai:=[.slice x.A x.l.length x.c]
def GR.ok (W:ae) (x:GR):Prop:=x.l.length≤x.c∧x.c≤cH∧dJ W W.heap.size x.A .string x.l∧∀s∈x.l,s.size≤cH
theorem alN {H:Type} {enc:bF×ai→H} {W:ae} {base:Nat} {sp:Nat→Bool} {held:Bool} {b0:Nat} {r:Reach} {v:ai} {d:DataW H} {p:List MemPlace}
 (hv:Value.okWide ah W r b0 22 v) (h:NQ enc ah W base sp held 22 v d p):
 ∃(A:Option bI) (l:List gX) (cap:Nat),v=.slice A l.length cap∧l.length≤cH∧EU W A l∧∀y∈l,y.Ok:=by
 have key:=abr (e:=78) gX.cells gX.Ok Tryz.underlying22 6 (by kernel_rfl) (by decide) (fun n cs x hl ht=>by
  obtain⟨xs,m,_,_,_,oc,hi⟩:=DataW.trod_array Tryz.underlying78 ht;have hc:ah.cellsOf 3=1:=by kernel_rfl
  match cs,hl with
  | [c0,c1,c2,c3,c4,c5],_=>
    match xs,oc with
    | [x0,x1,x2,x3,x4,x5],_=>
      have h0:=hi 0 (by decide);have h1:=hi 1 (by decide);have h2:=hi 2 (by decide);have h3:=hi 3 (by decide);have h4:=hi 4 (by decide);have h5:=hi 5 (by decide);simp[hc] at h0 h1 h2 h3 h4 h5;obtain⟨z0,e0,_,w0⟩:=B5 nL (x:=x0) (cs:=[c0]) h0;obtain⟨z1,e1,_,w1⟩:=B5 nL (x:=x1) (cs:=[c1]) h1;obtain⟨z2,e2,_,w2⟩:=B5 nL (x:=x2) (cs:=[c2]) h2;obtain⟨z3,e3,_,w3⟩:=B5 nL (x:=x3) (cs:=[c3]) h3;obtain⟨z4,e4,_,w4⟩:=B5 nL (x:=x4) (cs:=[c4]) h4;obtain⟨z5,e5,_,w5⟩:=B5 nL (x:=x5) (cs:=[c5]) h5;simp only[List.cons.injEq,and_true] at e0 e1 e2 e3 e4 e5;subst e0 e1 e2 e3 e4 e5
      exact⟨⟨z0,z1,z2,z3,z4,z5⟩,rfl,⟨GF w0,GF w1,GF w2,GF w3,GF w4,GF w5⟩⟩) hv h
 obtain⟨A,l,cap,h1,h2,h3,h4,h5⟩:=key;exact⟨A,l,cap,h1,by omega,h4,h5⟩
end Go.Proofs.YteeifhlhpiimoaaGreatDoor
end
section
namespace Go.Proofs.YteeifhlhpiimoaaGreatDoor
open Go Go.RowKit Go.Shelf
attribute [local go_sem] Oper.semAt_some
theorem an5 {E K:Type} [DecidableEq K] (ok:E→Bool) (key:E→K) (prev:E→E→Bool) (a:List E) (e:E):(eQ ok key prev a e).length≤a.length+1:=by
 unfold eQ
 split
 · split
   · simp
   · split<;>simp
 · omega
theorem aiV {E K:Type} [DecidableEq K] (ok:E→Bool) (key:E→K) (prev:E→E→Bool) (l:List E):(tL ok key prev l).length≤l.length:=by
 have h:∀(b a:List E),(b.foldl (eQ ok key prev) a).length≤a.length+b.length:=by
  intro b
  induction b with
  |nil=>intro a;simp
  |cons e b ih=>intro a;rw[List.foldl_cons];have:=ih (eQ ok key prev a e);have:=an5 ok key prev a e;simp only[List.length_cons];omega
 have:=h l [];unfold tL;simpa using this
theorem aaT (l:List af) (d:Int) (j:Nat):(gB l d j).length≤l.length:=by
 unfold gB eG;rw[(xt _).length_eq];exact aV (KO _ _) (aV (KO _ _) (aiV _ _ _ l))
def bP.put (B:bP) (j:Nat) (l:List af) (A:Option bI) (c:Nat):bP:=⟨oj B.ls j l,oj B.ad j A,oj B.cp j c⟩
theorem dH.put {W:ae} {Y:Nat→Prop} {B:bP} {j:Nat} {l:List af} {A:Option bI} {c:Nat} (h:dH W Y B) (hl:eW W Y A l) (hc:l.length≤c∧c≤cH) (hn:A=none→c=0):dH W Y (B.put j l A c):=by
 refine⟨fun i hi=>?_,fun i hi=>?_,fun i hi=>?_⟩<;>unfold bP.put<;>simp only<;>by_cases dh:i=j
 · subst dh;rw[qz,qz];exact hl
 · rw[pK _ _ dh,pK _ _ dh];exact h.at_ i hi
 · subst dh;rw[qz,qz];exact hc
 · rw[pK _ _ dh,pK _ _ dh];exact h.cap i hi
 · subst dh;rw[qz,qz];exact hn
 · rw[pK _ _ dh,pK _ _ dh];exact h.none_ i hi
theorem eW.XB {w:ae} {Y:Nat→Prop} {A:Option bI} {l:List af} (h:eW w Y A l):∀j x,(l.flatMap af.cells)[j]?=some x→∃a,A=some a∧w.cell? (a.add j)=some x:=by
 intro j x hx;have hf:∀x:af,x.cells.length=18:=fun _=>rfl;have hlen:(l.flatMap af.cells).length=l.length*18:=m_ hf;have hj:j<l.length*18:=by rw[←hlen];exact(dL.1 hx).1
 obtain⟨q,r,hr,rfl⟩:∃q r,r<18∧j=q*18+r:=⟨j/18,j%18,by omega,by omega⟩;have hq:q<l.length:=by omega
 obtain⟨b,hA,_,cP⟩:=h q _ (bp hq);refine⟨_,hA,?_⟩;rw[show(⟨b,0,none⟩:bI).add (q*18+r)=⟨b,q*18+r,none⟩ from by simp[jy];omega];rw[mA (f:=af.cells) (s:=18) hf l q _ (bp hq) r hr] at hx;exact cP r x hx
theorem akh:(ah.info? 36).map (·.size)=some 9:=by kernel_rfl
theorem anQ {ops:Array aZ} {rest:List aZ} {o:aZ} {a:Act} {V:ae} {old:Array ai} {Q:Exit→Act→ae→Prop} (ct:o.guard=none) (x y:ef) (ho:o.op=.store 36 x y) (hd:o.dst=none) (B:bP)
 (hx:a.eval x=.pointer (some ⟨V.heap.size,0,none⟩)) (hy:a.eval y=.agg B.cells.toArray) (hold:old.size=9)
 (h:∀w',w'.heap[V.heap.size]?=some (.cells B.cells.toArray 36 (0,0))→Below V.heap.size V w'→dT ah ops Q rest a w'):dT ah ops Q (o::rest) a (V.alloc (.cells old 36)):=
 nK ct _ x y ho hd V.heap.size B.cells.toArray old hx hy akh (bG V _) hold (by simp[bP.cells,Value.oneCell']) fun w' hc ht=>h w' hc (ht.below (aY V _) (aB _) fun k hk=>by omega)
theorem LS {α:Type} {p q:α→Bool} (l:List α) (h:∀x,p x=true→q x=true):(l.filter q).filter p=l.filter p:=by
 rw[List.filter_filter]
 congr 1
 funext x
 cases hp:p x with
 |false=>rfl
 |true=>rw[h x hp];rfl
theorem ahU {α:Type} {p q:α→Bool} (l:List α) (h:∀x,p x=true→q x=true):(l.filter q).any p=l.any p:=by
 rw[List.any_filter]
 congr 1
 funext x
 cases hp:p x with
 |false=>simp
 |true=>rw[h x hp];rfl
def FP (n:Int) (e:af):Bool:=decide (e.item=n)
def akT (n:Int) (e:af):Bool:=decide (e.bQ=n)
structure AA (B C:bP) (n:Int):Prop where
 h0:C.ls 0=(B.ls 0).filter (FP n)
 h1:C.ls 1=(B.ls 1).filter (FP n)
 h2:C.ls 2=(B.ls 2).filter (FP n)
 h3:C.ls 3=(B.ls 3).filter (FP n)
 h4:C.ls 4=(B.ls 4).filter (akT n)
 h5:C.ls 5=B.ls 5
 h7:C.ls 7=(B.ls 7).filter (FP n)
 h8:C.ls 8=(B.ls 8).filter (FP n)
section
variable {B C:bP} {n:Int} (h:AA B C n)
include h
theorem AA.key (t:Int):l8 C n t=l8 B n t:=by
 unfold l8;rw[h.h4,h.h5,LS];intro x hx;simp only[Bool.and_eq_true,decide_eq_true_eq] at hx;exact decide_eq_true hx.2.1
theorem AA.ahN:iO (C.ls 0) n=iO (B.ls 0) n:=by
 unfold iO;rw[h.h0];exact LS _ fun _ hx=>hx
theorem AA.ame:fk (C.ls 1) n=fk (B.ls 1) n∧((C.ls 1).any fun e=>decide (e.item=n))=(B.ls 1).any fun e=>decide (e.item=n):=by
 unfold fk;rw[h.h1];exact⟨by rw[LS];exact fun _ hx=>hx,ahU _ fun _ hx=>hx⟩
theorem AA.pts:RH C n=RH B n:=by unfold RH;rw[h.ame.2,h.ahN]
theorem AA.QH:qb C n=qb B n:=by
 unfold qb;rw[h.h2,LS];exact fun _ hx=>hx
end
theorem Yq (x y:ef) (cs ds:Array ai) (W:ae):(eqGuard .neq 29 x y (.agg cs) (.agg ds)).run ah W=.ok () W:=by kernel_rfl
theorem ajC (x y:ef) (cs ds:Array ai) (W:ae):(eqGuard .neq 86 x y (.agg cs) (.agg ds)).run ah W=.ok () W:=by kernel_rfl
theorem abg (a b:ByteArray) (W:ae):(binOp .neq 29 (.agg #[.string a,.string b]) (.agg #[.string a,.string b])).run ah W=.ok (.bool false) W:=by
 go_simp
theorem alz (p:Pt) (W:ae):(binOp .neq 86 (.agg (fK p).toArray) (.agg (fK p).toArray)).run ah W=.ok (.bool false) W:=by
 obtain⟨a,b,c,d,e⟩:=p;unfold fK;simp only[];go_simp
theorem anL {P:Program} {ops:Array aZ} {rest:List aZ} {o:aZ} {a:Act} {w:ae} {Q:Exit→Act→ae→Prop} (ct:o.guard=none) (t t':bF) (x y:ef) (ho:o.op=.binOp .neq t x y t') (u v:ai) (hx:a.eval x=u) (hy:a.eval y=v) (b:Bool)
 (n0:(eqGuard .neq t x y u v).run P w=.ok () w) (hr:(binOp .neq t u v).run P w=.ok (.bool b) w) (h:dT P ops Q rest (a.put o.dst (.bool b)) w):dT P ops Q (o::rest) a w:=
 wpList_plain ct fun _ hK=>by
  have h2:=hK _ _ h;unfold Oper.wp execOp;simp only[ho,hx,hy];simp only[Sem.run_bind,Sem.run_pure,n0,hr,Result.andThen_ok];exact h2
theorem am8 (rn rd:ByteArray) (l:List Pt) (A A2:Option bI) (n c c2:Nat) (hn:l.length=n) (hm:n≤cH) (w:ae) (hA:iC w fK 5 A l) (mC:iC w fK 5 A2 l):
 ax ah 26 #[.agg #[.string rn,.string rd,.slice A n c],.agg #[.string rn,.string rd,.slice A2 n c2]] w (cC w true):=by
 have Mt:n≤9223372036854775807:=by unfold cH at hm;omega
 have HA:=hZ hA;have uE:=hZ mC;have HN:=hZ hn;clear hA mC hn hm
 go_enter Tryz.func26,Tryz.ntmps26
 go_wp2_with (first
  |((with_reducible refine anL rfl 29 29 (.tmp 7) (.tmp 9) rfl (.agg #[.string rn,.string rd]) (.agg #[.string rn,.string rd]) ?hx ?hy false (Yq _ _ _ _ _) (abg _ _ _) ?_);(case hx=>rfl);(case hy=>rfl))
  |fail)
 have dB:=hZ (At.start w);obtain⟨b1,w1,q1,q2,q3,jb,aP⟩:=dB.out.eX (.cells #[.string rn,.string rd,.slice A n c] 58);obtain⟨b2,w2,r1,r2,r3,eZ,eO⟩:=jb.eX (.cells #[.string rn,.string rd,.slice A2 n c2] 58);rw[aP] at r1;rw[q1,q2,r1,r2];have HF:=hZ eZ;clear dB q1 q2 q3 jb aP r1 r2 r3 eZ eO
 go_loopw [5] (fun v wr=> ∃i:Nat,v=.int .i64 (i:Int)∧i≤n∧ag (At w wr [(b2,.cells #[.string rn,.string rd,.slice A2 n c2] 58 (0,0)),(b1,.cells #[.string rn,.string rd,.slice A n c] 58 (0,0))])) (fun v _=>n-(intOf v).toNat)
 case atStart=>exact⟨0,rfl,ei _,HF⟩
 case round=>
  clear HF;obtain⟨i,rfl,hi,HF⟩:=hrel;have x1:=HF.out.cell (b:=b1) (cs:=#[.string rn,.string rd,.slice A n c]) (t:=58) (by simp) (i:=2) rfl
  by_cases ar:i<n
  · obtain⟨e,he⟩:∃e,l[i]?=some e:=⟨_,bp (by rw[HN.out];exact ar)⟩
    obtain⟨ba,sB,-,cP⟩:=(HA.out.below HF.out.below) i e he;obtain⟨bb,De,-,vz⟩:=(uE.out.below HF.out.below) i e he;subst sB De;have x2:=HF.out.cell (b:=b2) (cs:=#[.string rn,.string rd,.slice (some ⟨bb,0,none⟩) n c2]) (t:=58) (by simp) (i:=2) rfl;(have d1:decide (i<n)=true:=by simp[ar]);(have z1:(0:Int)≤(i:Int):=by omega);(have z2:(i:Int)<(n:Int):=by omega);(have wk:aQ.wrap ((i:Int)+1)=((i+1:Nat):Int):=by rw[aS];omega);have bu:wr.drew.cell? ⟨b1,2,none⟩=some (.slice (some ⟨ba,0,none⟩) n c)∧wr.drew.cell? ⟨b2,2,none⟩=some (.slice (some ⟨bb,0,none⟩) n c2)∧k7 wr.drew ba (i*5) (fK e)∧k7 wr.drew bb (i*5) (fK e):=⟨x1,x2,cP,vz⟩;have tu:=hZ HF.out.drew;clear he cP vz HF;go_wp2_with fail;refine cJ (fun U=>U.cell? ⟨b1,2,none⟩=some (.slice (some ⟨ba,0,none⟩) n c)∧U.cell? ⟨b2,2,none⟩=some (.slice (some ⟨bb,0,none⟩) n c2)∧k7 U ba (i*5) (fK e)∧k7 U bb (i*5) (fK e)) bu fun hHeld=>?_;refine bg 0 1 2 3 ?_;refine tl 4 rfl (yx ba (i*5) (by kernel_rfl) afF (fun w hw=>hw.2.2.1)) ?_;refine bg 5 6 7 8 ?_;refine tl 9 rfl (yx bb (i*5) (by kernel_rfl) afF (fun w hw=>hw.2.2.2)) ?_;refine tl 10 rfl (Gq (by rfl) 86 86 (.tmp 31) (.tmp 36) (by rfl) (.agg (fK e).toArray) (.agg (fK e).toArray) (by rfl) (by rfl) false (fun w=>ajC _ _ _ _ w) (fun w=>alz e w)) ?_;refine dn ?_;clear hHeld bu x1 x2;go_wp2_with fail
    go_round
    case rel=>exact⟨i+1,rfl,by omega,tu⟩
    case measure=>simp[intOf];omega
  · have d1:decide (i<n)=false:=by simp;omega
    go_wp2_with fail;go_ret;exact⟨rfl,HF.out.below⟩
def wY (e:af) (t:Int):Bool:=decide (e.az≤t)&&decide (t≤e.bj)
theorem Ij {α:Type} {f:α→Bool} {l:List α} {i:Nat} {e:α} (he:l[i]?=some e) (h:(l.take i).any f=false) (hf:f e=false):(l.take (i+1)).any f=false:=by
 rw[gV,List.any_append,h,he];simp[hf]
theorem LJ {α:Type} {f:α→Bool} {l:List α} {i:Nat} {e:α} (he:l[i]?=some e) (hf:f e=true):l.any f=true:=List.any_eq_true.2 ⟨e,mP he,hf⟩
theorem S_ (e:af) (t:Int) (w:ae):ax ah 84 #[e.val,.int .i64 t] w (cC w (wY e t)):=by
 unfold wY;obtain⟨p,hp⟩:=oQ (decide (e.az≤t));obtain⟨q,hq⟩:=oQ (decide (t≤e.bj));rw[hp,hq];cases p
 all_goals
  go_enter Tryz.func84,Tryz.ntmps84
  go_wp2_with (first
   | ((with_reducible refine ff rfl (.tmp 0) rfl e ?hx ?_);(case hx=>rfl);intro w1 aH hb hs
      have x5:=aH.cell (i:=5) rfl;have x6:=aH.cell (i:=6) rfl;have HB:=hZ hb
      clear aH hb hs)
   |fail)
  go_ret;exact⟨by simp,HB.out⟩
theorem bP.aia {B:bP} {j n c:Nat} {A:Option bI} {l:List af} (hj:j<9) (h0:B.ls j=l) (h1:l.length=n) (h2:B.ad j=A) (h3:B.cp j=c):B.cells.toArray[j]?=some (.slice A n c):=by
 have h:j=0∨j=1∨j=2∨j=3∨j=4∨j=5∨j=6∨j=7∨j=8:=by omega
 subst h0 h1 h2 h3;rcases h with rfl|rfl|rfl|rfl|rfl|rfl|rfl|rfl|rfl<;>rfl
theorem dH.zo {w:ae} {B:bP} (hB:dH w (bV w) B) {j:Nat} (hj:j<9) (hm:(B.ls j).length≤1000000):∃l A n c,B.ls j=l∧ag (B.cells.toArray[j]?=some (.slice A n c))∧ag (eW w (bV w) A l)∧ag (l.length=n∧n≤1000000):=
 ⟨_,_,_,_,rfl,hZ (B.aia hj rfl rfl rfl rfl),hZ (hB.at_ j hj),hZ ⟨rfl,hm⟩⟩
theorem at9 {w W:ae} {A:Option bI} {l:List af} {n i:Nat} {P:Prop} (HA:ag (eW w (bV w) A l)) (HN:ag (l.length=n∧P)) (hb:Below w.heap.size w W) (hi:i<n):∃e b,ag (l[i]?=some e)∧A=some ⟨b,0,none⟩∧ag (b<w.heap.size)∧W.rangeAt b (i*18) e.cells:=by
 obtain⟨e,he⟩:∃e,l[i]?=some e:=⟨_,bp (by rw[HN.out.1];exact hi)⟩;obtain⟨b,hA,ho,hr⟩:=HA.out i e he;exact⟨e,b,hZ he,hA,hZ ho,fun j v hv=>(hb.cell (p:=⟨b,i*18+j,none⟩) ho).trans (hr j v hv)⟩
theorem nx {i n:Nat} (h:i<n∧n≤1000000):aQ.wrap ((i:Int)+1)=((i+1:Nat):Int):=by rw[aS];omega
theorem amF (B:bP) (p t:Int) (w:ae) (hB:dH w (bV w) B) (hm:(B.ls 3).length≤1000000):
 ax ah 36 #[B.val,.int .i64 p,.int .i64 t] w (cC w ((B.ls 3).any fun e=>decide (e.item=p)&&(decide (e.az≤t)&&decide (t≤e.bj)))):=by
 have IE:=fun e:af=>hZ (di (e:=e));obtain⟨l,A,n,c,hl,HX,HA,HN⟩:=hB.zo (j:=3) (by decide) hm;rw[hl];clear hB hl hm;obtain⟨b0,w0,q1,q2,q3,hf,bU⟩:=(At.start w).eX (.cells B.cells.toArray 36);have HQ:=hZ (ay q1 q2);have HF:=hZ hf;clear q1 q2 q3 hf bU
 go_enter Tryz.func36,Tryz.ntmps36
 go_wp2_with fail;obtain⟨q1,q2⟩:=HQ.out;rw[q1,q2];clear q1 q2
 go_loopw [7] (fun v wr=> ∃i:Nat,v=.int .i64 (i:Int)∧i≤n∧ag ((l.take i).any (fun e=>decide (e.item=p)&&(decide (e.az≤t)&&decide (t≤e.bj)))=false)∧ag (At w wr [(b0,.cells B.cells.toArray 36 (0,0))])) (fun v _=>n-(intOf v).toNat)
 case atStart=>exact⟨0,rfl,ei _,hZ rfl,HF⟩
 case round=>
  clear HF;obtain⟨i,rfl,hi,HT,HF⟩:=hrel;have x3:wr.cell? ⟨b0,3,none⟩=some (.slice A n c):=HF.out.cell (b:=b0) (cs:=B.cells.toArray) (t:=36) (by simp) (i:=3) HX.out
  by_cases ar:i<n
  · obtain⟨e,b,HE,rfl,cy,cP⟩:=at9 HA HN HF.out.below ar
    have y8:=cP 8 (.int .i64 e.item) rfl;have cX:=hZ cP;have aL:=hZ ar;(have d1:decide (i<n)=true:=by simp[ar]);(have z1:(0:Int)≤(i:Int):=by omega);(have z2:(i:Int)<(n:Int):=by omega);have wk:=nx ⟨ar,HN.out.2⟩;obtain⟨k,hk⟩:=oQ ((e.item==p));have HK:ag (decide (e.item=p)=k):=hZ (by rw[←hk];rfl);clear cP ar;cases k
    · go_wp2_with fail
      have dD:=hZ (Ij HE.out HT.out (by rw[HK.out];rfl))
      go_roundw
      case rel=>exact⟨i+1,rfl,aL.out,dD,HF⟩
      case measure=>simp[intOf];have:=aL.out;omega
    · obtain⟨q,hq⟩:=oQ (wY e t)
      have CH:=hZ (S_ e t wr);rw[hq] at CH;have Ww:=hZ hq;clear hq;cases q
      · go_wp2_with (first
         |((with_reducible refine xy ?hw 33 (.tmp 27) rfl b (i*18) ?hx e.cells _ cX.out bk rfl (IE _).out ?_);(case hw=>rfl);(case hx=>first|rfl|simp[jy]))
         |(go_at_call 84;(with_reducible refine CH.out.mono ?_);rintro r V ⟨rfl,hb⟩;have fV:=hZ (HF.out.step hb);clear hb)
         |fail)
        have dD:=hZ (Ij HE.out HT.out (by rw[HK.out];have:=Ww.out;unfold wY at this;rw[this];rfl))
        go_roundw
        case rel=>exact⟨i+1,rfl,aL.out,dD,fV⟩
        case measure=>simp[intOf];have:=aL.out;omega
      · go_wp2_with (first
         |((with_reducible refine xy ?hw 33 (.tmp 27) rfl b (i*18) ?hx e.cells _ cX.out bk rfl (IE _).out ?_);(case hw=>rfl);(case hx=>first|rfl|simp[jy]))
         |(go_at_call 84;(with_reducible refine CH.out.mono ?_);rintro r V ⟨rfl,hb⟩;have fV:=hZ (HF.out.step hb);clear hb)
         |fail)
        go_ret;rw[LJ (l:=l) HE.out (by rw[HK.out];have:=Ww.out;unfold wY at this;rw[this];rfl)];exact⟨rfl,fV.out.below⟩
  · have d1:decide (i<n)=false:=by simp;omega
    have dD:ag (l.any (fun e=>decide (e.item=p)&&(decide (e.az≤t)&&decide (t≤e.bj)))=false):=hZ (by have:=HT.out;rwa[eE (by have:=HN.out.1;omega)] at this);go_wp2_with fail;go_ret;rw[dD.out];exact⟨rfl,HF.out.below⟩
def BO (p s t:Int) (e:af):Bool:=(e.dj==p)&&((e.iJ==s)&&wY e t)
theorem amB (B:bP) (p s t:Int) (w:ae) (hB:dH w (bV w) B) (hm:(B.ls 6).length≤1000000):
 ax ah 38 #[B.val,.int .i64 p,.int .i64 s,.int .i64 t] w (cC w ((B.ls 6).any (BO p s t))):=by
 have IE:=fun e:af=>hZ (di (e:=e));have IS:=fun e:af=>hZ (show(ah.info? 33).map (·.size)=some e.cells.toArray.size from di (e:=e));obtain⟨l,A,n,c,hl,HX,HA,HN⟩:=hB.zo (j:=6) (by decide) hm;rw[hl];clear hB hl hm;obtain⟨b0,w0,q1,q2,q3,hf,bU⟩:=(At.start w).eX (.cells B.cells.toArray 36);have HQ:=hZ (ay q1 q2);have HF:=hZ hf;clear q1 q2 q3 hf bU
 go_enter Tryz.func38,Tryz.ntmps38
 go_wp2_with fail;obtain⟨q1,q2⟩:=HQ.out;rw[q1,q2];clear q1 q2
 go_loopw [9] (fun v wr=> ∃i:Nat,v=.int .i64 (i:Int)∧i≤n∧ag ((l.take i).any (BO p s t)=false)∧ag (At w wr [(b0,.cells B.cells.toArray 36 (0,0))])) (fun v _=>n-(intOf v).toNat)
 case atStart=>exact⟨0,rfl,ei _,hZ rfl,HF⟩
 case round=>
  clear HF;obtain⟨i,rfl,hi,HT,HF⟩:=hrel;have x3:wr.cell? ⟨b0,6,none⟩=some (.slice A n c):=HF.out.cell (b:=b0) (cs:=B.cells.toArray) (t:=36) (by simp) (i:=6) HX.out
  by_cases ar:i<n
  · obtain⟨e,b,HE,rfl,cy,cP⟩:=at9 HA HN HF.out.below ar
    have cX:=hZ cP;have aL:=hZ ar;(have d1:decide (i<n)=true:=by simp[ar]);(have z1:(0:Int)≤(i:Int):=by omega);(have z2:(i:Int)<(n:Int):=by omega);have wk:=nx ⟨ar,HN.out.2⟩;obtain⟨k1,fJ⟩:=oQ ((e.dj==p));obtain⟨k2,kt⟩:=oQ ((e.iJ==s));obtain⟨k3,jV⟩:=oQ (wY e t);have HK:ag (BO p s t e=(k1&&(k2&&k3))):=hZ (by unfold BO;rw[fJ,kt,jV]);have CH:=hZ (fun W=>S_ e t W);rw[jV] at CH;clear cP ar jV;cases k1<;>cases k2<;>cases k3
    all_goals
     go_wp2_with (first
      |(with_reducible refine lx (.tmp 21) b (i*18) cX.out (IE _).out bk ?_)
      | ((with_reducible refine oh rfl (.tmp 10) (.tmp 22) rfl rfl e ?hx ?hy (IS _).out ?hold ?_);(case hx=>rfl);(case hy=>rfl);(case hold=>rfl);intro V he hb hs
         obtain⟨be,fS⟩:=oQ (wr.heap.size);rw[fS] at he⊢;have y9:=he.cell (i:=9) rfl;have y10:=he.cell (i:=10) rfl;have HF:=hZ (HF.out.step hb);have kG:=hZ (bl (cs:=e.cells) he)
         clear he hb hs fS)
      |((with_reducible refine xy ?hw 33 (.tmp 10) rfl be 0 ?hx e.cells _ kG.out bk rfl (IE _).out ?_);(case hw=>rfl);(case hx=>rfl))
      |(go_at_call 84;(with_reducible refine(CH.out _).mono ?_);rintro r V2 ⟨rfl,hb⟩;have HF:=hZ (HF.out.step hb);clear hb)
      |fail)
    iterate 7
     · have dD:=hZ (Ij HE.out HT.out (by rw[HK.out];rfl))
       go_roundw
       case rel=>exact⟨i+1,rfl,aL.out,dD,HF⟩
       case measure=>simp[intOf];have:=aL.out;omega
    · go_ret
      rw[LJ (l:=l) HE.out (by rw[HK.out];rfl)];exact⟨rfl,HF.out.below⟩
  · have d1:decide (i<n)=false:=by simp;omega
    have dD:ag (l.any (BO p s t)=false):=hZ (by have:=HT.out;rwa[eE (by have:=HN.out.1;omega)] at this);go_wp2_with fail;go_ret;rw[dD.out];exact⟨rfl,HF.out.below⟩
def iH (l:List af) (A:Option bI) (c:Nat):bP:=⟨fun _=>l,fun _=>A,fun _=>c⟩
theorem abL {w:ae} {l:List af} {A:Option bI} {c:Nat} (h:eW w (bV w) A l) (h1:l.length≤c∧c≤cH) (h2:A=none→c=0):dH w (bV w) (iH l A c):=⟨fun _ _=>h,fun _ _=>h1,fun _ _=>h2⟩
theorem abM (l:List af) (A:Option bI) (n c:Nat) (hn:l.length=n) (w:ae):ax ah 32 #[.slice A n c] w fun r w'=>r=.returned (iH l A c).val∧Below w.heap.size w w':=by
 subst hn
 go_enter Tryz.func32,Tryz.ntmps32
 go_wp2_with (first
  |((with_reducible refine wpList_build rfl 36 #[(0,.tmp 3),(1,.tmp 4),(2,.tmp 5),(3,.tmp 6),(4,.tmp 7),(5,.tmp 8),(6,.tmp 9),(7,.tmp 10),(8,.tmp 11)] rfl (iH l A c).cells.toArray ?hb ?_);(case hb=>kernel_rfl))
  |((with_reducible refine anQ rfl (.tmp 2) (.tmp 12) rfl rfl (iH l A c) ?hx ?hy ?hold ?_);(case hx=>rfl);(case hy=>rfl);(case hold=>rfl);intro w1 h1 hb;have H1:=hZ h1;have HB:=hZ hb;clear h1 hb)
  |fail)
 refine bodyPost_ret (vM rfl _ _ w.heap.size (iH l A c).cells _ rfl (bl H1.out) Tryz.underlying36 rfl (by kernel_rfl)) rfl ⟨rfl,HB.out⟩
theorem am1 {W:ae} {b:Nat} {l:List bP} (h:W.heap[b]?=some (.cells (l.flatMap bP.cells).toArray 36 (0,0))) {i:Nat} {B:bP} (hB:l[i]?=some B):W.rangeAt b (i*9) B.cells:=by
 intro j v hv;have hj:j<9:=(dL.1 hv).1;have:=mA (f:=bP.cells) (s:=9) (fun _=>rfl) l i B hB j hj;exact aJ h (by simpa using this.trans hv)
theorem ao6 {ops:Array aZ} {rest:List aZ} {o:aZ} {a:Act} {w:ae} {Q:Exit→Act→ae→Prop} (ct:o.guard=none) (n:Nat) (parts:Array (Nat×ef)) (ho:o.op=.buildSlice 69 n parts) (hn:0<n∧n≤1000) (l:List bP)
 (hlen:l.length=n) (RZ:(parts.map fun(i,x)=>(i,a.eval x)).toList=((l.map bP.val).zipIdx 0).map fun x=>(x.2,x.1))
 (hk:∀b V,w.heap.size=b→Below w.heap.size w V→V.heap[b]?=some (.cells (l.flatMap bP.cells).toArray 36 (0,0))→dT ah ops Q rest (a.put o.dst (.slice (some ⟨b,0,none⟩) n n)) V):dT ah ops Q (o::rest) a w:=by
 refine wpList_plain ct fun K hK=>?_;have h:=hK _ _ (hk _ _ rfl (aY w (.cells (l.flatMap bP.cells).toArray 36)) (bG w _));obtain⟨i,h1,h2,h3,h4⟩:=info_parts (show(ah.info? 36).map (fun i=>(i.zero,i.size,i.bytes))=some (some (.agg (iH [] none 0).cells.toArray),9,216) by kernel_rfl);refine wp_buildSlice 69 36 n parts ho (l.flatMap bP.cells).toArray i (.agg (iH [] none 0).cells.toArray) Tryz.underlying69 h1 h2 (by rw[h3];omega) (by rw[h3];omega) ?_ h;rw[h3,RZ]
 have hc:∀v∈l.map bP.val,v.cells.size=9:=fun v hv=>by
  obtain⟨e,_,rfl⟩:=List.mem_map.1 hv;rfl
 have:=Great.fill_whole (s:=9) (by decide) (l.map bP.val) ((Array.range (n*9)).map ((Value.agg (iH [] none 0).cells.toArray).cells[· %(Value.agg (iH [] none 0).cells.toArray).cells.size]!)) hc (by simp[hlen]);rw[this,List.flatMap_map];rfl
theorem St.drop {w V:ae} {L M:List (Nat×Obj)} {Bs Cs:List bP} (h:St w V L Bs) (hL:∀p∈M,p∈L) (hB:∀B∈Cs,B∈Bs):St w V M Cs:=⟨⟨h.at_.below,fun p hp=>h.at_.has p (hL p hp)⟩,fun B re=>h.eA B (hB B re),h.pow⟩
theorem ann (p s t:Int):(fun e:af=>(decide (e.az≤t)&&decide (t≤e.bj))&&(decide (e.dj=p)&&decide (e.iJ=s)))=BO p s t:=by
 funext e
 unfold BO wY
 by_cases h1:e.dj=p<;>by_cases h2:e.iJ=s<;>simp[h1,h2]
end Go.Proofs.YteeifhlhpiimoaaGreatDoor
end
