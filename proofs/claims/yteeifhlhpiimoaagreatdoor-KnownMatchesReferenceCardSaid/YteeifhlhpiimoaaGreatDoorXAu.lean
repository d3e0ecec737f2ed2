/-
  Contract of yardstickref05.Valid; the like for what stands beside it. Condition: the texts' sizes.
-/
import Derived.Test.YteeifhlhpiimoaaGreatDoorXAt
import Derived.Test.YteeifhlhpiimoaaGreatDoorXAh
import Derived.Lib.Strings
import Derived.Test.YteeifhlhpiimoaaGreatDoorXAa
import Derived.Test.YteeifhlhpiimoaaGreatDoorXAs
import Derived.Test.YteeifhlhpiimoaaGreatDoorXAr
import Derived.BigQuiet
set_option maxHeartbeats 8000000
set_option maxRecDepth 100000
open And renaming intro→ay
open Bool renaming and_eq_true→sU,eq_iff_iff→xB
open ByteArray renaming size_append→NO
open Go renaming Calls→ax,Oper→aZ,Operand→ef,TypeId→bF,Value→ai,World→ae,wpList→dT,wpList_append_own→agk
open Go.Act renaming put→sV
open Go.Addr renaming add→jy
open Go.IntKind renaming i64→aQ,wrap_i64→aS
open Go.Proofs.Tryz renaming func135→Ut,func136→adl,func137→adn,func192→adv,func197→adx,func199→ady,func240→adH,ntmps135→UI,ntmps136→aew,ntmps137→aex,ntmps192→aeD,ntmps197→aeF,ntmps199→aeG,ntmps240→aeM,prog→ah,underlying116→uu,underlying180→afl,underlying33→bk
open Go.RowKit renaming Hid→ag
open Go.RowKit.Below renaming drew→eR,refl→bK
open Go.Value renaming int→vU,oneCell'→lH,string→afZ
open Int renaming cast_ofNat_Int→Vf
open List renaming getElem?_eq_getElem→bp,getElem?_eq_some_iff→dL,length_append→eV,length_cons→eF,length_map→rP,length_nil→pQ,length_take→gD,map_append→Ow,map_congr_left→Vp,map_cons→nM,map_nil→xR,mem_of_getElem?→mP,range→dU,setIfInBounds_toArray→ta,set_cons_succ→tc,set_cons_zero→td,take_add_one→gV,take_of_length_le→eE
open List.range renaming loop→Af
open Nat renaming le_refl→aB,le_trans→aV,min_eq_left→Cf,reduceAdd→xU,sub_self→KS,zero_add→uA,zero_le→ei
open UInt8 renaming ofNat→ml
section
namespace Go.Proofs.YteeifhlhpiimoaaGreatDoor
open Go Go.RowKit Go.Shelf
attribute [local go_sem] Oper.semAt_some
theorem abI {n d:ByteArray} (h:gT n.data.toList d.data.toList=true):∃(a:Int) (b:Nat),n=zB a∧d=zB (b:Int)∧bC n.data.toList=a∧bC d.data.toList=(b:Int)∧0<b∧lj a.natAbs∧lj b:=by
 have h0:=h;unfold gT at h;simp only[sU,decide_eq_true_eq] at h;obtain⟨h1,h2,h3,-⟩:=h;obtain⟨a,ea,va,la⟩:=NF h1;obtain⟨b,eb,vb,lb⟩:=NF h2;rw[vb] at h3;obtain⟨k,rfl⟩:∃k:Nat,b=(k:Int):=⟨b.toNat,by omega⟩;exact⟨a,k,ea,eb,va,vb,by omega,la,lb⟩
theorem amt (n d m c:ByteArray) (h1:n.size≤1000000) (h2:d.size≤1000000) (h3:m.size≤1000000) (h4:c.size≤1000000) (w:ae):ax ah 192 #[.agg #[.string n,.string d,.string m,.string c]] w (cC w (qa n.data.toList d.data.toList m.data.toList c.data.toList)):=by
 have C1:=hZ (fun W=>J7 n d h1 h2 W);have C2:=hZ (fun W=>J7 m c h3 h4 W);obtain⟨v1,iF⟩:=oQ (gT n.data.toList d.data.toList);obtain⟨v2,gd⟩:=oQ (gT m.data.toList c.data.toList);rw[iF] at C1;rw[gd] at C2;obtain⟨o,ho⟩:=oQ (jj (bC n.data.toList*bC c.data.toList) (bC m.data.toList*bC d.data.toList))
 have CC:ag (v1=true→v2=true→∀W,ax ah 239 #[.agg #[.string n,.string d],.agg #[.string m,.string c]] W (wF W o)):=hZ fun e1 e2 W=>by
  obtain⟨a,b,rfl,rfl,va,vb,p1,l1,l2⟩:=abI (iF.trans e1);obtain⟨x,y,rfl,rfl,vx,vy,p2,l3,l4⟩:=abI (gd.trans e2);rw[←ho,va,vb,vx,vy];exact amm a x b y p1 p2 l1 l2 l3 l4 (iF.trans e1) (gd.trans e2) W h1 h2 h3 h4
 have hr:qa n.data.toList d.data.toList m.data.toList c.data.toList=(v1&&(v2&&decide (o≤0))):=by unfold qa;rw[iF,gd,ho]
 rw[hr];obtain⟨b0,w0,q1,q2,-,hf,-⟩:=(At.start w).eX (.cells #[.string n,.string d,.string m,.string c] 31);have HQ:=hZ (ay q1 q2);have HF:=hZ hf;clear hr ho iF gd q1 q2 hf h1 h2 h3 h4;obtain⟨q,hq⟩:=oQ (decide (o≤0));rw[hq];cases v1<;>cases v2
 case true.true=>
  have C3:=hZ (CC.out rfl rfl)
  go_enter adv,aeD
  go_upto_region 1 with(fail)
  obtain⟨q1,q2⟩:=HQ.out;rw[q1,q2];clear q1 q2;have x0:=HF.out.cell (b:=b0) (cs:=#[.string n,.string d,.string m,.string c]) (t:=31) (by simp) (i:=0) rfl;have x1:=HF.out.cell (b:=b0) (cs:=#[.string n,.string d,.string m,.string c]) (t:=31) (by simp) (i:=1) rfl
  go_wp2_with (first
   | (go_at_call 193;(with_reducible refine(C1.out _).mono ?_);rintro r V1 ⟨rfl,hb⟩
      have au:=hZ (HF.out.step hb);have y2:=au.out.cell (b:=b0) (cs:=#[.string n,.string d,.string m,.string c]) (t:=31) (by simp) (i:=2) rfl;have y3:=au.out.cell (b:=b0) (cs:=#[.string n,.string d,.string m,.string c]) (t:=31) (by simp) (i:=3) rfl
      clear hb)
   | (go_at_call 193;(with_reducible refine(C2.out _).mono ?_);rintro r V2 ⟨rfl,hb⟩
      have fV:=hZ (au.out.step hb);have u0:=fV.out.cell (b:=b0) (cs:=#[.string n,.string d,.string m,.string c]) (t:=31) (by simp) (i:=0) rfl;have u1:=fV.out.cell (b:=b0) (cs:=#[.string n,.string d,.string m,.string c]) (t:=31) (by simp) (i:=1) rfl;have u2:=fV.out.cell (b:=b0) (cs:=#[.string n,.string d,.string m,.string c]) (t:=31) (by simp) (i:=2) rfl;have u3:=fV.out.cell (b:=b0) (cs:=#[.string n,.string d,.string m,.string c]) (t:=31) (by simp) (i:=3) rfl
      clear hb)
   |(go_at_call 239;(with_reducible refine(C3.out _).mono ?_);rintro r V3 ⟨rfl,hb⟩;have j8:=hZ (fV.out.step hb);clear hb)
   |fail)
  go_ret;exact⟨rfl,j8.out.below⟩
 all_goals
  go_enter adv,aeD
  go_upto_region 1 with(fail)
  obtain⟨q1,q2⟩:=HQ.out;rw[q1,q2];clear q1 q2;have x0:=HF.out.cell (b:=b0) (cs:=#[.string n,.string d,.string m,.string c]) (t:=31) (by simp) (i:=0) rfl;have x1:=HF.out.cell (b:=b0) (cs:=#[.string n,.string d,.string m,.string c]) (t:=31) (by simp) (i:=1) rfl
  go_wp2_with (first
   | (go_at_call 193;(with_reducible refine(C1.out _).mono ?_);rintro r V1 ⟨rfl,hb⟩
      have au:=hZ (HF.out.step hb);have y2:=au.out.cell (b:=b0) (cs:=#[.string n,.string d,.string m,.string c]) (t:=31) (by simp) (i:=2) rfl;have y3:=au.out.cell (b:=b0) (cs:=#[.string n,.string d,.string m,.string c]) (t:=31) (by simp) (i:=3) rfl
      clear hb)
   | (go_at_call 193;(with_reducible refine(C2.out _).mono ?_);rintro r V2 ⟨rfl,hb⟩
      have fV:=hZ (au.out.step hb)
      clear hb)
   |fail)
  go_ret;exact⟨rfl,fV.out.below⟩
theorem ajf (k:Int) (h:k<1∨9<k) (w:ae):ax ah 52 #[.int .i64 k] w fun e w'=>e=.returned (.slice none 0 0)∧w'=w:=by
 have e1:(k==1)=false:=by simp;omega
 have e2:(k==2)=false:=by simp;omega
 have e3:(k==3)=false:=by simp;omega
 have e4:(k==4)=false:=by simp;omega
 have e5:(k==5)=false:=by simp;omega
 have e6:(k==6)=false:=by simp;omega
 have e7:(k==7)=false:=by simp;omega
 have e8:(k==8)=false:=by simp;omega
 have e9:(k==9)=false:=by simp;omega
 clear h
 go_enter Tryz.func52,Tryz.ntmps52
 go_wp2_with fail;go_ret;exact⟨rfl,rfl⟩
def okF (L:List Nat) (e:af) (i:Nat):Bool:=if i∈L then decide ((if i=1∨i=2 then 0 else 1)≤kq e i)&&decide (kq e i≤1000000) else decide (kq e i=0)
def l_ (e:af):Nat:=if e.kind<1∨9<e.kind then 0 else e.kind.toNat
def zeroV (e:af):Bool:=decide (e.ln.toList=[]∧e.ld.toList=[]∧e.hn.toList=[]∧e.hd.toList=[])
def rJ (e:af):Bool:=decide (e.rn.toList=[]∧e.rd.toList=[])
def jx (e:af):Bool:=
 let L:=kn (l_ e)
 !L.isEmpty&&(fZ e&&((dU 7).all (okF L e)&&((!(L.contains 2)||decide (e.az≤e.bj))&&
  ((mM e.ln.data.toList e.ld.data.toList&&(mM e.hn.data.toList e.hd.data.toList&&mM e.rn.data.toList e.rd.data.toList))&&
    ((L.contains 7==qa e.ln.data.toList e.ld.data.toList e.hn.data.toList e.hd.data.toList)&&(L.contains 7||zeroV e))&&
    (if L.contains 8 then gT e.rn.data.toList e.rd.data.toList&& !(Lib.hasPrefix e.rn.data.toList [45]) else rJ e)&&
    (if L.contains 9 then decide (e.text.size=32) else decide (e.text.toList=[]))))))
theorem yB {e:af} (h:zeroV e=true):qa e.ln.data.toList e.ld.data.toList e.hn.data.toList e.hd.data.toList=false∧mM e.ln.data.toList e.ld.data.toList=true∧mM e.hn.data.toList e.hd.data.toList=true:=by
 unfold zeroV at h;simp only[decide_eq_true_eq,ByteArray.toList_eq] at h;obtain⟨h1,h2,h3,h4⟩:=h;rw[h1,h2,h3,h4];exact⟨by decide,by decide,by decide⟩
theorem zu {e:af} (h:rJ e=true):mM e.rn.data.toList e.rd.data.toList=true:=by
 unfold rJ at h;simp only[decide_eq_true_eq,ByteArray.toList_eq] at h;obtain⟨h1,h2⟩:=h;rw[h1,h2]
 decide
theorem TP {e:af} (h:e.kind<1∨9<e.kind):jx e=bE e:=by
 have h1:bE e=false:=by
  unfold bE gC;simp[show e.kind≠1 by omega,show e.kind≠2 by omega,show e.kind≠3 by omega,show e.kind≠4 by omega,show e.kind≠5 by omega,show e.kind≠6 by omega,show e.kind≠7 by omega,show e.kind≠8 by omega,show e.kind≠9 by omega]
 rw[h1];unfold jx l_;rw[if_pos h];rfl
theorem aoG {e:af} (h:e.kind=1):jx e=bE e:=by
 rw[xB];have hz:=yB (e:=e);have hr:=zu (e:=e);unfold jx bE l_ fZ mX;rw[h];unfold zeroV rJ at*;simp[gC,kn,fW,okF,kq,dU,Af,af.ji,af.num,af.qA] at*
 grind
theorem aoH {e:af} (h:e.kind=2):jx e=bE e:=by
 rw[xB];have hz:=yB (e:=e);have hr:=zu (e:=e);unfold jx bE l_ fZ mX;rw[h];unfold zeroV rJ at*;simp[gC,kn,fW,okF,kq,dU,Af,af.ji,af.num,af.o6] at*
 grind
theorem aoI {e:af} (h:e.kind=3):jx e=bE e:=by
 rw[xB];have hz:=yB (e:=e);have hr:=zu (e:=e);unfold jx bE l_ fZ mX;rw[h];unfold zeroV rJ at*;simp[gC,kn,fW,okF,kq,dU,Af,af.ji,af.num] at*
 grind
theorem aoJ {e:af} (h:e.kind=4):jx e=bE e:=by
 rw[xB];have hz:=yB (e:=e);have hr:=zu (e:=e);unfold jx bE l_ fZ mX;rw[h];unfold zeroV rJ at*;simp[gC,kn,fW,okF,kq,dU,Af,af.ji,af.num] at*
 grind
theorem aoK {e:af} (h:e.kind=5):jx e=bE e:=by
 rw[xB];have hz:=yB (e:=e);have hr:=zu (e:=e);unfold jx bE l_ fZ mX;rw[h];unfold zeroV rJ at*;simp[gC,kn,fW,okF,kq,dU,Af,af.ji,af.num] at*
 grind
theorem aoL {e:af} (h:e.kind=6):jx e=bE e:=by
 rw[xB];have hz:=yB (e:=e);have hr:=zu (e:=e);unfold jx bE l_ fZ mX;rw[h];unfold zeroV rJ at*;simp[gC,kn,fW,okF,kq,dU,Af,af.ji,af.num] at*
 grind
theorem aoM {e:af} (h:e.kind=7):jx e=bE e:=by
 rw[xB];have hz:=yB (e:=e);have hr:=zu (e:=e);unfold jx bE l_ fZ mX;rw[h];unfold zeroV rJ at*;simp[gC,kn,fW,okF,kq,dU,Af,af.ji,af.num] at*
 grind
theorem aoN {e:af} (h:e.kind=8):jx e=bE e:=by
 rw[xB];have hz:=yB (e:=e);have hr:=zu (e:=e);unfold jx bE l_ fZ mX;rw[h];unfold zeroV rJ at*;simp[gC,kn,fW,okF,kq,dU,Af,af.ji,af.num,af.o6] at*
 grind
theorem aoO {e:af} (h:e.kind=9):jx e=bE e:=by
 rw[xB];have hz:=yB (e:=e);have hr:=zu (e:=e);unfold jx bE l_ fZ mX;rw[h];unfold zeroV rJ at*;simp[gC,kn,fW,okF,kq,dU,Af,af.ji,af.num] at*
 grind
theorem NC (e:af):jx e=bE e:=by
 by_cases h:e.kind<1∨9<e.kind
 · exact TP h
 · obtain h|h|h|h|h|h|h|h|h:e.kind=1∨e.kind=2∨e.kind=3∨e.kind=4∨e.kind=5∨e.kind=6∨e.kind=7∨e.kind=8∨e.kind=9:=by omega
   · exact aoG h
   · exact aoH h
   · exact aoI h
   · exact aoJ h
   · exact aoK h
   · exact aoL h
   · exact aoM h
   · exact aoN h
   · exact aoO h
theorem amE (e:af) (h:e.kind<1∨9<e.kind) (w:ae):ax ah 135 #[e.val] w (cC w false):=by
 have CF:=hZ (fun W=>ajf e.kind h W);clear h
 go_enter Ut,UI
 go_wp2_with (first
  | ((with_reducible refine ff rfl (.tmp 0) rfl e ?hx ?_);(case hx=>rfl);intro w1 aH hb hs
     have x0:=aH.cell (i:=0) rfl;have HB:=hZ hb
     clear aH hb hs)
  |(go_at_call 52;(with_reducible refine(CF.out _).mono ?_);rintro r V1 ⟨rfl,rfl⟩)
  |fail)
 go_ret;exact⟨rfl,HB.out⟩
theorem amD (e:af) (k:Nat) (hk:e.kind=(k:Int)) (h1:1≤k∧k≤9) (hh:fZ e=false) (w:ae):ax ah 135 #[e.val] w (cC w false):=by
 have CF:=hZ (fun W=>LR k h1.1 h1.2 W);obtain⟨n,hn⟩:=oQ ((kn k).length)
 have l6:0<n:=by
  rw[←hn];obtain rfl|rfl|rfl|rfl|rfl|rfl|rfl|rfl|rfl:k=1∨k=2∨k=3∨k=4∨k=5∨k=6∨k=7∨k=8∨k=9:=by omega
  all_goals decide
 have r9:=hZ hn;have dn:((n:Int)==0)=false:=by simp;omega
 obtain⟨q1,jL⟩:=oQ (decide (e.bR<1));obtain⟨q2,kQ⟩:=oQ (decide (1000000<e.bR));obtain⟨q3,vw⟩:=oQ (decide (e.day<0));obtain⟨q4,sK⟩:=oQ (decide (100000<e.day))
 have Br:(q1||(q2||(q3||q4)))=true:=by
  rw[←jL,←kQ,←vw,←sK];unfold fZ at hh
  by_cases a1:e.bR<1<;>by_cases a2:1000000<e.bR<;>by_cases a3:e.day<0<;>by_cases a4:100000<e.day<;>simp[a1,a2,a3,a4]<;>simp at hh<;>omega
 clear hh h1 hn l6;cases q1<;>cases q2<;>cases q3<;>cases q4
 case false.false.false.false=>cases Br
 all_goals
  clear Br
  go_enter Ut,UI
  go_wp2_with (first
   | ((with_reducible refine ff rfl (.tmp 0) rfl e ?hx ?_);(case hx=>rfl);intro w1 aH hb hs
      have HE:=hZ aH;have x0:=aH.cell (i:=0) (v:=.int .i64 (k:Int)) (by rw[←hk];rfl);have HB:=hZ hb
      clear aH hb hs)
   | (go_at_call 52;(with_reducible refine(CF.out _).mono ?_);rintro r V1 ⟨v1,rfl,hv,-,hb⟩
      obtain⟨A1,c1,rfl,-⟩:=hv;rw[r9.out];have aF:=aw HB hb;have y2:=(HE.out.below hb).cell (i:=2) rfl;have y3:=(HE.out.below hb).cell (i:=3) rfl
      clear hb)
   |fail)
  go_ret;exact⟨rfl,aF.out⟩
theorem amd {f:Nat→Bool} {i:Nat}:(dU (i+1)).all f=((dU i).all f&&f i):=by rw[List.range_succ,List.all_append];simp
theorem ahS (l:List Nat) (x:Nat):(l.any fun y=>decide (y=x))=l.contains x:=by
 induction l with
 |nil=>rfl
 |cons a l ih=>rw[List.any_cons,ih,List.contains_cons];congr 1;by_cases h:a=x<;>simp[h];exact fun q=>h q.symm
theorem acL {P:Program} {ops:Array aZ} {rest:List aZ} {o:aZ} {a:Act} {w:ae} {Q:Exit→Act→ae→Prop} (hw:Region.wanted o (yielded ops a.tmps)=true) (t:bF) (parts:Array (Nat×ef)) (ho:o.op=.build t parts) (cells:Array ai)
 (hb:P.built t (parts.map fun(i,x)=>(i,a.eval x)).toList=some cells) (h:dT P ops Q rest (a.put o.dst (.agg cells)) w):dT P ops Q (o::rest) a w:=by
 refine wpList_step fun K hK=>?_;rw[if_pos hw];refine wp_build t parts ho (by rw[hb];rfl) ?_;rw[hb];exact hK _ _ h
theorem acr {P:Program} {ops:Array aZ} {rest:List aZ} {o:aZ} {a:Act} {w:ae} {Q:Exit→Act→ae→Prop} (hw:Region.wanted o (yielded ops a.tmps)=true) (t t':bF) (x y:ef) (ho:o.op=.binOp .neq t x y t') (u v:ai) (hx:a.eval x=u) (hy:a.eval y=v) (b:Bool)
 (n0:(eqGuard .neq t x y u v).run P w=.ok () w) (hr:(binOp .neq t u v).run P w=.ok (.bool b) w) (h:dT P ops Q rest (a.put o.dst (.bool b)) w):dT P ops Q (o::rest) a w:=by
 refine wpList_step fun K hK=>?_;rw[if_pos hw];have h2:=hK _ _ h;unfold Oper.wp execOp;simp only[ho,hx,hy];simp only[Sem.run_bind,Sem.run_pure,n0,hr,Result.andThen_ok];exact h2
theorem ajz (x y:ef) (cs ds:Array ai) (W:ae):(eqGuard .neq 31 x y (.agg cs) (.agg ds)).run ah W=.ok () W:=by kernel_rfl
theorem ajD (x y:ef) (cs ds:Array ai) (W:ae):(eqGuard .neq 29 x y (.agg cs) (.agg ds)).run ah W=.ok () W:=by kernel_rfl
theorem alx (a b c d:ByteArray) (z:Bool) (hz:decide (a.toList=[]∧b.toList=[]∧c.toList=[]∧d.toList=[])=z) (W:ae):(binOp .neq 31 (.agg #[.string a,.string b,.string c,.string d]) (.agg #[.string ⟨#[]⟩,.string ⟨#[]⟩,.string ⟨#[]⟩,.string ⟨#[]⟩])).run ah W=.ok (.bool (!z)) W:=by
 rw[←hz]
 by_cases h1:a.toList=[]<;>by_cases h2:b.toList=[]<;>by_cases h3:c.toList=[]<;>by_cases h4:d.toList=[]<;>simp only[h1,h2,h3,h4,and_true,and_false,decide_true,decide_false]<;>go_simp
theorem alA (a b:ByteArray) (z:Bool) (hz:decide (a.toList=[]∧b.toList=[])=z) (W:ae):(binOp .neq 29 (.agg #[.string a,.string b]) (.agg #[.string ⟨#[]⟩,.string ⟨#[]⟩])).run ah W=.ok (.bool (!z)) W:=by
 rw[←hz]
 by_cases h1:a.toList=[]<;>by_cases h2:b.toList=[]<;>simp only[h1,h2,and_true,and_false,decide_true,decide_false]<;>go_simp
theorem acA (w:ae) (L:List ByteArray) (T:bF):∃W b,w.alloc (.cells (L.map afZ).toArray T)=W∧w.heap.size=b∧Below w.heap.size w W∧∀V,Below W.heap.size W V→∀i s,L[i]?=some s→V.cell? ⟨b,i,none⟩=some (.string s):=by
 refine⟨_,_,rfl,rfl,aY _ _,fun V hV i s hs=>?_⟩;have h:=World.alloc_heap_new w (.cells (L.map afZ).toArray T);exact aJ (fe hV h) (by simp[hs])
theorem amg {W:ae} {bb:Nat} {a1 b1 a2 b2 a3 b3:ByteArray} {s1 s2 s3:Bool} (hr:∀V,Below W.heap.size W V→∀i s,[a1,b1,a2,b2,a3,b3][i]?=some s→V.cell? ⟨bb,i,none⟩=some (.string s)) (V:ae) (hV:Below W.heap.size W V) (j:Nat) (hj:j<3)
 (h1:ag (∀W,ax ah 194 #[.agg #[.string a1,.string b1]] W (cC W s1))) (h2:ag (∀W,ax ah 194 #[.agg #[.string a2,.string b2]] W (cC W s2))) (h3:ag (∀W,ax ah 194 #[.agg #[.string a3,.string b3]] W (cC W s3))):
 ∃a b sj,V.cell? ⟨bb,j*2,none⟩=some (.string a)∧V.cell? ⟨bb,j*2+1,none⟩=some (.string b)∧ag (∀W,ax ah 194 #[.agg #[.string a,.string b]] W (cC W sj))∧ag ((j=0∧s1=sj)∨(j=1∧s2=sj)∨(j=2∧s3=sj)):=by
 obtain rfl|rfl|rfl:j=0∨j=1∨j=2:=by omega
 · exact⟨a1,b1,s1,hr V hV 0 _ rfl,hr V hV 1 _ rfl,h1,hZ (.inl ⟨rfl,rfl⟩)⟩
 · exact⟨a2,b2,s2,hr V hV 2 _ rfl,hr V hV 3 _ rfl,h2,hZ (.inr (.inl ⟨rfl,rfl⟩))⟩
 · exact⟨a3,b3,s3,hr V hV 4 _ rfl,hr V hV 5 _ rfl,h3,hZ (.inr (.inr ⟨rfl,rfl⟩))⟩
theorem aoV:∀c7 iv zv c8 rv ng zr c9:Bool,(c7=true∧iv=false)∨(c7=false∧iv=true)∨(c7=false∧iv=false∧zv=false)∨(((c7=true∧iv=true)∨(c7=false∧iv=false∧zv=true))∧((c8=true∧rv=false)∨(c8=true∧rv=true∧ng=true)∨(c8=false∧zr=false)∨(((c8=true∧rv=true∧ng=false)∨(c8=false∧zr=true))∧(c9=true∨c9=false)))):=by
 intro c7 iv zv c8 rv ng zr c9;cases c7<;>cases iv<;>cases zv<;>cases c8<;>cases rv<;>cases ng<;>cases zr<;>cases c9<;>simp
theorem M5 (L:List Nat) (v:ai) (k:Nat) (z:Int) (hz:(k:Int)=z) (c:Bool) (hc:L.contains k=c) (w:ae) (hv:aX w v L) (hm:L.length≤1000):ax ah 191 #[v,.int .i64 z] w fun r w'=>r=.returned (.bool c)∧w'=w:=by
 subst hz;rw[←hc,←ahS];exact abR L v k w hv hm
theorem amC (e:af) (hc:e.j6) (k:Nat) (hk:e.kind=(k:Int)) (h1:1≤k∧k≤9) (hh:fZ e=true) (w:ae):ax ah 135 #[e.val] w (cC w (bE e)):=by
 have IE:=fun e:af=>hZ (di (e:=e));have CF:=hZ (fun W=>LR k h1.1 h1.2 W);obtain⟨L,hL⟩:=oQ (kn k);obtain⟨n,hn⟩:=oQ (L.length)
 have l6:0<n∧n≤1000:=by
  rw[←hn,←hL];obtain rfl|rfl|rfl|rfl|rfl|rfl|rfl|rfl|rfl:k=1∨k=2∨k=3∨k=4∨k=5∨k=6∨k=7∨k=8∨k=9:=by omega
  all_goals decide
 rw[hL] at CF;have r9:=hZ hn;have dn:((n:Int)==0)=false:=by simp;omega
 unfold fZ at hh;simp at hh;have q1:decide (e.bR<1)=false:=by simp;omega
 have q2:decide (1000000<e.bR)=false:=by simp;omega
 have q3:decide (e.day<0)=false:=by simp;omega
 have q4:decide (100000<e.day)=false:=by simp;omega
 go_enter Ut,UI
 go_wp2_with (first
  | ((with_reducible refine ff rfl (.tmp 0) rfl e ?hx ?_);(case hx=>rfl);intro w1 aH hb hs
     obtain⟨be,fS⟩:=oQ (w.heap.size);rw[fS] at aH⊢;have HE:=hZ aH;have x0:=aH.cell (i:=0) (v:=.int .i64 (k:Int)) (by rw[←hk];rfl);have HB:=hZ hb
     clear aH hb hs fS)
  | (go_at_call 52;(with_reducible refine(CF.out _).mono ?_);rintro r V1 ⟨v1,rfl,hv,-,hb⟩
     have HV:=hZ hv;obtain⟨A1,c1,rfl,-⟩:=hv;rw[r9.out];have aF:=aw HB hb;have cW:=hZ (HE.out.below hb);have y2:=cW.out.cell (i:=2) rfl;have y3:=cW.out.cell (i:=3) rfl
     clear hb)
  |fail)
 have HI:ag (e.kind=(k:Int)∧kn k=L∧L.length≤1000):=hZ ⟨hk,hL,by rw[hn];exact l6.2⟩
 have VT:ag (∀i,i<7→okF L e i=false→bE e=false):=hZ (fun i h1 h2=>by
  rw[←NC,jx];have qm:l_ e=k:=by unfold l_;rw[if_neg (by omega),hk];rfl
  simp only[qm,hL];have:(dU 7).all (okF L e)=false:=by rw[List.all_eq_false];exact⟨i,by simp[h1],by simp[h2]⟩
  rw[this];simp)
 obtain⟨c2,eo⟩:=oQ (L.contains 2);obtain⟨c7,Fl⟩:=oQ (L.contains 7);obtain⟨c8,Rk⟩:=oQ (L.contains 8);obtain⟨c9,jl⟩:=oQ (L.contains 9);obtain⟨iv,RJ⟩:=oQ (qa e.ln.data.toList e.ld.data.toList e.hn.data.toList e.hd.data.toList);obtain⟨rv,Sj⟩:=oQ (gT e.rn.data.toList e.rd.data.toList);obtain⟨s1,aP⟩:=oQ (mM e.ln.data.toList e.ld.data.toList);obtain⟨s2,eO⟩:=oQ (mM e.hn.data.toList e.hd.data.toList);obtain⟨s3,jM⟩:=oQ (mM e.rn.data.toList e.rd.data.toList);obtain⟨ng,RU⟩:=oQ (Lib.hasPrefix e.rn.data.toList [45]);obtain⟨zv,ME⟩:=oQ (zeroV e);obtain⟨zr,zi⟩:=oQ (rJ e);obtain⟨t3,kR⟩:=oQ (decide (e.text.size=32));obtain⟨te,FK⟩:=oQ (decide (e.text.toList=[]));obtain⟨gu,RC⟩:=oQ (decide (e.bj<e.az));have Zv:decide (e.az≤e.bj)= !gu:=by rw[←RC];by_cases h:e.az≤e.bj<;>simp[h]<;>omega
 have WT : ag ((dU 7).all (okF L e)=true→bE e=((!c2|| !gu)&&((s1&&(s2&&s3))&&((c7==iv)&&(c7||zv))&&(if c8 then rv&& !ng else zr)&&(if c9 then t3 else te)))):=hZ (fun h=>by
  have qm:l_ e=k:=by unfold l_;rw[if_neg (by omega),hk];rfl
  have hLE : L.isEmpty = false := by cases L;· simp at hn;omega
                                     · rfl
  have hhq:fZ e=true:=by unfold fZ;simp;omega
  rw[←NC,jx]
  simp only[qm,hL,hhq,hLE,h,eo,Fl,Rk,jl,RJ,Sj,aP,eO,jM,RU,ME,zi,kR,FK,Zv,Bool.true_and,Bool.not_false])
 have VZ:=hZ (fun W (h:Below V1.heap.size V1 W)=>M5 L _ 2 2 rfl c2 eo W (HV.out.below h) HI.out.2.2);have Wa:=hZ (fun W (h:Below V1.heap.size V1 W)=>M5 L _ 7 7 rfl c7 Fl W (HV.out.below h) HI.out.2.2);have Wb:=hZ (fun W (h:Below V1.heap.size V1 W)=>M5 L _ 8 8 rfl c8 Rk W (HV.out.below h) HI.out.2.2);have Wc:=hZ (fun W (h:Below V1.heap.size V1 W)=>M5 L _ 9 9 rfl c9 jl W (HV.out.below h) HI.out.2.2);rw[r9.out] at VZ Wa Wb Wc;have C5:=hZ (fun W=>amt e.ln e.ld e.hn e.hd (by have:=hc.ln;omega) (by have:=hc.ld;omega) (by have:=hc.hn;omega) (by have:=hc.hd;omega) W);have C4:=hZ (fun W=>J7 e.rn e.rd (by have:=hc.rn;omega) (by have:=hc.rd;omega) W);have Vy:=hZ (fun W=>Tb e.ln e.ld (by have:=hc.ln;omega) W);have Vz:=hZ (fun W=>Tb e.hn e.hd (by have:=hc.hn;omega) W);have VA:=hZ (fun W=>Tb e.rn e.rd (by have:=hc.rn;omega) W);have CN:=hZ (fun W=>amx e.rn e.rd (by have:=hc.rn;omega) W);rw[RJ] at C5;rw[Sj] at C4;rw[aP] at Vy;rw[eO] at Vz;rw[jM] at VA;rw[RU] at CN;have G9:=hZ RC;unfold zeroV at ME;unfold rJ at zi;have HZV:=hZ ME;have HZR:=hZ zi;have sh:=hZ kR;have WQ:=hZ FK;clear eo Fl Rk jl RJ Sj aP eO jM RU ME zi kR FK RC Zv;have rT:=aF;have dI:ag (Below V1.heap.size V1 V1):=hZ (bK _ _);have CO:=hZ (fun W (h:Below V1.heap.size V1 W)=>ay (HV.out.below h) (cW.out.below h));clear x0 y2 y3 q1 q2 q3 q4 hh hk hL hn l6 HE HB dn h1 CF hc
 go_loopw [4] (fun v wr=> ∃i:Nat,v=.int .i64 (i:Int)∧i≤7∧ag ((dU i).all (okF L e)=true)∧ag (Below V1.heap.size V1 wr)) (fun v _=>7-(intOf v).toNat)
 case atStart=>exact⟨0,rfl,by omega,hZ rfl,dI⟩
 case round=>
  clear dI;obtain⟨i,rfl,hi,HA,bA⟩:=hrel
  by_cases ar:i<7
  · have d1:decide ((i:Int)≤6)=true:=by simp;omega
    have aL:=hZ ar;(have wk:aQ.wrap ((i:Int)+1)=((i+1:Nat):Int):=by rw[aS];omega);have HG:=hZ (fun W=>abQ e i ar W);have kG:=hZ (bl (cs:=e.cells) (CO.out _ bA.out).2);obtain⟨g,hg⟩:=oQ (kq e i);rw[hg] at HG;obtain⟨u,hu⟩:=oQ ((L.any fun y=>decide (y=i)));have HH:=hZ (fun W (h:Below V1.heap.size V1 W)=>abR L _ i W (CO.out W h).1 HI.out.2.2);rw[hu,r9.out] at HH;obtain⟨p1,Ju⟩:=oQ (((i:Int)==1));obtain⟨p2,eH⟩:=oQ (((i:Int)==2));obtain⟨g0,tU⟩:=oQ (decide (g<0));obtain⟨g1,ep⟩:=oQ (decide (g<1));obtain⟨gh,hgh⟩:=oQ (decide (1000000<g));obtain⟨gz,Jg⟩:=oQ ((g !=0))
    have lM:∃gl,ag (okF L e i=if u then !(gl||gh) else !gz)∧((p1=true∧g0=gl)∨(p1=false∧p2=true∧g0=gl)∨(p1=false∧p2=false∧g1=gl)):=by
     (have hm:(i∈L)↔u=true:=by rw[←hu];simp);refine⟨if p1||p2 then g0 else g1,hZ ?_,by cases p1<;>cases p2<;>simp⟩;unfold okF;rw[hg,←Ju,←eH,←tU,←ep,←hgh,←Jg];cases u
     · rw[if_neg (fun h=>by cases hm.1 h)];by_cases h0:g=0<;>simp[h0]
     · rw[if_pos (hm.2 rfl)]
       by_cases a1:i=1<;>by_cases a2:i=2<;>simp[a1,a2]<;>grind
    clear ar hu hg;obtain⟨gl,lM,nu⟩:=lM
    have huc:(u=false∧gz=false)∨(u=false∧gz=true)∨(u=true∧gl=true)∨(u=true∧gl=false∧gh=true)∨(u=true∧gl=false∧gh=false):=by
     cases u<;>cases gz<;>cases gl<;>cases gh<;>simp
    rcases nu with⟨rfl,rfl⟩|⟨rfl,rfl,rfl⟩|⟨rfl,rfl,rfl⟩
    all_goals rcases huc with⟨rfl,rfl⟩|⟨rfl,rfl⟩|⟨rfl,rfl⟩|⟨rfl,rfl,rfl⟩|⟨rfl,rfl,rfl⟩
    all_goals
     go_wp2_with (first
      |(with_reducible refine lx (.tmp 1) be 0 kG.out (IE _).out bk ?_)
      |(go_at_call 190;(with_reducible refine(HG.out _).mono ?_);rintro r V2 ⟨rfl,hb⟩;have aG:=aw bA hb;clear hb)
      |(go_at_call 191;(with_reducible refine(HH.out _ aG.out).mono ?_);rintro r V3 ⟨rfl,rfl⟩)
      |fail)
     first
      |(go_ret;rw[VT.out i aL.out (by rw[lM.out];rfl)];exact⟨rfl,rT.out.trans (aG.out.mono rT.out.size)⟩)
      | (go_roundw
         case rel=>exact⟨i+1,rfl,aL.out,hZ (by rw[amd,HA.out,lM.out];rfl),aG⟩
         case measure=>simp[intOf];have:=aL.out;omega)
  · have d1:decide ((i:Int)≤6)=false:=by simp;omega
    have PU:ag (bE e=((!c2|| !gu)&&((s1&&(s2&&s3))&&((c7==iv)&&(c7||zv))&&(if c8 then rv&& !ng else zr)&&(if c9 then t3 else te)))):=hZ (WT.out (by have:=HA.out;rwa[show i=7 by omega] at this));clear WT VT HA ar hi;have hE:=(CO.out _ bA.out).2;have y5:=hE.cell (i:=5) rfl;have y6:=hE.cell (i:=6) rfl;have TY:=hE.cell (i:=11) rfl;have TZ:=hE.cell (i:=12) rfl;have T0:=hE.cell (i:=13) rfl;have T3:=hE.cell (i:=14) rfl;clear hE;have gu':=G9.out;(have lY:(c2=false)∨(c2=true∧gu=false)∨(c2=true∧gu=true):=by cases c2<;>cases gu<;>simp);rcases lY with rfl|⟨rfl,rfl⟩|⟨rfl,rfl⟩
    all_goals
     go_wp2_with (first
      |(go_at_call 191;(with_reducible refine(VZ.out _ bA.out).mono ?_);rintro r V2 ⟨rfl,rfl⟩)
      | (go_at_call 192;(with_reducible refine(C5.out _).mono ?_);rintro r V3 ⟨rfl,hb⟩
         have a_:=aw bA hb;have Fi:=(CO.out _ a_.out).2;have u15:=Fi.cell (i:=15) rfl;have u16:=Fi.cell (i:=16) rfl
         clear hb Fi)
      | (go_at_call 193;(with_reducible refine(C4.out _).mono ?_);rintro r V4 ⟨rfl,hb⟩
         have bJ:=aw a_ hb;have yI:=(CO.out _ bJ.out).2;have v11:=yI.cell (i:=11) rfl;have v12:=yI.cell (i:=12) rfl;have xw:=yI.cell (i:=13) rfl;have BR:=yI.cell (i:=14) rfl;have Gg:=yI.cell (i:=15) rfl;have Gh:=yI.cell (i:=16) rfl
         clear hb yI)
      |fail)
    rotate_left 2
    · go_ret
      exact⟨by rw[PU.out];rfl,rT.out.trans (bA.out.mono rT.out.size)⟩
    all_goals
     obtain⟨W5,bb,hW,iQ,cn,hr⟩:=acA V4 [e.ln,e.ld,e.hn,e.hd,e.rn,e.rd] 29;simp only[nM,xR] at hW;rw[hW,iQ];have cT:=aw bJ cn;have HR:=hZ (fun W h (j:Nat) (hj:j<3)=>amg hr W h j hj Vy Vz VA);clear hW iQ cn hr u15 u16 v11 v12 xw BR Gg Gh y5 y6 TY TZ T0 T3 d1 gu' a_ bJ bA
     go_loopw [101] (fun v wr=> ∃j:Nat,v=.int .i64 (j:Int)∧j≤3∧ag ((0<j→s1=true)∧(1<j→s2=true)∧(2<j→s3=true))∧ag (Below W5.heap.size W5 wr)) (fun v _=>3-(intOf v).toNat)
     case atStart=>exact⟨0,rfl,by omega,hZ ⟨by simp,by simp,by simp⟩,hZ (bK _ _)⟩
     case round=>
      obtain⟨j,rfl,hj,PG,hP⟩:=hrel;have dM:=hZ (cT.out.trans (hP.out.mono cT.out.size))
      by_cases ar:j<3
      · obtain⟨a,b,sj,x0,x1,HC,kH⟩:=HR.out _ hP.out j ar
        (have d1:decide ((j:Int)<3)=true:=by simp;omega);(have z1:(0:Int)≤(j:Int):=by omega);(have z2:(j:Int)<3:=by omega);(have wk:aQ.wrap ((j:Int)+1)=((j+1:Nat):Int):=by rw[aS];omega);have aL:=hZ ar;have g_:=hZ (aY wr (.cells #[.string a,.string b] 29));clear ar hj;cases sj
        all_goals
         go_wp2_with (first
          |(go_at_call 194;(with_reducible refine(HC.out _).mono ?_);rintro r V6 ⟨rfl,hb⟩;have jD:=aw g_ hb;clear hb)
          |fail)
         first
          | (go_ret
             exact⟨by rw[PU.out];rcases kH.out with h|h|h<;>rw[h.2]<;>simp,rT.out.trans ((dM.out.trans (jD.out.mono dM.out.size)).mono rT.out.size)⟩)
          | (go_roundw
             case rel=>exact⟨j+1,rfl,aL.out,hZ (by have h1:=PG.out;have h2:=kH.out;refine⟨fun h=>?_,fun h=>?_,fun h=>?_⟩<;>rcases h2 with h2|h2|h2<;>first|exact h2.2|(exact h1.1 (by omega))|(exact h1.2.1 (by omega))|(exact h1.2.2 (by omega))),hZ (hP.out.trans (jD.out.mono hP.out.size))⟩
             case measure=>simp[intOf];have:=aL.out;omega)
      · have d1:decide ((j:Int)<3)=false:=by simp;omega
        have t_:=PG.out;obtain rfl:=t_.1 (by omega);obtain rfl:=t_.2.1 (by omega);obtain rfl:=t_.2.2 (by omega);have hE:=(CO.out _ dM.out).2;have Gg:=hE.cell (i:=15) rfl;have Gh:=hE.cell (i:=16) rfl;clear hE t_ PG HR ar hj;rcases aoV c7 iv zv c8 rv ng zr c9 with⟨rfl,rfl⟩|⟨rfl,rfl⟩|⟨rfl,rfl,rfl⟩|⟨⟨rfl,rfl⟩|⟨rfl,rfl,rfl⟩,⟨rfl,rfl⟩|⟨rfl,rfl,rfl⟩|⟨rfl,rfl⟩|⟨⟨rfl,rfl,rfl⟩|⟨rfl,rfl⟩,rfl|rfl⟩⟩
        all_goals
         go_wp2_with (first
          | (go_at_call 195;(with_reducible refine(CN.out _).mono ?_);rintro r V7 ⟨z,rfl,hb⟩
             have gj:=aw dM hb;have AV:=(CO.out _ gj.out).2;have TY:=AV.cell (i:=11) rfl;have TZ:=AV.cell (i:=12) rfl;have T0:=AV.cell (i:=13) rfl;have T3:=AV.cell (i:=14) rfl;have Gn:=AV.cell (i:=15) rfl;have Gp:=AV.cell (i:=16) rfl;have y17:=AV.cell (i:=17) rfl
             clear hb AV)
          |(go_at_call 191;(with_reducible refine(Wa.out _ gj.out).mono ?_);rintro r V8 ⟨rfl,rfl⟩)
          |(go_at_call 191;(with_reducible refine(Wb.out _ gj.out).mono ?_);rintro r V8 ⟨rfl,rfl⟩)
          |(go_at_call 191;(with_reducible refine(Wc.out _ gj.out).mono ?_);rintro r V8 ⟨rfl,rfl⟩)
          |((with_reducible refine acL ?hw 31 #[] rfl #[.string ⟨#[]⟩,.string ⟨#[]⟩,.string ⟨#[]⟩,.string ⟨#[]⟩] ?hb ?_);(case hw=>rfl);(case hb=>kernel_rfl))
          |((with_reducible refine acL ?hw 29 #[] rfl #[.string ⟨#[]⟩,.string ⟨#[]⟩] ?hb ?_);(case hw=>rfl);(case hb=>kernel_rfl))
          |((with_reducible refine acr ?hw 31 31 (.tmp 124) (.tmp 125) rfl (.agg #[.string e.ln,.string e.ld,.string e.hn,.string e.hd]) (.agg #[.string ⟨#[]⟩,.string ⟨#[]⟩,.string ⟨#[]⟩,.string ⟨#[]⟩]) ?hx ?hy _ (ajz _ _ _ _ _) (alx _ _ _ _ _ HZV.out _) ?_);(case hw=>rfl);(case hx=>rfl);(case hy=>rfl))
          |((with_reducible refine acr ?hw 29 29 (.tmp 144) (.tmp 145) rfl (.agg #[.string e.rn,.string e.rd]) (.agg #[.string ⟨#[]⟩,.string ⟨#[]⟩]) ?hx ?hy _ (ajD _ _ _ _ _) (alA _ _ _ HZR.out _) ?_);(case hw=>rfl);(case hx=>rfl);(case hy=>rfl))
          |fail)
         go_ret;refine⟨?_,rT.out.trans (gj.out.mono rT.out.size)⟩;rw[PU.out]
         first
          |rfl
          |(rw[show((e.text.size:Int)==32)=t3 by rw[←sh.out,xB];simp;omega];rfl)
          |(rw[show e.text.toList.isEmpty=te by rw[←WQ.out];cases e.text.toList<;>simp];rfl)
theorem M6 (e:af) (h:e.j6) (w:ae) (_:dY w):ax ah 135 #[e.val] w (cC w (bE e)):=by
 by_cases hk:e.kind<1∨9<e.kind
 · have hv:bE e=false:=by
    rw[←TP hk];unfold jx l_;rw[if_pos hk];rfl
   rw[hv];exact amE e hk w
 · obtain⟨k,iR⟩:∃k:Nat,e.kind=(k:Int):=⟨e.kind.toNat,by omega⟩
   cases hh:fZ e
   · have hv:bE e=false:=by
      rw[←NC];unfold jx;rw[hh];simp
     rw[hv];exact amD e k iR (by omega) hh w
   · exact amC e h k iR (by omega) hh w
end Go.Proofs.YteeifhlhpiimoaaGreatDoor
end
section
namespace Go.Proofs.YteeifhlhpiimoaaGreatDoor.Wr
open Go Go.RowKit
theorem amk (n:Int) (h1: -4611686018427387903≤n) (h2:n≤4611686018427387903) (w:ae):
 ax ah 240 #[.int .i64 n] w fun e w'=>e=.returned (.int .u64 (jP n:Int))∧w=w':=by
 by_cases h:n<0
 · have hz:(jP n:Int)=-n*2-1:=by unfold jP;rw[if_neg (by omega)];omega
   have HZ:=hZ hz;clear hz
   go_enter adH,aeM
   go_wp2_with fail;go_ret;exact⟨by rw[HZ.out];try rfl,rfl⟩
 · have hz:(jP n:Int)=n*2:=by unfold jP;rw[if_pos (by omega)];omega
   have HZ:=hZ hz;clear hz
   go_enter adH,aeM
   go_wp2_with fail;go_ret;exact⟨by rw[HZ.out];try rfl,rfl⟩
theorem M4 (n:Int) (h1: -4611686018427387903≤n) (h2:n≤4611686018427387903) (w:ae):
 ax ah 196 #[.int .i64 n] w fun e w'=>e=.returned (.tuple #[.string ⟨(gg n).toArray⟩,.int .i64 0])∧Below w.heap.size w w':=by
 have MD:=T' h1 h2;have Jy:gg n=BF (jP n):=rfl;rw[Jy];have HR:=hZ (fun W=>amk n h1 h2 W);obtain⟨z,hz⟩:=oQ (jP n);rw[hz] at MD HR⊢;have fY:decide (n< -4611686018427387903)=false:=by simp;omega
 have gQ:decide (4611686018427387903<n)=false:=by simp;omega
 clear hz Jy;obtain⟨i0,hi,nD,od,l7⟩:=info_parts Tryz.aaD
 go_enter Tryz.func196,Tryz.ntmps196
 go_wp2_with (go_at_call 240;refine(HR.out _).mono ?_;rintro e w1 ⟨rfl,rfl⟩)
 go_loopw [4,5] (fun zv v wr=> ∃(pre:List UInt8) (f c:Nat),zv=.int .u64 c∧c<128^(f+1)∧pre.length+f=9∧c≤z∧BF z=pre++pG f c∧wr.ownsRow w.heap.size 5 1 v pre.length (pre.map bv)∧Below w.heap.size w wr) (fun zv _ _=>(intOf zv).toNat)
 case atStart=>exact⟨[],9,z,rfl,Nat.lt_of_lt_of_le MD (by decide),rfl,aB _,rfl,World.ownsRow_nil _ _ _ _,bK _ _⟩
 case round=>
  obtain⟨pre,f,c,rfl,hc,hpf,Dm,hl,cL,hB⟩:=hrel;have wP:=hB.size;have Hc:=hZ hc;have Hl:=hZ hl;clear hc hl
  by_cases ar:c<128
  · have h3:decide (128≤(c:Int))=false:=by simp;omega
    go_wp2_with (at_builtin;refine agk _ rfl _ _ 116 rfl w.heap.size 5 i0 (.int .u8 0) 1 1 uu hi nD od l7 rfl (by decide) _ _ _ rfl (cL.alloc _) ⟨wr.heap.size,0,none⟩ 1 1 [_] rfl rfl (cell_one_new _ _ _) (by simp[lH]) (by unfold maxLen;omega) (by omega) (by simp;omega) ?_;intro v' w1 qp sH _)
    have eb:(ml c).toNat=c:=by simp;omega
    have ZY:w1.ownsRow w.heap.size 5 1 v' (pre++[ml c]).length ((pre++[ml c]).map bv):=by
     simpa[bv,eb] using qp
    have Rn:=Qw (P:=ah) 116 9 uu Tryz.underlying5 Tryz.underlying9 ZY;(have rh:BF z=pre++[ml c]:=by rw[Hl.out,ala ar]);have HA:=hZ rh;have sD:Below w.heap.size w w1:=(hB.alloc wP _).grown sH (by simp;omega) (fun k e=>(cL.lt k e).1);clear qp ZY rh sH eb cL;rw[Rn];go_wp2_with fail
    go_ret2
    exact⟨by rw[HA.out];try rfl,sD⟩
  · have h3:decide (128≤(c:Int))=true:=by simp;omega
    go_wp2_with (at_builtin;refine agk _ rfl _ _ 116 rfl w.heap.size 5 i0 (.int .u8 0) 1 1 uu hi nD od l7 rfl (by decide) _ _ _ rfl (cL.alloc _) ⟨wr.heap.size,0,none⟩ 1 1 [_] rfl rfl (cell_one_new _ _ _) (by simp[lH]) (by unfold maxLen;omega) (by omega) (by simp;omega) ?_;intro v' w1 qp sH _)
    have sD:Below w.heap.size w w1:=(hB.alloc wP _).grown sH (by simp;omega) (fun k e=>(cL.lt k e).1);obtain⟨g,rfl,e,hg⟩:=alc (by omega) Hc.out;have eb:((ml (c%128+128)).toNat:Int)=(c:Int)%128+128:=by simp;omega
    go_roundw
    case rel=>exact⟨pre++[ml (c%128+128)],g,c/128,by go_num,hg,by simp;omega,by omega,by rw[Hl.out,e];simp,by rw[Ow,eV];simp only[nM,xR,bv,eb,eF,pQ];exact qp,sD⟩
    case measure=>simp[intOf];omega
theorem amj (s:ByteArray) (h:s.size≤65536) (w:ae):
 ax ah 241 #[.string s] w fun e w'=>e=.returned (.tuple #[.string (⟨(gg s.size).toArray⟩++s),.int .i64 0])∧Below w.heap.size w w':=by
 have hl:=ug s.size
 go_enter Tryz.func241,Tryz.ntmps241
 go_wp2_with (go_at_call 196;refine(M4 _ (by omega) (by omega) _).mono ?_;rintro e w1 ⟨rfl,aq⟩)
 go_ret2
 exact⟨rfl,aq⟩
end Go.Proofs.YteeifhlhpiimoaaGreatDoor.Wr
end
section
namespace Go.Proofs.YteeifhlhpiimoaaGreatDoor
open Go Go.RowKit Wr
def rF (e:af) (f:Nat):List UInt8:=if f=7 then pJ e [11,12,13,14] else if f=8 then pJ e [15,16] else if f=9 then pJ e [17] else gg (kq e f)
theorem akQ {k:Int} (h:1≤k∧k≤9):k=1∨k=2∨k=3∨k=4∨k=5∨k=6∨k=7∨k=8∨k=9:=by omega
theorem ai2 {e:af} (h:1≤e.kind∧e.kind≤9):kL e=pA e++(kn (l_ e)).flatMap (rF e):=by
 unfold kL l_;rw[if_neg (by omega)]
 congr 1
 obtain h|h|h|h|h|h|h|h|h:=akQ h
 all_goals
  rw[h];simp[gC,kn,rF,po,af.num,kq]
theorem akO {e:af} (h:bE e=true):aI e=gg e.kind++rF e (if e.kind=2∨e.kind=6∨e.kind=8 then 4 else 0):=by
 unfold aI oW;rw[if_pos h]
 split<;>simp[rF,kq,af.num]
theorem abE {e:af} (h:e.j6) (f:Nat):(rF e f).length≤300000:=by
 have hs:∀i,(e.str i).size≤65536:=fun i=>by
  have:=h.ln;have:=h.ld;have:=h.hn;have:=h.hd;have:=h.rn;have:=h.rd;have:=h.text;unfold af.str
  split<;>omega
 unfold rF
 split
 · exact aV (J4 e _ fun i _=>hs i) (by simp)
 split
 · exact aV (J4 e _ fun i _=>hs i) (by simp)
 split
 · exact aV (J4 e _ fun i _=>hs i) (by simp)
 · exact aV (ug _) (by decide)
theorem acH {e:af} (h:bE e=true):(1≤e.kind∧e.kind≤9)∧(1≤e.bR∧e.bR≤1000000)∧(0≤e.day∧e.day≤100000)∧∀i,i<7→0≤kq e i∧kq e i≤1000000:=by
 have hk:1≤e.kind∧e.kind≤9:=by
  by_cases hk:e.kind<1∨9<e.kind
  · rw[←TP hk] at h
    unfold jx l_ at h;rw[if_pos hk] at h;cases h
  · omega
 rw[←NC] at h;unfold jx at h;simp only[sU] at h;obtain⟨-,hh,ha,-⟩:=h;unfold fZ at hh;simp at hh;refine⟨hk,by omega,by omega,fun i hi=>?_⟩;rw[List.all_eq_true] at ha;have:=ha i (by simp[hi]);unfold okF at this
 split at this
 · simp at this;split at this<;>omega
 · simp at this;omega
end Go.Proofs.YteeifhlhpiimoaaGreatDoor
end
section
namespace Go.Proofs.YteeifhlhpiimoaaGreatDoor
open Go Go.RowKit Go.Shelf Wr
attribute [local go_sem] Oper.semAt_some
theorem acS {ops:Array aZ} {S:ae→Prop} {o:aZ} {a:Act} (hw:Region.wanted o (yielded ops a.tmps)=true) (x y:ef) (ho:o.op=.binOp .add 9 x y 9) (u v:ByteArray) (hx:a.eval x=.string u) (hy:a.eval y=.string v) (hs:u.size+v.size≤9223372036854775807):YieldsIf ah ops S o (.string (u++v)) a:=
 .inl ⟨hw,fun w _=>by
  have h:¬9223372036854775807<u.size+v.size:=by omega
  unfold execOp;simp only[ho,hx,hy]
  go_simp⟩
theorem Ip (l:List UInt8):(⟨l.toArray⟩:ByteArray).size=l.length:=by
 show l.toArray.size=_;simp
theorem Io (a b:List UInt8):(⟨a.toArray⟩:ByteArray)++⟨b.toArray⟩=⟨(a++b).toArray⟩:=by
 apply ByteArray.ext;simp
theorem abU (e:af) (hc:e.j6) (f:Nat) (hf:f≤9) (hg:∀i,i<7→0≤kq e i∧kq e i≤1000000) (w:ae):ax ah 197 #[e.val,.int .i64 (f:Int)] w (Ay w (rF e f)):=by
 have IE:=fun e:af=>hZ (di (e:=e))
 by_cases h7:f<7
 · have e7:((f:Int)==7)=false:=by simp;omega
   (have e8:((f:Int)==8)=false:=by simp;omega);(have e9:((f:Int)==9)=false:=by simp;omega);(have hp:rF e f=gg (kq e f):=by unfold rF;rw[if_neg (by omega),if_neg (by omega),if_neg (by omega)]);rw[hp];have HG:=hZ (fun W=>abQ e f h7 W);have HP:=hZ (fun W=>M4 (kq e f) (by have:=hg f h7;omega) (by have:=hg f h7;omega) W);obtain⟨g,vh⟩:=oQ (kq e f);rw[vh] at HG HP⊢;clear h7 hf hg vh hp
   go_enter adx,aeF
   go_wp2_with (first
    | ((with_reducible refine ff rfl (.tmp 0) rfl e ?hx ?_);(case hx=>rfl);intro w1 aH hb hs
       obtain⟨be,fS⟩:=oQ (w.heap.size);rw[fS] at aH⊢;have kG:=hZ (bl (cs:=e.cells) aH);have HB:=hZ hb
       clear aH hb hs fS)
    |(with_reducible refine lx (.tmp 2) be 0 kG.out (IE _).out bk ?_)
    |(go_at_call 190;(with_reducible refine(HG.out _).mono ?_);rintro r V2 ⟨rfl,hb⟩;have aG:=aw HB hb;clear hb)
    |(go_at_call 196;(with_reducible refine(HP.out _).mono ?_);rintro r V3 ⟨rfl,hb⟩;have a_:=aw aG hb;clear hb)
    |fail)
   go_ret;exact⟨rfl,a_.out⟩
 · have lJ:=hZ hc
   (have tT:f=7∨f=8∨f=9:=by omega);clear hg hf h7
   have main:∀(L:List ByteArray) (f:Nat),((L=[e.ln,e.ld,e.hn,e.hd]∧f=7)∨(L=[e.rn,e.rd]∧f=8)∨(L=[e.text]∧f=9))→ax ah 197 #[e.val,.int .i64 (f:Int)] w (Ay w (L.flatMap xn)):=by
    intro L f YE
    have aU:∀s∈L,s.size≤65536:=by
     have q1:=hc.ln;have q2:=hc.ld;have q3:=hc.hn;have q4:=hc.hd;have q5:=hc.rn;have q6:=hc.rd;have q7:=hc.text;intro s hs;rcases YE with⟨rfl,-⟩|⟨rfl,-⟩|⟨rfl,-⟩<;>simp at hs
     · rcases hs with rfl|rfl|rfl|rfl<;>omega
     · rcases hs with rfl|rfl<;>omega
     · subst hs;omega
    have gM:=hZ aU;have HP:=hZ (fun s (hs:s∈L) W=>amj s (gM.out s hs) W);have HT:=hZ (fun W=>acA W L 9);clear aU hc tT;rcases YE with⟨hL,rfl⟩|⟨hL,rfl⟩|⟨hL,rfl⟩
    all_goals
     simp only[Vf];have HL:=hZ hL;clear hL
     go_enter adx,aeF
     go_wp2_with (first
      | ((with_reducible refine ff rfl (.tmp 0) rfl e ?hx ?_);(case hx=>rfl);intro w1 aH hb hs
         have x11:=aH.cell (i:=11) rfl;have x12:=aH.cell (i:=12) rfl;have x13:=aH.cell (i:=13) rfl;have x14:=aH.cell (i:=14) rfl;have Km:=aH.cell (i:=15) rfl;have Kn:=aH.cell (i:=16) rfl;have TX:=aH.cell (i:=17) rfl;have HB:=hZ hb
         clear aH hb hs)
      |fail)
     obtain⟨W2,bb,hW,iQ,aA,hr⟩:=HT.out w1;rw[HL.out] at hW;simp only[nM,xR] at hW;rw[hW,iQ];have aG:=aw HB aA;have HR:=hZ hr;clear hW iQ aA hr x11 x12 x13 x14 Km Kn TX
     go_loopw [8,9] (fun v8 v9 wr=> ∃(i:Nat) (out:ByteArray),v9=.int .i64 (i:Int)∧v8=.string out∧i≤L.length∧out.size≤70000*i∧ag (out=⟨((L.take i).flatMap xn).toArray⟩)∧ag (Below W2.heap.size W2 wr)) (fun _ v9 _=>L.length-(intOf v9).toNat)
     case atStart=>exact⟨0,⟨#[]⟩,rfl,rfl,ei _,aB _,hZ rfl,hZ (bK _ _)⟩
     case round=>
      obtain⟨i,out,rfl,rfl,hi,DL,HO,bA⟩:=hrel
      by_cases ar:i<L.length
      · obtain⟨s,hs⟩:∃s,L[i]?=some s:=⟨_,bp ar⟩
        have x1:=HR.out wr bA.out i s hs;have HS:=hZ hs;have aL:=hZ ar;(have wk:aQ.wrap ((i:Int)+1)=((i+1:Nat):Int):=by rw[aS];have:L.length≤4:=(by rw[HL.out];simp);omega);(have d1:decide ((i:Int)<((L.length:Nat):Int))=true:=by simp;exact ar);(have z1:(0:Int)≤(i:Int):=by omega);(have z2:(i:Int)<((L.length:Nat):Int):=by omega);rw[HL.out] at d1 z2;simp only[eF,pQ,uA,xU,Vf] at d1 z2;obtain⟨t,ht⟩:∃t:ByteArray,(⟨(gg s.size).toArray⟩:ByteArray)++s=t:=⟨_,rfl⟩;have Cz:=hZ (fun W=>HP.out s (mP HS.out) W);rw[ht] at Cz;have iM:ag (t=⟨(xn s).toArray⟩):=hZ (by rw[←ht];exact(Io _ s.data.toList).trans rfl)
        have FM:t.size≤70000:=by
         have h1:=gM.out s (mP hs);have h2:=ug s.size;rw[←ht,NO,Ip];omega
        (have jW:i≤4:=by have:L.length≤4:=(by rw[HL.out];simp);omega);have Hn:=hZ (ay DL FM);clear hs ar ht
        go_wp2_with (first
         |(go_at_call 241;(with_reducible refine(Cz.out _).mono ?_);rintro r V1 ⟨rfl,hb⟩;have a_:=aw bA hb;clear hb)
         |fail)
        go_roundw
        case rel=>exact⟨i+1,out++t,rfl,rfl,aL.out,by have:=Hn.out;rw[NO];omega,hZ (by rw[HO.out,iM.out,Io,gV,HS.out];simp),a_⟩
        case measure=>simp[intOf];have:=aL.out;omega
      · have d1:decide ((i:Int)<((L.length:Nat):Int))=false:=by simp;omega
        have HE:ag (out=⟨(L.flatMap xn).toArray⟩):=hZ (by rw[HO.out,eE (by omega)]);rw[HL.out] at d1;simp only[eF,pQ,uA,xU,Vf] at d1;go_wp2_with fail;go_ret;rw[HE.out];exact⟨rfl,aG.out.trans (bA.out.mono aG.out.size)⟩
   obtain rfl|rfl|rfl:=tT
   · exact main _ 7 (.inl ⟨rfl,rfl⟩)
   · exact main _ 8 (.inr (.inl ⟨rfl,rfl⟩))
   · exact main _ 9 (.inr (.inr ⟨rfl,rfl⟩))
theorem Ta (e:af) (hc:e.j6) (w:ae) (hp:dY w):ax ah 136 #[e.val] w (Ay w (aI e)):=by
 have IE:=hZ (di (e:=e));have HV:ag (∀W,Below w.heap.size w W→ax ah 135 #[e.val] W (cC W (bE e))):=hZ (fun W h=>M6 e hc W (hp.below h));obtain⟨v,hv⟩:=oQ (bE e);rw[hv] at HV;cases v
 · have hk:aI e=[]:=by unfold aI;rw[hv];rfl
   rw[hk];clear hk hv hp
   go_enter adl,aew
   go_wp2_with (first
    | ((with_reducible refine ff rfl (.tmp 0) rfl e ?hx ?_);(case hx=>rfl);intro w1 aH hb hs
       obtain⟨be,fS⟩:=oQ (w.heap.size);rw[fS] at aH⊢;have kG:=hZ (bl (cs:=e.cells) aH);have HB:=hZ hb
       clear aH hb hs fS)
    |(with_reducible refine lx (.tmp 1) be 0 kG.out IE.out bk ?_)
    |(go_at_call 135;(with_reducible refine(HV.out _ HB.out).mono ?_);rintro r V2 ⟨rfl,hb⟩;have aG:=aw HB hb;clear hb)
    |fail)
   go_ret;exact⟨rfl,aG.out⟩
 · obtain⟨hk,-,-,hn⟩:=acH hv
   rw[akO hv];obtain⟨f,hf,Du⟩:∃f:Nat,(if e.kind=2∨e.kind=6∨e.kind=8 then 4 else 0)=f∧f≤9:=⟨_,rfl,by split<;>omega⟩;(have Zo:(if e.kind=2∨e.kind=6∨e.kind=8 then(4:Int) else 0)=(f:Int):=by rw[←hf];split<;>rfl);have Ez:=hZ (fun W=>amv e.kind W);rw[Zo] at Ez;rw[hf];have CB:=hZ (fun W=>abU e hc f Du hn W);have Ld:=hZ (fun W=>M4 e.kind (by omega) (by omega) W);obtain⟨s,hs⟩:∃s:ByteArray,⟨(gg e.kind).toArray⟩=s:=⟨_,rfl⟩;obtain⟨t,ht⟩:∃t:ByteArray,⟨(rF e f).toArray⟩=t:=⟨_,rfl⟩;have HR:ag (⟨(gg e.kind++rF e f).toArray⟩=s++t):=hZ (by rw[←hs,←ht,Io])
   have gM:ag (s.size+t.size≤9223372036854775807):=hZ (by
    have h1:=ug e.kind;have h2:=abE hc f;rw[←hs,←ht,Ip,Ip]
    omega)
   rw[hs] at Ld;unfold Ay at CB⊢;rw[ht] at CB;rw[HR.out];clear HR hs ht hf Zo Du hn hk hv hp hc
   go_enter adl,aew
   go_wp2_with (first
    | ((with_reducible refine ff rfl (.tmp 0) rfl e ?hx ?_);(case hx=>rfl);intro w1 aH hb hs
       obtain⟨be,fS⟩:=oQ (w.heap.size);rw[fS] at aH⊢;have HE:=hZ aH;have kG:=hZ (bl (cs:=e.cells) aH);have HB:=hZ hb
       clear aH hb hs fS)
    |(with_reducible refine lx (.tmp 1) be 0 kG.out IE.out bk ?_)
    | (go_at_call 135;(with_reducible refine(HV.out _ HB.out).mono ?_);rintro r V2 ⟨rfl,hb⟩
       have aG:=aw HB hb;have cK:=hZ (HE.out.below hb);have x0:=cK.out.cell (i:=0) rfl
       clear hb)
    | (go_at_call 196;(with_reducible refine(Ld.out _).mono ?_);rintro r V3 ⟨rfl,hb⟩
       have a_:=aw aG hb;have jE:=hZ (cK.out.below hb)
       clear hb)
    |fail)
   have bu:aR V3.drew be e∧V3.drew.cell? ⟨be,0,none⟩=some (.int .i64 e.kind):=⟨jE.out,jE.out.cell (i:=0) rfl⟩;refine cJ (fun U=>aR U be e∧U.cell? ⟨be,0,none⟩=some (.int .i64 e.kind)) bu fun hHeld=>?_;refine tk 0 ?_;refine tl 1 rfl (yx be 0 IE.out bk (fun w hw=>bl hw.1)) ?_;refine eC 2 3 ?_;refine rE 4 fun K hK=>?_;go_simp
   (with_reducible refine(Ez.out _).mono ?_)
   rintro e5 w5 ⟨rfl,rfl⟩;refine kk hK bu fun hHeld=>?_;clear hK K;refine rE 5 fun K hK=>?_;go_simp
   (with_reducible refine(CB.out _).mono ?_)
   rintro e6 w6 ⟨rfl,hb⟩;have dM:ag (Below w.heap.size w w6):=hZ ((eR a_.out).trans (hb.mono (eR a_.out).size));have pT:=hZ (bu.1.below hb);clear hb;refine kk hK (⟨pT.out,pT.out.cell (i:=0) rfl⟩) fun hHeld=>?_;clear hK K;refine tl 6 rfl (acS (by rfl) (.tmp 16) (.tmp 21) (by rfl) s t (by rfl) (by rfl) gM.out) ?_;refine tk 7 ?_;refine dn ?_;clear hHeld;go_wp2_with fail;go_ret;exact⟨rfl,dM.out⟩
theorem akt (w:ae) (L:List Int) (T:bF):∃W b,w.alloc (.cells (L.map (vU .i64)).toArray T)=W∧w.heap.size=b∧Below w.heap.size w W∧∀V,Below W.heap.size W V→∀i s,L[i]?=some s→V.cell? ⟨b,i,none⟩=some (.int .i64 s):=by
 refine⟨_,_,rfl,rfl,aY _ _,fun V hV i s hs=>?_⟩;have h:=World.alloc_heap_new w (.cells (L.map (vU .i64)).toArray T);exact aJ (fe hV h) (by simp[hs])
theorem aa2 {w:ae} {A:Option Addr} {c n j f:Nat} {L:List Nat} (h:aX w (.slice A n c) L) (hf:L[j]?=some f):∃a,A=some a∧w.cell? (a.add j)=some (.int .i64 (f:Int)):=by
 obtain⟨A2,c2,hq,-,-,-,ha⟩:=h;obtain⟨a,h1,-,h2⟩:=ha j f hf;injection hq with q1;exact⟨a,q1.trans h1,h2⟩
theorem amp (e:af) (hc:e.j6) (w:ae) (hp:dY w) (hv:bE e=false):ax ah 199 #[e.val] w fun r w'=>r=.returned (.tuple #[.string ⟨#[]⟩,.int .i64 180])∧Below w.heap.size w w':=by
 have IE:=hZ (di (e:=e));have HV:ag (∀W,Below w.heap.size w W→ax ah 135 #[e.val] W (cC W (bE e))):=hZ (fun W h=>M6 e hc W (hp.below h));rw[hv] at HV;clear hv hp hc
 go_enter ady,aeG
 go_wp2_with (first
  | ((with_reducible refine ff rfl (.tmp 0) rfl e ?hx ?_);(case hx=>rfl);intro w1 aH hb hs
     obtain⟨be,fS⟩:=oQ (w.heap.size);rw[fS] at aH⊢;have kG:=hZ (bl (cs:=e.cells) aH);have HB:=hZ hb
     clear aH hb hs fS)
  |(with_reducible refine lx (.tmp 1) be 0 kG.out IE.out bk ?_)
  |(go_at_call 135;(with_reducible refine(HV.out _ HB.out).mono ?_);rintro r V2 ⟨rfl,hb⟩;have aG:=aw HB hb;clear hb)
  |fail)
 go_ret2
 exact⟨rfl,aG.out⟩
theorem amq (e:af) (hc:e.j6) (w:ae) (hp:dY w) (hv:bE e=true):ax ah 199 #[e.val] w (xV w (kL e)):=by
 obtain⟨hk,ake,ajK,ZU⟩:=acH hv;obtain⟨k,iR⟩:∃k:Nat,e.kind=(k:Int):=⟨e.kind.toNat,by omega⟩;have wT:1≤k∧k≤9:=by omega
 have qm:l_ e=k:=by unfold l_;rw[if_neg (by omega),iR];rfl
 have IE:=hZ (di (e:=e));have HV:ag (∀W,Below w.heap.size w W→ax ah 135 #[e.val] W (cC W (bE e))):=hZ (fun W h=>M6 e hc W (hp.below h));rw[hv] at HV;have Ld:=hZ (fun(n:Int) (h:0≤n∧n≤1000000) W=>M4 n (by omega) (by omega) W);have CF:=hZ (fun W=>LR k wT.1 wT.2 W);have Jd:=ai2 hk;rw[qm] at Jd;obtain⟨L,hL⟩:=oQ (kn k)
 have Q1:(∀f∈L,f≤9)∧L.length≤10:=by
  rw[←hL];obtain rfl|rfl|rfl|rfl|rfl|rfl|rfl|rfl|rfl:k=1∨k=2∨k=3∨k=4∨k=5∨k=6∨k=7∨k=8∨k=9:=by omega
  all_goals decide
 rw[hL] at CF Jd;have uL:=hZ (fun(f:Nat) (h:f∈L) W=>abU e hc f (Q1.1 f h) ZU W);obtain⟨I,hI⟩:=oQ ([e.kind,e.bR,e.day,tP e.gone]);have hh:pA e=lE I:=by unfold pA;rw[hI]
 have L9:∀n∈I,0≤n∧n≤1000000:=by
  rw[←hI];intro n hn;simp at hn;have:0≤tP e.gone∧tP e.gone≤1:=by unfold tP;split<;>omega
  rcases hn with rfl|rfl|rfl|rfl<;>omega
 have HII:=hZ L9;rw[hh] at Jd;unfold xV;rw[Jd];have HT:=hZ (fun W=>akt W I 3);have sa:=hZ (abE hc);have dO:=hZ Q1.2;obtain⟨g,hg⟩:=oQ (e.gone);have YD:I.length=4:=by rw[←hI];rfl
 have qL:=hZ YD;rw[hg] at hI;have fR:=hZ iR;have HG:=hZ hg;clear qm hv hL Q1 ZU hk ake ajK hh L9 Jd wT hc YD iR hg hp;cases g
 all_goals
  simp only[tP,if_true,if_false,Bool.false_eq_true] at hI;have HI:=hZ hI;clear hI
  go_enter ady,aeG
  go_wp2_with (first
   | ((with_reducible refine ff rfl (.tmp 0) rfl e ?hx ?_);(case hx=>rfl);intro w1 aH hb hs
      obtain⟨be,fS⟩:=oQ (w.heap.size);rw[fS] at aH⊢;have HE:=hZ aH;have kG:=hZ (bl (cs:=e.cells) aH);have HB:=hZ hb
      clear aH hb hs fS)
   |(with_reducible refine lx (.tmp 1) be 0 kG.out IE.out bk ?_)
   | (go_at_call 135;(with_reducible refine(HV.out _ HB.out).mono ?_);rintro r V1 ⟨rfl,hb⟩
      have aF:=aw HB hb;have cW:=hZ (HE.out.below hb);have x0:=cW.out.cell (i:=0) rfl;have x2:=cW.out.cell (i:=2) rfl;have x3:=cW.out.cell (i:=3) rfl;have x4:=cW.out.cell (i:=4) (congrArg (fun g=>some (Value.bool g)) HG.out)
      clear hb)
   |fail)
  obtain⟨W2,bb,hW,iQ,aA,hr⟩:=HT.out V1;rw[←HI.out] at hW;simp only[nM,xR] at hW;rw[hW,iQ];have aG:=aw aF aA;have cK:=hZ (cW.out.below aA);have HR:=hZ hr;clear hW iQ aA hr x0 x2 x3 x4
  go_loopw [5,28] (fun v5 v28 wr=> ∃(i:Nat) (out:ByteArray),v28=.int .i64 (i:Int)∧v5=.string out∧i≤4∧out.size≤10*i∧ag (out=⟨(lE (I.take i)).toArray⟩)∧ag (Below W2.heap.size W2 wr)) (fun _ v28 _=>4-(intOf v28).toNat)
  case atStart=>exact⟨0,⟨#[]⟩,rfl,rfl,ei _,aB _,hZ rfl,hZ (bK _ _)⟩
  case round=>
   obtain⟨i,out,rfl,rfl,hi,DL,HO,bA⟩:=hrel
   by_cases ar:i<4
   · obtain⟨s,hs⟩:∃s,I[i]?=some s:=⟨_,bp (by rw[qL.out];exact ar)⟩
     have x1:=HR.out wr bA.out i s hs;have HS:=hZ hs;have aL:=hZ ar;(have wk:aQ.wrap ((i:Int)+1)=((i+1:Nat):Int):=by rw[aS];omega);(have d1:decide ((i:Int)<4)=true:=by simp;omega);(have z1:(0:Int)≤(i:Int):=by omega);(have z2:(i:Int)<4:=by omega);have Cz:=hZ (fun W=>Ld.out s (HII.out s (mP hs)) W);obtain⟨t,ht⟩:∃t:ByteArray,⟨(gg s).toArray⟩=t:=⟨_,rfl⟩;rw[ht] at Cz;have iM:=hZ ht.symm;(have FM:t.size≤10:=by rw[←ht,Ip];exact ug s);have Hn:=hZ (ay DL FM);clear hs ar ht
     go_wp2_with (first
      |(go_at_call 196;(with_reducible refine(Cz.out _).mono ?_);rintro r V3 ⟨rfl,hb⟩;have a_:=aw bA hb;clear hb)
      |fail)
     go_roundw
     case rel=>exact⟨i+1,out++t,rfl,rfl,aL.out,by have:=Hn.out;rw[NO];omega,hZ (by rw[HO.out,iM.out,Io,gV,HS.out];simp[lE]),a_⟩
     case measure=>simp[intOf];have:=aL.out;omega
   · have d1:decide ((i:Int)<4)=false:=by simp;omega
     have gL:ag (out=⟨(lE I).toArray⟩):=hZ (by rw[HO.out,eE (by rw[qL.out];omega)]);have jE:=hZ (cK.out.below bA.out);have a_:=hZ (aG.out.trans (bA.out.mono aG.out.size));have x0:=jE.out.cell (i:=0) (congrArg (fun g=>some (vU .i64 g)) fR.out);have Hn:=hZ (show out.size≤1000 by omega);clear HO bA hi DL
     go_wp2_with (first
      | (go_at_call 52;(with_reducible refine(CF.out _).mono ?_);rintro r V4 ⟨v1,rfl,hv,-,hb⟩
         have Wl:=hZ hv;obtain⟨A1,c1,rfl,-⟩:=hv;have mS:=hZ (jE.out.below hb);have bJ:=aw a_ hb
         clear hb)
      |fail)
     clear x0 d1 ar
     go_loopw [5,12] (fun v5 v12 wr=> ∃(j:Nat) (o2:ByteArray),v12=.int .i64 (j:Int)∧v5=.string o2∧j≤L.length∧o2.size≤1000+300000*j∧ag (o2=⟨(lE I++(L.take j).flatMap (rF e)).toArray⟩)∧ag (Below V4.heap.size V4 wr)) (fun _ v12 _=>L.length-(intOf v12).toNat)
     case atStart=>exact⟨0,out,rfl,rfl,ei _,Hn.out,hZ (by rw[gL.out];simp),hZ (bK _ _)⟩
     case round=>
      obtain⟨j,o2,rfl,rfl,hj,DL,HO,bA⟩:=hrel
      by_cases ar:j<L.length
      · obtain⟨f,hf⟩:∃f,L[j]?=some f:=⟨_,bp ar⟩
        have HF:=hZ hf;have aL:=hZ ar;have CB:=hZ (fun W=>uL.out f (mP hf) W);obtain⟨t,ht⟩:∃t:ByteArray,⟨(rF e f).toArray⟩=t:=⟨_,rfl⟩;unfold Ay at CB;rw[ht] at CB;have iM:=hZ ht.symm;(have FM:t.size≤300000:=by rw[←ht,Ip];exact sa.out f);have gM:=hZ (show o2.size+t.size≤9223372036854775807 by have:=dO.out;omega);have ahu:=hZ (ay DL FM);(have wk:aQ.wrap ((j:Int)+1)=((j+1:Nat):Int):=by rw[aS];have:=dO.out;omega);obtain⟨n,hn⟩:=oQ (L.length);rw[hn] at ar hj⊢;(have d1:decide (j<n)=true:=by simp[ar]);(have z1:(0:Int)≤(j:Int):=by omega);(have z2:(j:Int)<(n:Int):=by omega);have HN:=hZ hn;obtain⟨a,rfl,hcell⟩:=aa2 (Wl.out.below bA.out) hf;have nP:=hZ (mS.out.below bA.out);have bu:aR wr.drew be e∧wr.drew.cell? (a.add j)=some (.int .i64 (f:Int)):=⟨nP.out,hcell⟩;have HC:=hZ hcell;clear hf ht hn hcell DL FM;go_wp2_with fail;refine cJ (fun U=>aR U be e∧U.cell? (a.add j)=some (.int .i64 (f:Int))) bu fun hHeld=>?_;refine tk 0 ?_;refine tl 1 rfl (yx be 0 IE.out bk (fun w hw=>bl hw.1)) ?_;refine bg 2 3 4 5 ?_;refine rE 6 fun K hK=>?_;go_simp
        (with_reducible refine(CB.out _).mono ?_)
        rintro e6 w6 ⟨rfl,hb⟩;have dM:ag (Below V4.heap.size V4 w6):=hZ ((eR bA.out).trans (hb.mono (eR bA.out).size));clear hb;refine kk hK (⟨mS.out.below dM.out,by obtain⟨q,q1,q2⟩:=aa2 (Wl.out.below dM.out) HF.out;injection q1 with q1;subst q1;exact q2⟩) fun hHeld=>?_;clear hK K;refine tl 7 rfl (acS (by rfl) (.tmp 50) (.tmp 56) (by rfl) o2 t (by rfl) (by rfl) gM.out) ?_;refine tk 8 ?_;refine dn ?_;clear hHeld bu;go_wp2_with fail
        go_roundw
        case rel=>exact⟨j+1,o2++t,rfl,rfl,by have:=aL.out;have:=HN.out;omega,by have:=ahu.out;rw[NO];omega,hZ (by rw[HO.out,iM.out,Io,gV,HF.out];simp),dM⟩
        case measure=>simp[intOf];have:=aL.out;have:=HN.out;omega
      · have jf:ag (o2=⟨(lE I++L.flatMap (rF e)).toArray⟩):=hZ (by rw[HO.out,eE (by omega)])
        (have d1:decide (j<L.length)=false:=by simp;omega);go_wp2_with fail
        go_ret2
        rw[jf.out];exact⟨rfl,bJ.out.trans (bA.out.mono bJ.out.size)⟩
theorem F5 (e:af) (hc:e.j6) (w:ae) (hp:dY w):ax ah 199 #[e.val] w (o9 w e):=by
 unfold o9;cases hv:bE e
 · exact amp e hc w hp hv
 · exact amq e hc w hp hv
theorem amy (e f:af) (he:e.j6) (hf:f.j6) (w:ae) (hp:dY w) (hv:bE e=true) (hu:bE f=true):ax ah 137 #[e.val,f.val] w (cC w (dF e f)):=by
 have yY:dF e f=(sameKey e f&&(decide (f.bR<e.bR)||(decide (e.bR=f.bR)&&DX (kL e) (kL f)))):=by unfold dF;rw[hv,hu];rfl
 rw[yY];have HE:ag (∀W,Below w.heap.size w W→ax ah 199 #[e.val] W (xV W (kL e))):=hZ (fun W h=>(F5 e he W (hp.below h)).mono fun _ _ q=>by unfold o9 at q;rw[if_pos hv] at q;exact q);have HF:ag (∀W,Below w.heap.size w W→ax ah 199 #[f.val] W (xV W (kL f))):=hZ (fun W h=>(F5 f hf W (hp.below h)).mono fun _ _ q=>by unfold o9 at q;rw[if_pos hu] at q;exact q);have Ey:=hZ (fun W (h:Below w.heap.size w W)=>Ta e he W (hp.below h));have Ez:=hZ (fun W (h:Below w.heap.size w W)=>Ta f hf W (hp.below h));have IE:=hZ (di (e:=e));have IF:=hZ (di (e:=f));obtain⟨se,tX⟩:=oQ (bs (kL e));obtain⟨sf,zc⟩:=oQ (bs (kL f));obtain⟨ke,yR⟩:=oQ (bs (aI e));obtain⟨kf,yS⟩:=oQ (bs (aI f));have hG:DX (kL e) (kL f)= !(Op.bytesLess se.toList sf.toList||se.toList==sf.toList):=by unfold DX;rw[tX,zc]
 have hS:sameKey e f=(ke.toList==kf.toList):=by unfold sameKey;rw[yR,yS]
 rw[hG,hS];unfold bs at tX zc yR yS;have jh:=hZ tX;have PF:=hZ zc;have O9:=hZ yR;have O':=hZ yS;clear he hf hp hv hu yY hG hS tX zc yR yS
 go_enter adn,aex
 go_wp2_with (first
  | ((with_reducible refine ff rfl (.tmp 0) rfl e ?hx ?_);(case hx=>rfl);intro w1 aH aq aP
     have cW:=hZ aH;have aF:=hZ aq;obtain⟨b1,oL⟩:=oQ (w.heap.size);have fF:=hZ oL;have Cp:ag (aR w1 b1 e):=hZ (by rw[←oL];exact aH);rw[oL]
     clear aH aq aP oL)
  | ((with_reducible refine ff rfl (.tmp 1) rfl f ?hx ?_);(case hx=>rfl);intro w2 fx aA eO
     have aG:=aw aF aA;have cK:=hZ (Cp.out.below aA);obtain⟨b2,qi⟩:=oQ (w1.heap.size);have fV:ag (aR w2 b2 f):=hZ (by rw[←qi];exact fx);rw[qi];have kG:=hZ (bl (cs:=e.cells) cK.out)
     clear fx aA eO qi)
  |(with_reducible refine lx (.tmp 2) b1 0 kG.out IE.out bk ?_)
  | (go_at_call 199;(with_reducible refine(HE.out _ aG.out).mono ?_);rintro e3 w3 ⟨rfl,aK⟩
     have a_:=aw aG aK;have jE:=hZ (cK.out.below aK);have j8:=hZ (fV.out.below aK);have CJ:=hZ (bl (cs:=f.cells) j8.out);rw[jh.out]
     clear aK)
  |(with_reducible refine lx (.tmp 3) b2 0 CJ.out IF.out bk ?_)
  | (go_at_call 199;(with_reducible refine(HF.out _ a_.out).mono ?_);rintro e4 w4 ⟨rfl,cQ⟩
     have bJ:=aw a_ cQ;have mS:=hZ (jE.out.below cQ);have j9:=hZ (j8.out.below cQ);rw[PF.out]
     clear cQ)
  |fail)
 have bu:aR w4.drew b1 e∧aR w4.drew b2 f:=⟨mS.out,j9.out⟩;refine cJ (fun U=>aR U b1 e∧aR U b2 f) bu fun hHeld=>?_;refine bg 0 1 2 3 ?_;refine dr 4 5 6 ?_;refine tl 7 rfl (yx b1 0 IE.out bk (fun w hw=>bl hw.1)) ?_;refine tl 9 rfl (yx b2 0 IF.out bk (fun w hw=>bl hw.2)) ?_;refine rE 8 fun K hK=>?_;go_simp;have rS:ag (Below w.heap.size w w4.drew):=hZ (eR bJ.out)
 (with_reducible refine(Ey.out _ rS.out).mono ?_)
 rintro e5 w5 ⟨rfl,cn⟩;have cT:=hZ (rS.out.trans (cn.mono rS.out.size));have nP:=hZ (bu.1.below cn);have lK:=hZ (bu.2.below cn);rw[O9.out];clear cn;refine kk hK (⟨nP.out,lK.out⟩) fun hHeld=>?_;clear hK K;refine rE 10 fun K hK=>?_;go_simp
 (with_reducible refine(Ez.out _ cT.out).mono ?_)
 rintro e6 w6 ⟨rfl,eB⟩;have dM:=aw cT eB;have pT:=hZ (nP.out.below eB);have Ah:=hZ (lK.out.below eB);rw[O'.out];clear eB;refine kk hK (⟨pT.out,Ah.out⟩) fun hHeld=>?_;clear hK K;refine eC 11 12 ?_;refine dn ?_;have v1:=pT.out.cell (i:=2) rfl;have v2:=Ah.out.cell (i:=2) rfl;clear hHeld;obtain⟨sk,JH⟩:=oQ ((ke.toList==kf.toList));obtain⟨c1,fX⟩:=oQ (decide (f.bR<e.bR));obtain⟨c2,eo⟩:=oQ (decide (e.bR=f.bR))
 cases sk<;>cases c1<;>cases c2<;>
 · rw[JH]
   have fh:(e.bR==f.bR)=decide (e.bR=f.bR):=rfl;rw[eo] at fh;go_wp2;go_ret;refine⟨?_,dM.out⟩;rw[JH,fX,eo]
   first|rfl|simp
theorem abT (e f:af) (he:e.j6) (hf:f.j6) (w:ae) (hp:dY w) (ve vf:Bool) (hv:bE e=ve) (hu:bE f=vf) (hb:(ve&&vf)=false):ax ah 137 #[e.val,f.val] w (cC w false):=by
 obtain⟨se,ce,HE⟩:∃(se:ByteArray) (ce:Int),ag (∀W,Below w.heap.size w W→ax ah 199 #[e.val] W (fun r w'=>r=.returned (.tuple #[.string se,.int .i64 ce])∧Below W.heap.size W w'))∧ag ((ce !=0)= !ve):=by
  cases ve
  · exact⟨⟨#[]⟩,180,hZ (fun W h=>(F5 e he W (hp.below h)).mono fun _ _ q=>by unfold o9 at q;rw[if_neg (by rw[hv];decide)] at q;exact q),hZ rfl⟩
  · exact⟨_,0,hZ (fun W h=>(F5 e he W (hp.below h)).mono fun _ _ q=>by unfold o9 at q;rw[if_pos hv] at q;exact q),hZ rfl⟩
 obtain⟨sf,cf,HF⟩:∃(sf:ByteArray) (cf:Int),ag (∀W,Below w.heap.size w W→ax ah 199 #[f.val] W (fun r w'=>r=.returned (.tuple #[.string sf,.int .i64 cf])∧Below W.heap.size W w'))∧ag ((cf !=0)= !vf):=by
  cases vf
  · exact⟨⟨#[]⟩,180,hZ (fun W h=>(F5 f hf W (hp.below h)).mono fun _ _ q=>by unfold o9 at q;rw[if_neg (by rw[hu];decide)] at q;exact q),hZ rfl⟩
  · exact⟨_,0,hZ (fun W h=>(F5 f hf W (hp.below h)).mono fun _ _ q=>by unfold o9 at q;rw[if_pos hu] at q;exact q),hZ rfl⟩
 obtain⟨HE,hce⟩:=HE;obtain⟨HF,yM⟩:=HF;have IE:=hZ (di (e:=e));have IF:=hZ (di (e:=f));have hce:=hce.out;have yM:=yM.out
 have Dm:(ce !=0)=true∨((ce !=0)=false∧(cf !=0)=true):=by
  rw[hce,yM];cases ve<;>cases vf<;>simp at hb⊢
 have OU:=hZ Dm;clear he hf hp hv hu hb hce yM Dm
 go_enter adn,aex
 go_wp2_with (first
  | ((with_reducible refine ff rfl (.tmp 0) rfl e ?hx ?_);(case hx=>rfl);intro w1 aH aq aP
     have aF:=hZ aq;obtain⟨b1,oL⟩:=oQ (w.heap.size);have Cp:ag (aR w1 b1 e):=hZ (by rw[←oL];exact aH);rw[oL]
     clear aH aq aP oL)
  | ((with_reducible refine ff rfl (.tmp 1) rfl f ?hx ?_);(case hx=>rfl);intro w2 fx aA eO
     have aG:=aw aF aA;have cK:=hZ (Cp.out.below aA);obtain⟨b2,qi⟩:=oQ (w1.heap.size);have fV:ag (aR w2 b2 f):=hZ (by rw[←qi];exact fx);rw[qi];have kG:=hZ (bl (cs:=e.cells) cK.out)
     clear fx aA eO qi)
  |(with_reducible refine lx (.tmp 2) b1 0 kG.out IE.out bk ?_)
  | (go_at_call 199;(with_reducible refine(HE.out _ aG.out).mono ?_);rintro e3 w3 ⟨rfl,aK⟩
     have a_:=aw aG aK;have j8:=hZ (fV.out.below aK);have CJ:=hZ (bl (cs:=f.cells) j8.out)
     clear aK)
  |(with_reducible refine lx (.tmp 3) b2 0 CJ.out IF.out bk ?_)
  | (go_at_call 199;(with_reducible refine(HF.out _ a_.out).mono ?_);rintro e4 w4 ⟨rfl,cQ⟩
     have bJ:=aw a_ cQ
     clear cQ)
  |fail)
 have rS:ag (Below w.heap.size w w4.drew):=hZ (eR bJ.out);have bu:True:=trivial;rcases OU.out with z1|⟨z1,z2⟩
 ·
  refine cJ (fun _=>True) bu fun hHeld=>?_;refine dr 0 1 2 ?_;refine tn 3 ?_;refine tn 4 ?_;refine eC 5 6 ?_;refine tn 7 ?_;refine tn 8 ?_;refine tn 9 ?_;refine tn 10 ?_;refine tn 11 ?_;refine tk 12 ?_;refine dn ?_;go_wp2;go_ret;exact⟨rfl,rS.out⟩
 ·
  refine cJ (fun _=>True) bu fun hHeld=>?_;refine bg 0 1 2 3 ?_;refine dr 4 5 6 ?_;refine tn 7 ?_;refine tn 8 ?_;refine tn 9 ?_;refine tn 10 ?_;refine tn 11 ?_;refine tk 12 ?_;refine dn ?_;go_wp2;go_ret;exact⟨rfl,rS.out⟩
theorem amz (e f:af) (he:e.j6) (hf:f.j6) (w:ae) (hp:dY w):ax ah 137 #[e.val,f.val] w (cC w (dF e f)):=by
 cases hv:bE e with
 | false=>
   (have:dF e f=false:=by unfold dF;rw[hv];rfl);rw[this]
   exact abT e f he hf w hp false _ hv rfl rfl
 | true=>
   cases hu:bE f with
   | false=>
     (have:dF e f=false:=by unfold dF;rw[hv,hu];rfl);rw[this]
     exact abT e f he hf w hp true false hv hu rfl
   |true=>exact amy e f he hf w hp hv hu
end Go.Proofs.YteeifhlhpiimoaaGreatDoor
end
section
namespace Go.Proofs.YteeifhlhpiimoaaGreatDoor
open Go Go.RowKit Go.Shelf
attribute [local go_sem] Oper.semAt_some
def nH (e x:af):af:=if aI x=aI e∧dF e x=true then e else x
theorem anX (e x:af):aI (nH e x)=aI x:=by
 unfold nH
 split
 · rename_i h;exact h.1.symm
 · rfl
theorem an6 {d:Int} {acc:List af} {e:af} (hk:ib aI acc) (ho:eT d e=true):
 eQ (eT d) aI dF acc e=if (acc.any fun x=>decide (aI x=aI e)) then acc.map (nH e) else acc.map (nH e)++[e]:=by
 unfold eQ;rw[if_pos ho]
 cases hf:acc.find? (fun x=>decide (aI x=aI e)) with
 | none=>
   have h1:=LV hf;have h2:(acc.any fun x=>decide (aI x=aI e))=false:=List.any_eq_false.2 fun x hx=>by simpa using h1 x hx
   have h3:acc.map (nH e)=acc:=by
    (have:∀x∈acc,nH e x=x:=fun x hx=>by unfold nH;rw[if_neg fun q=>h1 x hx q.1]);rw[Vp this];simp
   rw[h2,h3];simp
 | some old=>
   obtain⟨h1,h2⟩:=LU hf;have h3:(acc.any fun x=>decide (aI x=aI e))=true:=List.any_eq_true.2 ⟨old,h1,by simp[h2]⟩;rw[h3,if_pos rfl];simp only;have h4:∀x∈acc,aI x=aI e→x=old:=fun x hx q=>hk.one hx h1 (q.trans h2.symm)
   by_cases hp:dF e old=true
   · rw[if_pos hp]
     refine Vp fun x hx=>?_;unfold nH
     by_cases q:aI x=aI e
     · rw[if_pos q,if_pos ⟨q,by rw[h4 x hx q];exact hp⟩]
     · rw[if_neg q,if_neg fun z=>q z.1]
   · rw[if_neg hp]
     have:∀x∈acc,nH e x=x:=fun x hx=>by
      unfold nH;rw[if_neg fun z=>hp (by rw[←h4 x hx z.1];exact z.2)]
     rw[Vp this];simp
theorem acx {d:Int} {acc:List af} {e:af} (ho:eT d e=false):eQ (eT d) aI dF acc e=acc:=by unfold eQ;rw[if_neg (by rw[ho];decide)]
theorem akP (d:Int) (l:List af):ib aI (l.foldl (eQ (eT d) aI dF) []):=Yb (ok:=eT d) (prev:=dF) l
theorem ajm {d:Int} {l:List af} {i:Nat} {e:af} (he:l[i]?=some e):(l.take (i+1)).foldl (eQ (eT d) aI dF) []=eQ (eT d) aI dF ((l.take i).foldl (eQ (eT d) aI dF) []) e:=by
 rw[gV,he,List.foldl_append];rfl
def iI (e:af) (acc:List af) (k:Nat):List af:=(acc.take k).map (nH e)++acc.drop k
theorem acb {e:af} {acc:List af} {k:Nat} {x:af} (hx:acc[k]?=some x):(iI e acc k)[k]?=some x:=by
 have hk:=(dL.1 hx).1;unfold iI;rw[List.getElem?_append_right (by simp;omega),rP,gD,Cf (by omega),KS,List.getElem?_drop];simpa using hx
theorem ace {e:af} {acc:List af} {k:Nat} {x:af} (hx:acc[k]?=some x):iI e acc (k+1)=(iI e acc k).set k (nH e x):=by
 obtain⟨hk,he⟩:=dL.1 hx;unfold iI;rw[gV,hx,List.drop_eq_getElem_cons hk,he];simp only[Option.toList_some,Ow,nM,xR];rw[List.set_append,if_neg (by simp;omega)];simp only[rP,gD,Cf (Nat.le_of_lt hk),KS,td,List.append_assoc,List.cons_append,List.nil_append]
theorem acf {e:af} {acc:List af} {k:Nat} {x:af} (hx:acc[k]?=some x) (h:nH e x=x):iI e acc (k+1)=iI e acc k:=by
 rw[ace hx,h];have hs:=acb (e:=e) hx;obtain⟨h1,h2⟩:=dL.1 hs;rw[←h2];simp
theorem acd (e:af) (acc:List af) (k:Nat):(iI e acc k).length=acc.length:=by
 unfold iI;rw[eV,rP,gD,List.length_drop];omega
theorem ane (e:af) (acc:List af):iI e acc acc.length=acc.map (nH e):=by unfold iI;simp
theorem ahT {acc:List af} {k:Nat} {x:af} (f:af→Bool) (hx:acc[k]?=some x):(acc.take (k+1)).any f=((acc.take k).any f||f x):=by rw[gV,hx];simp
def sv (l:List UInt8):ai:=.string ⟨l.toArray⟩
theorem aiZ:gi ah 180 9 1 16:=gi.mk' (z:=.string ⟨#[]⟩) afl (by kernel_rfl) rfl (by decide)
theorem am3 (w:ae) (l:List UInt8):(Instr.buildSlice 180 1 #[(0,.string ⟨l.toArray⟩)]).run ah w=.ok (.slice (some ⟨w.heap.size,0,none⟩) 1 1) (w.alloc (.cells (one sv l).toArray 9)):=by
 obtain⟨i,h1,h2,h3,h4⟩:=info_parts (show(ah.info? 9).map (fun i=>(i.zero,i.size,i.bytes))=some (some (.string ⟨#[]⟩),1,16) by kernel_rfl);refine run_buildSlice w 180 9 1 _ _ i _ afl h1 h2 (by rw[h3];decide) (by rw[h3];decide) ?_;rw[h3]
 kernel_rfl
end Go.Proofs.YteeifhlhpiimoaaGreatDoor
end
