/-
  Contracts of the laws' helper short and of the reference's Number; the like for what stands beside it. Conditions: each contract's own.
-/
import Derived.Test.YteeifhlhpiimoaaGreatDoorXAq
import Derived.Test.YteeifhlhpiimoaaGreatDoorXAa
import Derived.Test.YteeifhlhpiimoaaGreatDoorXAn
import Derived.Deep.CutRange
import Derived.Test.YteeifhlhpiimoaaGreatDoorXAj
set_option maxHeartbeats 8000000
set_option maxRecDepth 100000
open And renaming intro→ay
open ByteArray renaming size_extract→Uc
open Go renaming Addr→bI,Calls→ax,Oper→aZ,Operand→ef,TypeId→bF,Value→ai,World→ae,bodyPost_ret→et,bytes→iw,heap_setCell_same→aga,maxLen→cH,run_sliceBound→agh,run_underlying→U',typeInfo→U_,wpList→dT,wpList_plain→Ve
open Go.Act renaming put→sV
open Go.Addr renaming add→jy
open Go.Instr renaming slice→acZ,sliceAt→NR,sliceBounds→ac0
open Go.Proofs.Tryz renaming func198→NY,func86→ad9,ntmps198→N8,ntmps86→aeU,prog→ah,underlying29→pM,underlying33→bk,underlying36→je
open Go.Region renaming wanted→eD
open Go.Result renaming andThen_ok→sX
open Go.RowKit renaming Hid→ag
open Go.RowKit.Below renaming drew→eR,heap_setCell→fA,refl→bK,setCell→KF
open Go.Sem renaming run_bind→sY
open Go.World renaming alloc_heap_new→bG,cell?_of_block→Eh,rangeAt→k7
open List renaming any_eq_false→agA,drop_eq_getElem_cons→pN,drop_eq_nil_of_le→ux,drop_sublist→agB,filter_append→s7,filter_eq_nil_iff→agG,getElem?_eq_getElem→bp,getElem?_eq_none→jz,getElem?_eq_some_iff→dL,length_append→eV,length_drop→pP,length_pos_iff→Ov,length_take→gD,mem_append→pR,mem_append_left→agT,mem_append_right→agU,mem_cons→dG,pairwise_cons→Cc,setIfInBounds_toArray→ta,set_cons_succ→tc,set_cons_zero→td,take_add_one→gV,take_append_drop→tg,take_of_length_le→eE
open Nat renaming le_of_eq→eJ,le_refl→aB,le_trans→aV,lt_or_ge→fB,mul_le_mul→Vr,zero_add→uA,zero_le→ei
section
namespace Go.Proofs.YteeifhlhpiimoaaGreatDoor
open Go Go.RowKit Go.Shelf
attribute [local go_sem] Oper.semAt_some
theorem abo (e:af) (w:ae):ax ah 21 #[e.val] w fun r w'=>r=.returned (.int .i64 (cD e))∧Below w.heap.size w w':=by
 obtain⟨x,hx⟩:=oQ (cD e)
 have akf:((e.kind==2)=true∧e.item=x)∨((e.kind==2)=false∧(e.kind==8)=true∧e.item=x)∨((e.kind==2)=false∧(e.kind==8)=false∧(e.kind==6)=true∧e.item=x)∨((e.kind==2)=false∧(e.kind==8)=false∧(e.kind==6)=false∧e.id=x):=by
  unfold cD at hx
  by_cases h2:e.kind=2
  ·
   left;simpa[h2] using hx
  ·
   by_cases h8:e.kind=8
   ·
    right;left;simpa[h8] using hx
   ·
    by_cases h6:e.kind=6
    ·
     right;right;left;simpa[h6] using hx
    ·
     right;right;right;simpa[h2,h8,h6] using hx
 rw[hx];clear hx;rcases akf with⟨h2,hx⟩|⟨h2,h8,hx⟩|⟨h2,h8,h6,hx⟩|⟨h2,h8,h6,hx⟩
 all_goals
  have HX:=hZ hx;clear hx
  go_enter Tryz.func21,Tryz.ntmps21
  go_wp2_with (first
   | ((with_reducible refine ff rfl (.tmp 0) rfl e ?hx ?_);(case hx=>rfl);intro w1 aH aq aP
      have x0:=aH.cell (i:=0) rfl;have x1:=aH.cell (i:=1) rfl;have x8:=aH.cell (i:=8) rfl;have aF:=hZ aq
      clear aH aq aP)
   |fail)
  rw[HX.out];go_ret;exact⟨rfl,aF.out⟩
theorem acj (n d:ByteArray) (w:ae):ax ah 66 #[.agg #[.string n,.string d]] w fun r w'=> ∃n' d':ByteArray,r=.returned (.agg #[.string n',.string d'])∧n'.size≤45∧d'.size≤45∧Below w.heap.size w w':=by
 obtain⟨m,hm⟩:∃m:Nat,min n.size 45=m:=⟨_,rfl⟩;obtain⟨k,hk⟩:∃k:Nat,min d.size 45=k:=⟨_,rfl⟩;have e1:min (n.size:Int) 45=(m:Int):=by omega
 have e2:min (d.size:Int) 45=(k:Int):=by omega
 have z1:m≤n.size:=by omega
 have z2:k≤d.size:=by omega
 go_enter Tryz.func66,Tryz.ntmps66
 go_wp2_with fail;have dB:=hZ (At.start w);obtain⟨b1,w1,q1,q2,q3,hf,aP⟩:=dB.out.eX (.cells #[.string n,.string d] 29);obtain⟨b2,w2,r1,r2,r3,eZ,eO⟩:=hf.eX (.cells #[.string ⟨#[]⟩,.string ⟨#[]⟩] 29);rw[aP] at r1;rw[q1,q2,r1,r2];have HF:ag (At w w2.drew _):=hZ eZ.drew;have eu:ag (w.heap.size≤b2):=hZ r3;have x0:w2.cell? ⟨b1,0,none⟩=some (.string n):=eZ.cell (b:=b1) (cs:=#[.string n,.string d]) (t:=29) (i:=0) (by simp) rfl;have x1:w2.cell? ⟨b1,1,none⟩=some (.string d):=eZ.cell (b:=b1) (cs:=#[.string n,.string d]) (t:=29) (i:=1) (by simp) rfl;have y0:=eZ.cell (b:=b2) (cs:=#[.string ⟨#[]⟩,.string ⟨#[]⟩]) (t:=29) (i:=0) (by simp) rfl;have y1:=eZ.cell (b:=b2) (cs:=#[.string ⟨#[]⟩,.string ⟨#[]⟩]) (t:=29) (i:=1) (by simp) rfl;have y2:=cY (eZ.has (b2,.cells #[.string ⟨#[]⟩,.string ⟨#[]⟩] 29 (0,0)) (by simp)) 0;have y3:=cY (eZ.has (b2,.cells #[.string ⟨#[]⟩,.string ⟨#[]⟩] 29 (0,0)) (by simp)) 1;have bf:b1≠b2:=by omega
 have O_:ag (∀v u,((w2.setCell ⟨b2,0,none⟩ v).setCell ⟨b2,1,none⟩ u).drew.cell? ⟨b1,0,none⟩=some (.string n)∧((w2.setCell ⟨b2,0,none⟩ v).setCell ⟨b2,1,none⟩ u).drew.cell? ⟨b1,1,none⟩=some (.string d)):=hZ fun v u=>by
  have hb:((w2.setCell ⟨b2,0,none⟩ v).setCell ⟨b2,1,none⟩ u).drew.heap[b1]?=w2.heap[b1]?:=(fA _ _ _ _ bf).trans (fA _ _ _ _ bf);exact⟨(Eh (w:=w2) (a:=⟨b1,0,none⟩) hb).trans x0,(Eh (w:=w2) (a:=⟨b1,1,none⟩) hb).trans x1⟩
 have tB:ag (∀v u,k7 ((w2.setCell ⟨b2,0,none⟩ v).setCell ⟨b2,1,none⟩ u).drew b2 0 [v,u]):=hZ fun v u=>by
  have h2:w2.heap[b2]?=some (.cells #[.string ⟨#[]⟩,.string ⟨#[]⟩] 29 (0,0)):=eZ.has (b2,.cells #[.string ⟨#[]⟩,.string ⟨#[]⟩] 29 (0,0)) (by simp);have h3:=aga w2 b2 0 _ _ v h2;have h4:=aga (w2.setCell ⟨b2,0,none⟩ v) b2 1 _ _ u h3;exact bl (cs:=[v,u]) h4
 have iQ:=eZ.below;have h2:=eZ.has (b2,.cells #[.string ⟨#[]⟩,.string ⟨#[]⟩] 29 (0,0)) (by simp);have aG:=hZ iQ;have H2:=hZ h2;clear dB q1 q2 q3 hf aP r1 r2 r3 eZ eO bf iQ h2
 go_region_held3 (fun U=>U.cell? ⟨b1,0,none⟩=some (.string n)∧U.cell? ⟨b1,1,none⟩=some (.string d)) (first|exact⟨x0,x1⟩|exact O_.out _ _|go_keep) (fail)
 all_goals
  go_wp2_with fail;refine et (vM rfl _ _ b2 [.string (n.extract 0 m),.string (d.extract 0 k)] _ rfl (tB.out _ _) pM rfl (by kernel_rfl)) rfl ?_;exact⟨_,_,rfl,by rw[Uc];omega,by rw[Uc];omega,eR (KF (p:=⟨b2,1,none⟩) (KF (p:=⟨b2,0,none⟩) aG.out eu.out _) eu.out _)⟩
structure af.j6 (e:af):Prop where
 ln:e.ln.size≤45
 ld:e.ld.size≤45
 hn:e.hn.size≤45
 hd:e.hd.size≤45
 rn:e.rn.size≤45
 rd:e.rd.size≤45
 text:e.text.size≤45
theorem af.j6.TR {e:af} (h:e.j6):e.oE:=⟨by have:=h.ln;omega,by have:=h.ld;omega,by have:=h.hn;omega,by have:=h.hd;omega,by have:=h.rn;omega,by have:=h.rd;omega,by have:=h.text;omega⟩
def kq (e:af) (i:Nat):Int:=[e.id,e.az,e.bj,e.bQ,e.item,e.dj,e.iJ].getD i 0
def ahJ (w:ae) (n:Int) (e:Ending) (w':ae):Prop:=e=.returned (.int .i64 n)∧Below w.heap.size w w'
theorem abQ (e:af) (i:Nat) (hi:i<7) (w:ae):ax ah 190 #[e.val,.int .i64 (i:Int)] w (ahJ w (kq e i)):=by
 obtain rfl|rfl|rfl|rfl|rfl|rfl|rfl:i=0∨i=1∨i=2∨i=3∨i=4∨i=5∨i=6:=by omega
 all_goals
  go_enter Tryz.func190,Tryz.ntmps190
  go_wp2_with (first
   | ((with_reducible refine ff rfl (.tmp 0) rfl e ?hx ?_);(case hx=>rfl);intro w1 aH hb hs
      have x1:=aH.cell (i:=1) rfl;have x5:=aH.cell (i:=5) rfl;have x6:=aH.cell (i:=6) rfl;have x7:=aH.cell (i:=7) rfl;have x8:=aH.cell (i:=8) rfl;have x9:=aH.cell (i:=9) rfl;have x10:=aH.cell (i:=10) rfl;have HB:=hZ hb
      clear aH hb hs)
   |fail)
  go_ret;exact⟨rfl,HB.out.trans ((aY _ _).mono HB.out.size)⟩
theorem amv (k:Int) (w:ae):ax ah 198 #[.int .i64 k] w fun e w'=>e=.returned (.int .i64 (if k=2∨k=6∨k=8 then 4 else 0))∧w'=w:=by
 by_cases h2:k=2
 · subst h2;go_enter NY,N8;go_wp2_with fail;go_ret;exact⟨rfl,rfl⟩
 by_cases h6:k=6
 · subst h6;go_enter NY,N8;go_wp2_with fail;go_ret;exact⟨rfl,rfl⟩
 by_cases h8:k=8
 · subst h8;go_enter NY,N8;go_wp2_with fail;go_ret;exact⟨rfl,rfl⟩
 rw[if_neg (by omega)]
 go_enter NY,N8
 go_wp2_with fail;go_ret;exact⟨rfl,rfl⟩
theorem abR (l:List Nat) (v:ai) (x:Nat) (w:ae) (hv:aX w v l) (hm:l.length≤1000):ax ah 191 #[v,.int .i64 (x:Int)] w fun e w'=>e=.returned (.bool (l.any fun y=>decide (y=x)))∧w'=w:=by
 obtain⟨A,c,rfl,-,-,-,ha⟩:=hv;have HA:=hZ ha;obtain⟨n,hn⟩:=oQ (l.length);have HN:=hZ (ay hn hm);rw[hn];clear ha hn hm
 go_enter Tryz.func191,Tryz.ntmps191
 go_wp2_with fail
 go_loopw [5] (fun v wr=> ∃i:Nat,v=.int .i64 (i:Int)∧i≤n∧ag ((l.take i).any (fun y=>decide (y=x))=false)∧ag (wr=w)) (fun v _=>n-(intOf v).toNat)
 case atStart=>exact⟨0,rfl,ei _,hZ rfl,by first|exact hZ rfl|exact hZ trivial⟩
 case round=>
  obtain⟨i,rfl,hi,HT,HW⟩:=hrel;obtain rfl:=HW.out
  by_cases ar:i<n
  · obtain⟨y,hy⟩:∃y,l[i]?=some y:=⟨_,bp (by have:=HN.out.1;omega)⟩
    obtain⟨a,rfl,-,hc⟩:=HA.out i y hy;have eo:wr.cell? (a.add i)=some (.int .i64 (y:Int)):=hc;have HY:=hZ hy;have aL:=hZ ar;(have d1:decide (i<n)=true:=by simp[ar]);(have z1:(0:Int)≤(i:Int):=by omega);(have z2:(i:Int)<(n:Int):=by omega);have wk:=nx ⟨ar,show n≤1000000 by have:=HN.out;omega⟩;clear hc hy ar
    by_cases hq:y=x
    · subst hq
      go_wp2_with fail;go_ret;rw[LJ (l:=l) HY.out (by simp)];exact⟨rfl,rfl⟩
    · have dq:((y:Int)==(x:Int))=false:=by simp;omega
      go_wp2_with fail
      go_roundw
      case rel=>exact⟨i+1,rfl,aL.out,hZ (Ij HY.out HT.out (by simp[hq])),hZ trivial⟩
      case measure=>simp[intOf];have:=aL.out;omega
  · have d1:decide (i<n)=false:=by simp;omega
    have dD:ag (l.any (fun y=>decide (y=x))=false):=hZ (by have:=HT.out;rwa[eE (by have:=HN.out.1;omega)] at this);go_wp2_with fail;go_ret;rw[dD.out];exact⟨rfl,rfl⟩
theorem uBe {U V W:ae} (h:ag (Below U.heap.size U V)) (hb:Below V.heap.size V W):ag (Below U.heap.size U W):=hZ (h.out.trans (hb.mono h.out.size))
theorem F' (a b:ByteArray) {U V:ae} (h:ag (Below U.heap.size U V)):ax ah 66 #[.agg #[.string a,.string b]] V fun r V'=> ∃n d:ByteArray,r=.returned (.agg #[.string n,.string d])∧ag (n.size≤45∧d.size≤45)∧ag (Below U.heap.size U V'):=
 (acj a b V).mono fun _ _ ⟨n,d,h1,h2,h3,h4⟩=>⟨n,d,h1,hZ ⟨h2,h3⟩,uBe h h4⟩
theorem aob {W:ae} {b:Nat} {e:af} (h:aR W b e) (i n:Nat) (cO:i+n≤18):W.there b i n:=fun j hj=>by
 obtain⟨v,hv⟩:∃v,e.cells.toArray[i+j]?=some v:=⟨_,Array.getElem?_eq_getElem (by show i+j<18;omega)⟩;exact⟨by rw[aJ h hv];rfl,cY h _⟩
theorem Kf {ops:Array aZ} {o:aZ} {a:Act} {V:ae} {K:Act→ae→Prop} {Q:Exit→Act→ae→Prop} {D:Prop} (ct:o.guard=none) (x:ef) (ho:o.op=.load 29 x) (b i:Nat) (hx:a.eval x=.pointer (some ⟨b,i,none⟩)) (c d:ByteArray) (hr:V.rangeAt b i [.string c,.string d]) (hk:K (a.put o.dst (.agg #[.string c,.string d])) V):if eD o (yielded ops a.tmps)=true then Oper.wp ah o a V K Q else D:=
 mf (S:=fun U=>U.rangeAt b i [.string c,.string d]) (yieldsIf_load_mid (by simp[eD,ct]) 29 x ho b i hx [.string c,.string d] _ (fun w hw=>hw) pM rfl (by kernel_rfl)) ct hr hk
theorem S3 {U V:ae} {b:Nat} {e:af} (h:ag (∀W,Below U.heap.size U W→aR W b e)) (hq:ag (Below U.heap.size U V)) (a1 b1 c1 d1:ByteArray):ag (aR (V.setCells b 11 [.string a1,.string b1,.string c1,.string d1]) b {e with ln:=a1,ld:=b1,hn:=c1,hd:=d1}):=
 hZ (((((h.out _ hq.out).uk (e':={e with ln:=a1}) 11 (.string a1) rfl).uk (e':={e with ln:=a1,ld:=b1}) 12 (.string b1) rfl).uk (e':={e with ln:=a1,ld:=b1,hn:=c1}) 13 (.string c1) rfl).uk 14 (.string d1) rfl)
theorem Tz {ops:Array aZ} {o:aZ} {a:Act} {V:ae} {K:Act→ae→Prop} {Q:Exit→Act→ae→Prop} {D:Prop} (ct:o.guard=none) (x y:ef) (ho:o.op=.store 31 x y) (hd:o.dst=none) (b:Nat) (s1 s2 s3 s4:ByteArray) {e:af}
 (hx:a.eval x=.pointer (some ⟨b,11,none⟩)) (hy:a.eval y=.agg #[.string s1,.string s2,.string s3,.string s4]) (he:aR V b e) (hk:K a (V.setCells b 11 [.string s1,.string s2,.string s3,.string s4])):
 if eD o (yielded ops a.tmps)=true then Oper.wp ah o a V K Q else D:=by
 rw[if_pos (by simp[eD,ct])];refine wp_store_mid 31 x y ho b 11 #[.string s1,.string s2,.string s3,.string s4] hx hy (aob he 11 4 (by decide)) (by kernel_rfl) (by simp[Value.oneCell']) ?_;rw[hd];exact hk
theorem ao9 {P:Program} {ops:Array aZ} {rest:List aZ} {op:aZ} {a:Act} {w:ae} {Q:Exit→Act→ae→Prop} (ct:op.guard=none) (ty:bF) (x:ef) (ho:op.op=.load ty x)
 (q:bI) (hx:a.eval x=.pointer (some q)) (cs:List ai) (d:TypeDesc) (hc:∀j v,cs[j]?=some v→w.cell? (q.add j)=some v)
 (hu:P.underlying ty=some d) (hd:d.isRow=true) (hi:(P.info? ty).map (·.size)=some cs.length)
 (h:dT P ops Q rest (a.put op.dst (.agg cs.toArray)) w):dT P ops Q (op::rest) a w:=
 Ve ct fun _ hK=>by
  have hl:(loadCells q cs.length).run P w=.ok cs.toArray w:=run_loadCells_list (P:=P) w q cs hc
  have hr:(loadVar ty q).run P w=.ok (.agg cs.toArray) w:=by
   cases hq:P.info? ty with
   |none=>simp[hq] at hi
   | some i=>
     have hs:i.size=cs.length:=by simpa[hq] using hi
     have ajG:(isAgg ty).run P w=.ok true w:=by
      unfold isAgg;rw[sY,U' hu w];cases d<;>simp_all
     simp[loadVar,sY,ajG,sizeOf,U_,hq,hs,hl]
  unfold Oper.wp execOp;simp only[ho,hx,Instr.loadAt,Instr.sureAddr,sY,Sem.run_pure,sX,hr];exact hK _ _ h
theorem tj.up {α:Type} {w W:ae} {A:Option bI} {size:Nat} {f:α→List ai} {l:List α} (h:tj w w.heap.size A size f l) (hb:Below w.heap.size w W):tj W W.heap.size A size f l:=fun i x hx=>by
 obtain⟨a,h1,h2,h3⟩:=h.below hb i x hx;exact⟨a,h1,Nat.lt_of_lt_of_le h2 hb.size,h3⟩
theorem aje (l:List af) (A:Option bI) (n c:Nat) (hn:l.length=n∧n≤cH) (w:ae) (hA:tj w w.heap.size A 18 af.cells l):ax ah 19 #[.slice A n c] w fun r w'=> ∃(m:List af) (v:ai),r=.returned v∧((∀f∈m,f.j6)∧m.length≤30)∧OL w' w.heap.size 33 18 af.cells v m∧Below w.heap.size w w':=by
 have IE:=fun e:af=>hZ (di (e:=e));have IS:=fun e:af=>hZ (show(ah.info? 33).map (·.size)=some e.cells.toArray.size from di (e:=e));have HA:=hZ hA;have HN:=hZ hn;clear hA hn
 go_enter Tryz.func19,Tryz.ntmps19
 go_wp2_with fail
 go_loopw [3,4] (fun ov iv wr=> ∃(v3:ai) (i:Nat) (m:List af),v3=ov∧iv=.int .i64 (i:Int)∧i≤n∧i≤30∧ag (m.length=i∧∀f∈m,f.j6)∧ag (OL wr w.heap.size 33 18 af.cells v3 m)∧ag (Below w.heap.size w wr)) (fun _ iv _=>30-(intOf iv).toNat)
 case atStart=>exact⟨_,0,[],rfl,rfl,ei _,ei _,hZ ⟨rfl,fun _ h=>nomatch h⟩,hZ OL.nil,hZ (bK _ _)⟩
 case round=>
  obtain⟨v3,i,m,rfl,rfl,hi,Mo,HM,HO,Eu⟩:=hrel
  by_cases ar:i<n∧i<30
  ·
   obtain⟨e,he⟩:∃e,l[i]?=some e:=⟨_,bp (by rw[HN.out.1];exact ar.1)⟩;obtain⟨ad,rfl,-,cP⟩:=HA.out.below Eu.out i e he;(have mU:ag (∀j v,e.cells[j]?=some v→wr.cell? ((ad.add (i*18)).add j)=some v):=hZ fun j v hv=>by rw[AE];exact cP j v hv);have aL:=hZ ar;have h_:=HM;have gL:=HO;have vt:=HM.out.1;(have d1:decide (i<n)=true:=by simp[ar.1]);(have d2:decide ((i:Int)<30)=true:=by simp;omega);(have z1:(0:Int)≤(i:Int):=by omega);(have z2:(i:Int)<(n:Int):=by omega);(have w1:IntKind.i64.wrap ((i:Int)+1)=((i+1:Nat):Int):=by rw[IntKind.wrap_i64];omega);obtain⟨q,hm⟩:∃q:Nat,min e.text.size 40=q:=⟨_,rfl⟩;(have e1:min (e.text.size:Int) 40=(q:Int):=by omega);(have z3:q≤e.text.size:=by omega);obtain⟨tx,JM⟩:=oQ (e.text.extract 0 q);have PT:ag (tx.size≤40):=hZ (by rw[←JM,Uc];omega);clear hm cP he ar vt hi Mo;obtain⟨wo,rfl⟩:∃wo:ae,wo=wr:=⟨_,rfl⟩
   go_wp2_with (first
    |((with_reducible refine ao9 rfl 33 (.tmp 18) rfl (ad.add (i*18)) ?hx e.cells _ mU.out bk rfl (IE _).out ?_);(case hx=>first|rfl|simp[jy]))
    | ((with_reducible refine oh rfl (.tmp 5) (.tmp 19) rfl rfl e ?hx ?hy (IS _).out ?hold ?_);(case hx=>rfl);(case hy=>rfl);(case hold=>rfl);intro w5 tR cn JF
       obtain⟨b5,Mf⟩:=oQ (wo.heap.size);rw[Mf] at tR⊢;have TX:=tR.cell (i:=17) rfl;have f17:=tR.free 17;have Jc:=tR.uk (e':={e with text:=tx}) 17 (.string tx) rfl;obtain⟨w6,Sw⟩:=oQ (w5.setCell ⟨b5,17,none⟩ (.string tx));rw[Sw] at Jc;have Km:w6.cell? ⟨b5,15,none⟩=some (.string e.rn):=Jc.cell (i:=15) rfl;have Kn:w6.cell? ⟨b5,16,none⟩=some (.string e.rd):=Jc.cell (i:=16) rfl;have pT:=hZ Jc;have jR:ag (wo.heap.size≤b5):=hZ (eJ Mf);have dM:ag (Below wo.heap.size wo w6):=hZ (by rw[←Sw];exact KF (p:=⟨b5,17,none⟩) cn (eJ Mf) _)
       clear tR cn JF Mf Jc)
    | (go_at_call 66;(with_reducible refine(acj e.rn e.rd w6).mono ?_);rintro r w7 ⟨xo,zw,rfl,od,l7,hb⟩
       have gS:aR w7 b5 {e with text:=tx}:=fe hb pT.out;have Gn:=gS.cell (i:=15) rfl;have Gp:=gS.cell (i:=16) rfl;have f15:=gS.free 15;have f16:=gS.free 16;have Rr:aR ((w7.setCell ⟨b5,15,none⟩ (.string xo)).setCell ⟨b5,16,none⟩ (.string zw)) b5 {e with text:=tx,rn:=xo,rd:=zw}:=(gS.uk (e':={e with text:=tx,rn:=xo}) 15 (.string xo) rfl).uk 16 (.string zw) rfl;obtain⟨w8,Sx⟩:=oQ ((w7.setCell ⟨b5,15,none⟩ (.string xo)).setCell ⟨b5,16,none⟩ (.string zw));rw[Sx] at Rr;have WC:=hZ (ay od l7);have Cl:ag (Below wo.heap.size wo w8.drew):=hZ (eR (by rw[←Sx];exact KF (p:=⟨b5,16,none⟩) (KF (p:=⟨b5,15,none⟩) (dM.out.trans (hb.mono dM.out.size)) jR.out _) jR.out _));have iZ:ag (∀W,Below w8.drew.heap.size w8.drew W→aR W b5 {e with text:=tx,rn:=xo,rd:=zw}):=hZ fun W h=>fe h (show w8.drew.heap[b5]?=_ from Rr)
       have kH:ag (∀W,Below w8.drew.heap.size w8.drew W→W.rangeAt b5 11 [.string e.ln,.string e.ld]∧W.rangeAt b5 13 [.string e.hn,.string e.hd]):=hZ fun W h=>by
        have hr:=bl (cs:=({e with text:=tx,rn:=xo,rd:=zw}:af).cells) (iZ.out W h);refine⟨fun j v hv=>?_,fun j v hv=>?_⟩
        ·
         have hj:j<2:=(dL.1 hv).1;have:=hr (11+j) v (by rcases(show j=0∨j=1 by omega) with rfl|rfl<;>exact hv)
         rwa[uA] at this
        ·
         have hj:j<2:=(dL.1 hv).1;have:=hr (13+j) v (by rcases(show j=0∨j=1 by omega) with rfl|rfl<;>exact hv)
         rwa[uA] at this
       clear od l7 hb gS Rr pT dM Sw Km Kn TX f17)
    |fail)
   clear JM
   go_cut [5] from 32 to 41 (fun v U=>v=.pointer (some ⟨b5,0,none⟩)∧∃mK ld1 cO fY:ByteArray,mK.size≤45∧ld1.size≤45∧cO.size≤45∧fY.size≤45∧aR U b5 {e with text:=tx,rn:=xo,rd:=zw,ln:=mK,ld:=ld1,hn:=cO,hd:=fY}∧Below wo.heap.size wo U)
   case first=>
    refine cJ (fun _=>True) trivial fun hHeld=>?_;obtain⟨U0,en⟩:=oQ (w8.drew);rw[en] at kH iZ Cl⊢;clear en;have hP:ag (Below U0.heap.size U0 U0):=hZ (bK _ _);refine bg 0 1 4 5 ?_;refine rd [2,6] ?_;refine rc (fun K hK=>?_) ?_
    ·
     refine Kf (by rfl) (.tmp 33) (by rfl) b5 11 (by rfl) e.ln e.ld (kH.out _ hP.out).1 ?_;refine kk hK trivial fun hHeld=>?_;clear hK K;refine rd [3,6] ?_;refine rc (fun K hK=>?_) ?_
     ·
      go_simp
      (with_reducible refine(F' e.ln e.ld hP).mono ?_)
      rintro r V3 ⟨mK,ld1,rfl,H3,hP⟩;refine kk hK trivial fun hHeld=>?_;clear hK K;refine rE 6 fun K hK=>?_;refine Kf (by rfl) (.tmp 37) (by rfl) b5 13 (by rfl) e.hn e.hd (kH.out _ hP.out).2 ?_;refine kk hK trivial fun hHeld=>?_;clear hK K;refine rE 7 fun K hK=>?_;go_simp
      (with_reducible refine(F' e.hn e.hd hP).mono ?_)
      rintro r V7 ⟨cO,fY,rfl,H7,hP⟩;refine kk hK trivial fun hHeld=>?_;clear hK K;refine eC 8 9 ?_;refine rE 10 fun K hK=>?_;refine Tz (by rfl) (.tmp 41) (.tmp 40) (by rfl) (by rfl) b5 mK ld1 cO fY (by rfl) (by rfl) (iZ.out _ hP.out) ?_;have nQ:=S3 iZ hP mK ld1 cO fY;have eK:=hZ (Below.setCells jR.out [.string mK,.string ld1,.string cO,.string fY] 11 (Cl.out.trans (hP.out.mono Cl.out.size)));refine kk hK trivial fun hHeld=>?_;clear hK K;refine dn ?_;clear hHeld;go_wp2
      go_meet
      case rel=>exact⟨rfl,mK,ld1,cO,fY,H3.out.1,H3.out.2,H7.out.1,H7.out.2,nQ.out,eK.out⟩
     refine dx fun K hK=>?_;refine Kf (by rfl) (.tmp 37) (by rfl) b5 13 (by rfl) e.hn e.hd (kH.out _ hP.out).2 ?_;refine kk hK trivial fun hHeld=>?_;clear hK K;refine rE 3 fun K hK=>?_;go_simp
     (with_reducible refine(F' e.ln e.ld hP).mono ?_)
     rintro r V3 ⟨mK,ld1,rfl,H3,hP⟩;refine kk hK trivial fun hHeld=>?_;clear hK K;refine rE 7 fun K hK=>?_;go_simp
     (with_reducible refine(F' e.hn e.hd hP).mono ?_)
     rintro r V7 ⟨cO,fY,rfl,H7,hP⟩;refine kk hK trivial fun hHeld=>?_;clear hK K;refine eC 8 9 ?_;refine rE 10 fun K hK=>?_;refine Tz (by rfl) (.tmp 41) (.tmp 40) (by rfl) (by rfl) b5 mK ld1 cO fY (by rfl) (by rfl) (iZ.out _ hP.out) ?_;have nQ:=S3 iZ hP mK ld1 cO fY;have eK:=hZ (Below.setCells jR.out [.string mK,.string ld1,.string cO,.string fY] 11 (Cl.out.trans (hP.out.mono Cl.out.size)));refine kk hK trivial fun hHeld=>?_;clear hK K;refine dn ?_;clear hHeld;go_wp2
     go_meet
     case rel=>exact⟨rfl,mK,ld1,cO,fY,H3.out.1,H3.out.2,H7.out.1,H7.out.2,nQ.out,eK.out⟩
    refine dx fun K hK=>?_;refine Kf (by rfl) (.tmp 37) (by rfl) b5 13 (by rfl) e.hn e.hd (kH.out _ hP.out).2 ?_;refine kk hK trivial fun hHeld=>?_;clear hK K;refine rE 2 fun K hK=>?_;refine Kf (by rfl) (.tmp 33) (by rfl) b5 11 (by rfl) e.ln e.ld (kH.out _ hP.out).1 ?_;refine kk hK trivial fun hHeld=>?_;clear hK K;refine rE 3 fun K hK=>?_;go_simp
    (with_reducible refine(F' e.ln e.ld hP).mono ?_)
    rintro r V3 ⟨mK,ld1,rfl,H3,hP⟩;refine kk hK trivial fun hHeld=>?_;clear hK K;refine rE 7 fun K hK=>?_;go_simp
    (with_reducible refine(F' e.hn e.hd hP).mono ?_)
    rintro r V7 ⟨cO,fY,rfl,H7,hP⟩;refine kk hK trivial fun hHeld=>?_;clear hK K;refine eC 8 9 ?_;refine rE 10 fun K hK=>?_;refine Tz (by rfl) (.tmp 41) (.tmp 40) (by rfl) (by rfl) b5 mK ld1 cO fY (by rfl) (by rfl) (iZ.out _ hP.out) ?_;have nQ:=S3 iZ hP mK ld1 cO fY;have eK:=hZ (Below.setCells jR.out [.string mK,.string ld1,.string cO,.string fY] 11 (Cl.out.trans (hP.out.mono Cl.out.size)));refine kk hK trivial fun hHeld=>?_;clear hK K;refine dn ?_;clear hHeld;go_wp2
    go_meet
    case rel=>exact⟨rfl,mK,ld1,cO,fY,H3.out.1,H3.out.2,H7.out.1,H7.out.2,nQ.out,eK.out⟩
   case rest=>
   obtain⟨rfl,mK,ld1,cO,fY,k1,k2,k3,k4,Zi,cZ⟩:=hcut;have eK:=hZ cZ;have jF:=hZ (bl (cs:=({e with text:=tx,rn:=xo,rd:=zw,ln:=mK,ld:=ld1,hn:=cO,hd:=fY}:af).cells) Zi);obtain⟨f,hf⟩:∃f:af,({e with text:=tx,rn:=xo,rd:=zw,ln:=mK,ld:=ld1,hn:=cO,hd:=fY}:af)=f:=⟨_,rfl⟩;have rW:ag f.j6:=hZ (by rw[←hf];have h3:=ay k1 k2;have h7:=ay k3 k4;have hr:=WC.out;have ht:=PT.out;exact⟨h3.1,h3.2,h7.1,h7.2,hr.1,hr.2,aV ht (by decide)⟩);rw[hf] at jF;clear hf kH iZ WC Gn Gp f15 f16 Sx Zi cZ k1 k2 k3 k4;have iQ:w.heap.size≤wo.heap.size:=Eu.out.size;have bA:=hZ iQ;have vt:=h_.out.1;have yg:=hZ (show m.length+1≤1000 by have:=aL.out;omega);clear vt
   go_wp2_with (first
    |(with_reducible refine lx (.tmp 5) b5 0 jF.out (IE _).out bk ?_)
    | ((with_reducible refine acK rfl (.tmp 43) rfl f ?hx ?_);(case hx=>rfl);intro bn Xk gw Q7
       have ahD:=hZ (show Xk.heap[bn]?=some (.cells f.cells.toArray 33 (0,0)) from by rw[←Q7,←gw];exact bG _ _);have dI:=hZ (show Below wo.heap.size wo Xk from by rw[←Q7];exact eK.out.trans ((aY _ _).mono eK.out.size))
       clear gw Q7)
    |(at_builtin;refine nJ rfl (.tmp 42) (.tmp 44) 25 rfl mZ _ m i h_.out.1 rfl (gL.out.below dI.out (aB _)) f bn f.cells.toArray rfl ahD.out rfl rfl (ma _) (by have:=yg.out;unfold cH;omega) (by have:=yg.out;omega) (aV bA.out dI.out.size) ?_;intro g3 c3 Gj h3 _ _ _ aK;have jf:=hZ h3;have Cm:=hZ ((Eu.out.trans (dI.out.mono Eu.out.size)).trans aK);clear h3 aK)
    |fail)
   go_roundw
   case rel=>exact⟨_,i+1,m++[f],rfl,rfl,aL.out.1,aL.out.2,hZ ⟨by rw[eV,h_.out.1];rfl,fun x hx=>by rcases pR.1 hx with h|h;exact h_.out.2 x h;rw[List.mem_singleton.1 h];exact rW.out⟩,jf,Cm⟩
   case measure=>simp[intOf];have:=aL.out;omega
  ·
   have vt:=HM.out
   by_cases h1:i<n
   ·
    (have d1:decide (i<n)=true:=by simp[h1]);(have d2:decide ((i:Int)<30)=false:=by simp;omega);clear vt;go_wp2_with fail;go_ret;exact⟨m,v3,rfl,⟨HM.out.2,by rw[HM.out.1];exact Mo⟩,HO.out,Eu.out⟩
   ·
    (have d1:decide (i<n)=false:=by simp;omega);clear vt;go_wp2_with fail;go_ret;exact⟨m,v3,rfl,⟨HM.out.2,by rw[HM.out.1];exact Mo⟩,HO.out,Eu.out⟩
theorem ajM {α:Type} {f:α→Bool} {l:List α} {i:Nat} {e:α} (he:l[i]?=some e) (h:(l.take i).any f=false) (hf:f e=true) (d:α):(l.filter f).headD d=e:=by
 have h1:(l.take i).filter f=[]:=agG.2 fun x hx=>by have:=agA.1 h x hx;simpa using this
 have h2:l=l.take i++l.drop i:=(tg i l).symm;have hi:=(dL.1 he).1;have h3:l.drop i=e::l.drop (i+1):=by rw[pN hi];congr 1;exact(dL.1 he).2
 rw[h2,s7,h1,h3,List.filter_cons_of_pos hf];rfl
theorem Zj {α:Type} {f:α→Bool} {l:List α} (h:l.any f=false) (d:α):(l.filter f).headD d=d:=by
 have h1:l.filter f=[]:=agG.2 fun x hx=>by have:=agA.1 h x hx;simpa using this
 rw[h1];rfl
theorem aml (B:bP) (p:Int) (w:ae) (hB:dH w (bV w) B) (hm:(B.ls 7).length≤1000000):
 ax ah 34 #[B.val,.int .i64 p] w fun e w'=>e=.returned (.tuple #[.agg #[.string (fk (B.ls 7) p).rn,.string (fk (B.ls 7) p).rd],.bool ((B.ls 7).any fun e=>decide (e.item=p))])∧Below w.heap.size w w':=by
 have IE:=fun e:af=>hZ (di (e:=e));obtain⟨l,A,n,c,hl,HX,HA,HN⟩:=hB.zo (j:=7) (by decide) hm;rw[hl];clear hB hl hm;obtain⟨b0,w0,q1,q2,q3,hf,bU⟩:=(At.start w).eX (.cells B.cells.toArray 36);obtain⟨b4,w1,r1,r2,r3,jb,aP⟩:=hf.eX (.cells #[.string ⟨#[]⟩,.string ⟨#[]⟩] 29);have HQ:=hZ (ay q1 (ay (bU.symm.trans r1) (show(w.alloc (.cells B.cells.toArray 36)).alloc (.cells #[.string ⟨#[]⟩,.string ⟨#[]⟩] 29)=w1 by rw[q2,r2])));have HF:=hZ jb;have bJ:=hZ r3;clear q1 q2 q3 hf bU r1 r2 r3 jb aP
 go_enter Tryz.func34,Tryz.ntmps34
 go_wp2_with fail;obtain⟨q1,q2,q3⟩:=HQ.out;rw[q1,q2,q3];clear q1 q2 q3
 go_loopw [6] (fun v wr=> ∃i:Nat,v=.int .i64 (i:Int)∧i≤n∧ag ((l.take i).any (fun e=>decide (e.item=p))=false)∧ag (At w wr [(b4,.cells #[.string ⟨#[]⟩,.string ⟨#[]⟩] 29 (0,0)),(b0,.cells B.cells.toArray 36 (0,0))])) (fun v _=>n-(intOf v).toNat)
 case atStart=>exact⟨0,rfl,ei _,hZ rfl,HF⟩
 case round=>
  clear HF;obtain⟨i,rfl,hi,HT,HF⟩:=hrel;have x3:wr.cell? ⟨b0,7,none⟩=some (.slice A n c):=HF.out.cell (b:=b0) (cs:=B.cells.toArray) (t:=36) (by simp) (i:=7) HX.out;have tq:=hZ (HF.out.has (b4,.cells #[.string ⟨#[]⟩,.string ⟨#[]⟩] 29 (0,0)) (by simp))
  by_cases ar:i<n
  · obtain⟨e,b,HE,rfl,cy,cP⟩:=at9 HA HN HF.out.below ar
    have y8:=cP 8 (.int .i64 e.item) rfl;have Gn:=cP 15 (.string e.rn) rfl;have Gp:=cP 16 (.string e.rd) rfl;have aL:=hZ ar;(have d1:decide (i<n)=true:=by simp[ar]);(have z1:(0:Int)≤(i:Int):=by omega);(have z2:(i:Int)<(n:Int):=by omega);have wk:=nx ⟨ar,HN.out.2⟩;obtain⟨k,hk⟩:=oQ ((e.item==p));have HK:ag (decide (e.item=p)=k):=hZ (by rw[←hk];rfl);clear cP ar;cases k
    · go_wp2_with fail
      have dD:=hZ (Ij HE.out HT.out HK.out)
      go_roundw
      case rel=>exact⟨i+1,rfl,aL.out,dD,HF⟩
      case measure=>simp[intOf];have:=aL.out;omega
    · go_wp2_with (first
       | ((with_reducible refine nK rfl 29 (.tmp 4) (.tmp 27) rfl rfl b4 #[.string e.rn,.string e.rd] #[.string ⟨#[]⟩,.string ⟨#[]⟩] ?hx ?hy ?hi tq.out rfl ?h1 ?_);(case hx=>rfl);(case hy=>rfl);(case hi=>kernel_rfl);(case h1=>simp[Value.oneCell']);intro V hc ht
          have HV:=hZ hc;have dI:=hZ (ht.below HF.out.below (aB _) (fun k hk=>by have:=bJ.out;omega))
          clear hc ht)
       |fail)
      refine et (nF rfl _ _ b4 [.string e.rn,.string e.rd] _ rfl (bl HV.out) pM rfl (by kernel_rfl)) rfl ?_;rw[LJ (l:=l) HE.out HK.out,show fk l p=e from ajM HE.out HT.out HK.out aW];exact⟨rfl,dI.out⟩
  · have d1:decide (i<n)=false:=by simp;omega
    have dD:ag (l.any (fun e=>decide (e.item=p))=false):=hZ (by have:=HT.out;rwa[eE (by have:=HN.out.1;omega)] at this)
    go_wp2_with (first
     | ((with_reducible refine nK rfl 29 (.tmp 4) (.tmp 28) rfl rfl b4 #[.string ⟨#[]⟩,.string ⟨#[]⟩] #[.string ⟨#[]⟩,.string ⟨#[]⟩] ?hx ?hy ?hi tq.out rfl ?h1 ?_);(case hx=>rfl);(case hy=>rfl);(case hi=>kernel_rfl);(case h1=>simp[Value.oneCell']);intro V hc ht
        have HV:=hZ hc;have dI:=hZ (ht.below HF.out.below (aB _) (fun k hk=>by have:=bJ.out;omega))
        clear hc ht)
     |fail)
    refine et (nF rfl _ _ b4 [.string ⟨#[]⟩,.string ⟨#[]⟩] _ rfl (bl HV.out) pM rfl (by kernel_rfl)) rfl ?_;rw[dD.out,show fk l p=aW from Zj dD.out aW];exact⟨rfl,dI.out⟩
def MJ (r:List af) (bQ t:Int) (e:af):Bool:=(decide (e.az≤t)&&decide (t≤e.bj))&&(decide (e.bQ=bQ)&& !(kB r e.id t))
def uC (f:af→Bool) (l:List af) (i:Nat) (z:Int):Prop:=(z=-1∧og ((l.take i).filter f)=(aW,false))∨∃(j:Nat) (x:af),z=(j:Int)∧j<i∧l[j]?=some x∧og ((l.take i).filter f)=(x,true)
section
variable {f:af→Bool} {l:List af} {i:Nat} {z:Int} {e:af}
theorem TJ (he:l[i]?=some e):(l.take (i+1)).filter f=(l.take i).filter f++if f e then[e] else[]:=by
 rw[gV,s7,he];cases h:f e<;>simp[h]
theorem uC.skip (h:uC f l i z) (he:l[i]?=some e) (hf:f e=false):uC f l (i+1) z:=by
 have e1:=TJ (f:=f) he;rw[hf,if_neg (by decide),List.append_nil] at e1;rcases h with⟨h1,h2⟩|⟨j,x,h1,h2,h3,h4⟩
 · exact .inl ⟨h1,by rw[e1];exact h2⟩
 · exact .inr ⟨j,x,h1,by omega,h3,by rw[e1];exact h4⟩
theorem uC.first (h:og ((l.take i).filter f)=(aW,false)) (he:l[i]?=some e) (hf:f e=true):uC f l (i+1) (i:Int):=by
 have e1:=TJ (f:=f) he;rw[hf,if_pos rfl] at e1;exact .inr ⟨i,e,rfl,by omega,he,by rw[e1,SF,h];rfl⟩
theorem uC.cmp {j:Nat} {x:af} (h:og ((l.take i).filter f)=(x,true)) (hj:j<i) (hx:l[j]?=some x) (he:l[i]?=some e) (hf:f e=true):uC f l (i+1) (if EX e x then(i:Int) else(j:Int)):=by
 have e1:=TJ (f:=f) he;rw[hf,if_pos rfl] at e1;have e2:og ((l.take (i+1)).filter f)=xf (x,true) e:=by rw[e1,SF,h]
 unfold xf at e2;cases hb:EX e x
 · rw[hb] at e2
   exact .inr ⟨j,x,rfl,by omega,hx,e2⟩
 · rw[hb] at e2
   exact .inr ⟨i,e,rfl,by omega,he,e2⟩
end
theorem ah2 (e x:af):EX e x=(decide (x.az<e.az)||(decide (e.az=x.az)&&decide (x.id<e.id))):=by
 unfold EX uf dZ
 by_cases h1:e.az<x.az
 · simp[h1];omega
 · by_cases h2:x.az<e.az
   · have:¬e.az=x.az:=by omega
     simp[h1,h2]
   · have h3:e.az=x.az:=by omega
     by_cases h4:e.id<x.id
     · simp[h3,h4];omega
     · by_cases h5:x.id<e.id<;>simp[h3,h4,h5]
theorem amL {r:List af} {id t:Int} {k:Nat} {x:af} {g0:Bool} (hx:r[k]?=some x):(g0&& !(kB (r.take (k+1)) id t))=((g0&& !(kB (r.take k) id t))&& !(decide (x.item=id)&&decide (x.az≤t))):=by
 unfold kB;rw[gV,hx,List.any_append];cases g0<;>simp[Bool.not_or]
theorem amu (B:bP) (bQ t:Int) (w:ae) (hB:dH w (bV w) B) (hm:(B.ls 4).length≤1000000) (ZP:(B.ls 5).length≤1000000):
 ax ah 33 #[B.val,.int .i64 bQ,.int .i64 t] w fun e w'=>e=.returned (.tuple #[.string (l8 B bQ t).1.text,.bool (l8 B bQ t).2])∧Below w.heap.size w w':=by
 have IE:=fun e:af=>hZ (di (e:=e));have IS:=fun e:af=>hZ (show(ah.info? 33).map (·.size)=some e.cells.toArray.size from di (e:=e));obtain⟨l,A,n,c,hl,HX,HA,HN⟩:=hB.zo (j:=4) (by decide) hm;obtain⟨r,A5,m,c5,hr,CQ,HA5,La⟩:=hB.zo (j:=5) (by decide) ZP;have e0:l8 B bQ t=og (l.filter (MJ r bQ t)):=by unfold l8 MJ;rw[hl,hr]
 rw[e0];clear hB hl hm hr ZP e0;obtain⟨f,hf⟩:=oQ (MJ r bQ t);have G7:=hZ hf;rw[hf];obtain⟨KR,Q0⟩:=oQ (og (l.filter f));have EA:=hZ Q0;rw[Q0];clear hf Q0;obtain⟨b0,w0,q1,q2,q3,hf,bU⟩:=(At.start w).eX (.cells B.cells.toArray 36);have HQ:=hZ (ay q1 q2);have HF:=hZ hf;clear q1 q2 q3 hf bU
 go_enter Tryz.func33,Tryz.ntmps33
 go_wp2_with fail;obtain⟨q1,q2⟩:=HQ.out;rw[q1,q2];clear q1 q2
 go_loopw [8,9] (fun bv v wr=> ∃(i:Nat) (z:Int),v=.int .i64 (i:Int)∧bv=.int .i64 z∧i≤n∧ag (uC f l i z)∧ag (At w wr [(b0,.cells B.cells.toArray 36 (0,0))])) (fun _ v _=>n-(intOf v).toNat)
 case atStart=>exact⟨0,-1,rfl,rfl,ei _,hZ (.inl ⟨rfl,rfl⟩),HF⟩
 case round =>
  clear HF;obtain⟨i,z,rfl,rfl,hi,HT,HF⟩:=hrel;have x4:wr.cell? ⟨b0,4,none⟩=some (.slice A n c):=HF.out.cell (b:=b0) (cs:=B.cells.toArray) (t:=36) (by simp) (i:=4) HX.out
  by_cases ar:i<n
  · obtain ⟨e, b,HE,rfl,cy,cP⟩:=at9 HA HN HF.out.below ar
    have cX:=hZ cP;have aL:=hZ ar;(have d1:decide (i<n)=true:=by simp[ar]);(have z1:(0:Int)≤(i:Int):=by omega);(have z2:(i:Int)<(n:Int):=by omega);have wk:=nx ⟨ar,HN.out.2⟩;obtain⟨k1,fJ⟩:=oQ ((e.bQ==bQ));obtain⟨k2,kt⟩:=oQ (wY e t);have HK:ag (f e=((k1&&k2)&& !(kB r e.id t))):=hZ (by rw[←G7.out];unfold MJ;rw[←fJ,←kt];unfold wY;cases h:(e.bQ==bQ)<;>simp_all);have CH:=hZ (fun W=>S_ e t W);rw[kt] at CH;obtain⟨g0,tU⟩:=oQ ((k1&&k2));rw[tU] at HK;have HG0:=hZ tU;clear cP ar kt tU;cases k1
    all_goals
     go_wp2_with (first
      |(with_reducible refine lx (.tmp 23) b (i*18) cX.out (IE _).out bk ?_)
      | ((with_reducible refine oh rfl (.tmp 10) (.tmp 24) rfl rfl e ?hx ?hy (IS _).out ?hold ?_);(case hx=>rfl);(case hy=>rfl);(case hold=>rfl);intro V he hb hs
         obtain⟨be,fS⟩:=oQ (wr.heap.size);rw[fS] at he⊢;have y7:=he.cell (i:=7) rfl;have HF:=hZ (HF.out.step hb);have iZ:=hZ he;have kG:=hZ (bl (cs:=e.cells) he)
         clear he hb hs fS)
      |((with_reducible refine xy ?hw 33 (.tmp 10) rfl be 0 ?hx e.cells _ kG.out bk rfl (IE _).out ?_);(case hw=>rfl);(case hx=>rfl))
      |(go_at_call 84;(with_reducible refine(CH.out _).mono ?_);rintro r V2 ⟨rfl,hb⟩;have HF:=hZ (HF.out.step hb);have iZ:=hZ (iZ.out.below hb);clear hb)
      |fail)
     obtain⟨wo,vF⟩:∃wo:ae,wo=wr:=⟨_,rfl⟩;clear d1 vF x4
     try clear y7
     go_loopw [11,12] (fun gv kv U=> ∃(g:Bool) (k:Nat),gv=.bool g∧kv=.int .i64 (k:Int)∧k≤m∧ag (g=(g0&& !(kB (r.take k) e.id t)))∧ag (At w U [(b0,.cells B.cells.toArray 36 (0,0))])∧ag (aR U be e)) (fun _ v _=>m-(intOf v).toNat)
     case atStart=>exact⟨_,0,rfl,rfl,ei _,hZ (by have:=HG0.out;rw[←this];simp[kB]),HF,iZ⟩
     case round=>
      clear HF iZ;obtain⟨g,k,rfl,rfl,hk,O2,HF,iZ⟩:=hrel;have x5:wr.cell? ⟨b0,5,none⟩=some (.slice A5 m c5):=HF.out.cell (b:=b0) (cs:=B.cells.toArray) (t:=36) (by simp) (i:=5) CQ.out
      by_cases dR:k<m
      · obtain⟨x,bx,si,rfl,VM,Sl⟩:=at9 HA5 La HF.out.below dR
        have i_:=hZ dR;(have d2:decide (k<m)=true:=by simp[dR]);(have z3:(0:Int)≤(k:Int):=by omega);(have z4:(k:Int)<(m:Int):=by omega);have D4:=nx ⟨dR,La.out.2⟩;obtain⟨i1,Mn⟩:=oQ ((x.item==e.id));obtain⟨i2,Bg⟩:=oQ (decide (x.az≤t));have bS:ag ((g0&& !(kB (r.take (k+1)) e.id t))=(g&& !(i1&&i2))):=hZ (by rw[amL si.out,←O2.out,←Mn,←Bg];rfl);have bu:wr.drew.cell? ⟨b0,5,none⟩=some (.slice (some ⟨bx,0,none⟩) m c5)∧wr.drew.cell? ⟨bx,k*18+8,none⟩=some (.int .i64 x.item)∧wr.drew.cell? ⟨bx,k*18+5,none⟩=some (.int .i64 x.az)∧wr.drew.cell? ⟨be,1,none⟩=some (.int .i64 e.id):=⟨x5,Sl 8 _ rfl,Sl 5 _ rfl,iZ.out.cell (i:=1) rfl⟩;have tu:=hZ HF.out.drew;have Ag:ag (aR wr.drew be e):=iZ;clear dR Sl HF iZ;cases g
        · go_wp2_with fail
          refine cJ (fun U=>U.cell? ⟨b0,5,none⟩=some (.slice (some ⟨bx,0,none⟩) m c5)∧U.cell? ⟨bx,k*18+8,none⟩=some (.int .i64 x.item)∧U.cell? ⟨bx,k*18+5,none⟩=some (.int .i64 x.az)∧U.cell? ⟨be,1,none⟩=some (.int .i64 e.id)) bu fun hHeld=>?_;refine eC 0 1 ?_;refine tn 2 ?_;refine tn 3 ?_;refine tn 4 ?_;refine tn 5 ?_;refine tn 6 ?_;refine tn 7 ?_;refine tn 8 ?_;refine tn 9 ?_;refine tn 10 ?_;refine tn 11 ?_;refine tn 12 ?_;refine tn 13 ?_;refine tn 14 ?_;refine tn 15 ?_;refine tn 16 ?_;refine tn 17 ?_;refine tn 18 ?_;refine tn 19 ?_;refine tn 20 ?_;refine tn 21 ?_;refine eC 22 23 ?_;refine dn ?_;clear hHeld bu;go_wp2_with fail
          go_round
          case rel=>exact⟨false,k+1,rfl,rfl,i_.out,hZ (by rw[bS.out];rfl),tu,Ag⟩
          case measure=>simp[intOf];have:=i_.out;omega
        cases i1
        · go_wp2_with fail
          refine cJ (fun U=>U.cell? ⟨b0,5,none⟩=some (.slice (some ⟨bx,0,none⟩) m c5)∧U.cell? ⟨bx,k*18+8,none⟩=some (.int .i64 x.item)∧U.cell? ⟨bx,k*18+5,none⟩=some (.int .i64 x.az)∧U.cell? ⟨be,1,none⟩=some (.int .i64 e.id)) bu fun hHeld=>?_;refine bg 0 1 2 3 ?_;refine bg 4 5 6 7 ?_;refine bg 8 9 10 11 ?_;refine tn 12 ?_;refine tn 13 ?_;refine tn 14 ?_;refine tn 15 ?_;refine tn 16 ?_;refine tn 17 ?_;refine tn 18 ?_;refine tn 19 ?_;refine bg 20 21 22 23 ?_;refine dn ?_;clear hHeld bu;go_wp2_with fail
          go_round
          case rel=>exact⟨true,k+1,rfl,rfl,i_.out,hZ (by rw[bS.out];rfl),tu,Ag⟩
          case measure=>simp[intOf];have:=i_.out;omega
        · go_wp2_with fail
          refine cJ (fun U=>U.cell? ⟨b0,5,none⟩=some (.slice (some ⟨bx,0,none⟩) m c5)∧U.cell? ⟨bx,k*18+8,none⟩=some (.int .i64 x.item)∧U.cell? ⟨bx,k*18+5,none⟩=some (.int .i64 x.az)∧U.cell? ⟨be,1,none⟩=some (.int .i64 e.id)) bu fun hHeld=>?_;refine bg 0 1 2 3 ?_;refine bg 4 5 6 7 ?_;refine bg 8 9 10 11 ?_;refine bg 12 13 14 15 ?_;refine bg 16 17 18 19 ?_;refine bg 20 21 22 23 ?_;refine dn ?_;clear hHeld bu;go_wp2_with fail
          go_round
          case rel=>exact⟨!i2,k+1,by simp,rfl,i_.out,hZ (by rw[bS.out];simp),tu,Ag⟩
          case measure=>simp[intOf];have:=i_.out;omega
      · have d2:decide (k<m)=false:=by simp;omega
        have O1:ag (f e=g):=hZ (by rw[HK.out,O2.out,eE (by have:=La.out.1;omega)]);have x4:wr.cell? ⟨b0,4,none⟩=some (.slice (some ⟨b,0,none⟩) n c):=HF.out.cell (b:=b0) (cs:=B.cells.toArray) (t:=36) (by simp) (i:=4) HX.out;have y5:=iZ.out.cell (i:=5) rfl;have y1:=iZ.out.cell (i:=1) rfl;have tu:=hZ HF.out.drew;clear hk O2 HF iZ;cases g
        · go_wp2_with fail
          refine cJ (fun _=>True) trivial fun hHeld=>?_;refine eC 0 1 ?_;refine tn 2 ?_;refine tn 3 ?_;refine tn 4 ?_;refine tn 5 ?_;refine tn 6 ?_;refine tn 7 ?_;refine tn 8 ?_;refine tn 9 ?_;refine tn 10 ?_;refine tn 11 ?_;refine tn 12 ?_;refine tn 13 ?_;refine tn 14 ?_;refine tn 15 ?_;refine tn 16 ?_;refine tn 17 ?_;refine tn 18 ?_;refine tn 19 ?_;refine tn 20 ?_;refine tn 21 ?_;refine tn 22 ?_;refine tn 23 ?_;refine tn 24 ?_;refine tn 25 ?_;refine tn 26 ?_;refine tn 27 ?_;refine tn 28 ?_;refine tn 29 ?_;refine tn 30 ?_;refine tn 31 ?_;refine tn 32 ?_;refine tn 33 ?_;refine tn 34 ?_;refine tn 35 ?_;refine tn 36 ?_;refine tk 37 ?_;refine dn ?_;clear hHeld;go_wp2_with fail
          go_roundw
          case rel=>exact⟨i+1,z,rfl,rfl,aL.out,hZ (HT.out.skip HE.out O1.out),tu⟩
          case measure=>simp[intOf];have:=aL.out;omega
        rcases HT.out with⟨rfl,hq⟩|⟨j,x,rfl,Dx,DR,hq⟩
        · have dD:=hZ (uC.first hq HE.out O1.out)
          (have d3:decide ((-1:Int)<0)=true:=by decide);clear hq;go_wp2_with fail;refine cJ (fun _=>True) trivial fun hHeld=>?_;refine bg 0 1 2 3 ?_;refine tk 4 ?_;refine tn 5 ?_;refine tn 6 ?_;refine tn 7 ?_;refine tn 8 ?_;refine tn 9 ?_;refine tn 10 ?_;refine tn 11 ?_;refine tn 12 ?_;refine tn 13 ?_;refine eC 14 15 ?_;refine tn 16 ?_;refine tn 17 ?_;refine tn 18 ?_;refine tn 19 ?_;refine tn 20 ?_;refine tn 21 ?_;refine tn 22 ?_;refine tn 23 ?_;refine tn 24 ?_;refine tn 25 ?_;refine tn 26 ?_;refine tn 27 ?_;refine tn 28 ?_;refine tn 29 ?_;refine tn 30 ?_;refine tn 31 ?_;refine tn 32 ?_;refine tn 33 ?_;refine tn 34 ?_;refine tn 35 ?_;refine eC 36 37 ?_;refine dn ?_;clear hHeld;go_wp2_with fail
          go_roundw
          case rel=>exact⟨i+1,i,rfl,rfl,aL.out,dD,tu⟩
          case measure=>simp[intOf];have:=aL.out;omega
        · have Sg:wr.rangeAt b (j*18) x.cells:=by
           obtain⟨b',nk,Mv,y_⟩:=HA.out j x DR;injection nk with nk;injection nk with nk;subst nk;exact fun q v hv=>(tu.out.below.cell (p:=⟨b,j*18+q,none⟩) Mv).trans (y_ q v hv)
          have dD:=hZ (uC.cmp hq Dx DR HE.out O1.out);rw[ah2] at dD;(have d3:decide ((j:Int)<0)=false:=by simp);(have z5:(0:Int)≤(j:Int):=by omega);(have z6:(j:Int)<(n:Int):=by have:=aL.out;omega);have bu:wr.drew.cell? ⟨b0,4,none⟩=some (.slice (some ⟨b,0,none⟩) n c)∧wr.drew.cell? ⟨b,j*18+5,none⟩=some (.int .i64 x.az)∧wr.drew.cell? ⟨b,j*18+1,none⟩=some (.int .i64 x.id)∧wr.drew.cell? ⟨be,5,none⟩=some (.int .i64 e.az)∧wr.drew.cell? ⟨be,1,none⟩=some (.int .i64 e.id):=⟨x4,Sg 5 _ rfl,Sg 1 _ rfl,y5,y1⟩;clear hq Dx DR Sg;obtain⟨c1,fX⟩:=oQ (decide (x.az<e.az));obtain⟨c2,eo⟩:=oQ ((e.az==x.az));obtain⟨c3,fh⟩:=oQ (decide (x.id<e.id));have sh:ag (uC f l (i+1) (if (c1||(c2&&c3)) then(i:Int) else(j:Int))):=hZ (by have:=dD.out;rw[fX,fh,show decide (e.az=x.az)=c2 from eo] at this;exact this);cases c1
          · cases c2
            · go_wp2_with fail
              refine cJ (fun U=>U.cell? ⟨b0,4,none⟩=some (.slice (some ⟨b,0,none⟩) n c)∧U.cell? ⟨b,j*18+5,none⟩=some (.int .i64 x.az)∧U.cell? ⟨b,j*18+1,none⟩=some (.int .i64 x.id)∧U.cell? ⟨be,5,none⟩=some (.int .i64 e.az)∧U.cell? ⟨be,1,none⟩=some (.int .i64 e.id)) bu fun hHeld=>?_;refine bg 0 1 2 3 ?_;refine bg 4 5 6 7 ?_;refine bg 8 9 10 11 ?_;refine bg 12 13 14 15 ?_;refine bg 16 17 18 19 ?_;refine bg 20 21 22 23 ?_;refine eC 24 25 ?_;refine tn 26 ?_;refine tn 27 ?_;refine tn 28 ?_;refine tn 29 ?_;refine tn 30 ?_;refine tn 31 ?_;refine tn 32 ?_;refine tn 33 ?_;refine tn 34 ?_;refine dr 35 36 37 ?_;refine dn ?_;clear hHeld bu;go_wp2_with fail
              go_roundw
              case rel=>exact⟨i+1,j,rfl,rfl,aL.out,sh,tu⟩
              case measure=>simp[intOf];have:=aL.out;omega
            · cases c3
              all_goals
               go_wp2_with fail;refine cJ (fun U=>U.cell? ⟨b0,4,none⟩=some (.slice (some ⟨b,0,none⟩) n c)∧U.cell? ⟨b,j*18+5,none⟩=some (.int .i64 x.az)∧U.cell? ⟨b,j*18+1,none⟩=some (.int .i64 x.id)∧U.cell? ⟨be,5,none⟩=some (.int .i64 e.az)∧U.cell? ⟨be,1,none⟩=some (.int .i64 e.id)) bu fun hHeld=>?_;refine bg 0 1 2 3 ?_;refine bg 4 5 6 7 ?_;refine bg 8 9 10 11 ?_;refine bg 12 13 14 15 ?_;refine bg 16 17 18 19 ?_;refine bg 20 21 22 23 ?_;refine bg 24 25 26 27 ?_;refine bg 28 29 30 31 ?_;refine bg 32 33 34 35 ?_;refine eC 36 37 ?_;refine dn ?_;clear hHeld bu;go_wp2_with fail
               go_roundw
               case rel=>exact⟨i+1,_,rfl,rfl,aL.out,sh,tu⟩
               case measure=>simp[intOf];have:=aL.out;omega
          · go_wp2_with fail
            refine cJ (fun U=>U.cell? ⟨b0,4,none⟩=some (.slice (some ⟨b,0,none⟩) n c)∧U.cell? ⟨b,j*18+5,none⟩=some (.int .i64 x.az)∧U.cell? ⟨b,j*18+1,none⟩=some (.int .i64 x.id)∧U.cell? ⟨be,5,none⟩=some (.int .i64 e.az)∧U.cell? ⟨be,1,none⟩=some (.int .i64 e.id)) bu fun hHeld=>?_;refine bg 0 1 2 3 ?_;refine bg 4 5 6 7 ?_;refine bg 8 9 10 11 ?_;refine bg 12 13 14 15 ?_;refine tn 16 ?_;refine tn 17 ?_;refine tn 18 ?_;refine tn 19 ?_;refine tn 20 ?_;refine tn 21 ?_;refine tn 22 ?_;refine tn 23 ?_;refine tn 24 ?_;refine tn 25 ?_;refine tn 26 ?_;refine tn 27 ?_;refine tn 28 ?_;refine tn 29 ?_;refine tn 30 ?_;refine tn 31 ?_;refine tn 32 ?_;refine tn 33 ?_;refine tn 34 ?_;refine tn 35 ?_;refine eC 36 37 ?_;refine dn ?_;clear hHeld bu;go_wp2_with fail
            go_roundw
            case rel=>exact⟨i+1,i,rfl,rfl,aL.out,sh,tu⟩
            case measure=>simp[intOf];have:=aL.out;omega
  · have d1:decide (i<n)=false:=by simp;omega
    have WQ:=hZ HT.out;have e9:l.take i=l:=eE (by have:=HN.out.1;omega);rcases HT.out with⟨rfl,hq⟩|⟨j,x,rfl,Dx,DR,hq⟩
    · have d3:decide ((-1:Int)<0)=true:=by decide
      have nQ:ag (KR=(aW,false)):=hZ (by rw[←EA.out,←hq,e9]);clear hq e9;go_wp2_with fail
      go_ret2
      rw[nQ.out];exact⟨rfl,HF.out.below⟩
    · have d3:decide ((j:Int)<0)=false:=by simp
      have nQ:ag (KR=(x,true)):=hZ (by rw[←EA.out,←hq,e9]);obtain⟨b,nk,Mv,y_⟩:=HA.out j x DR;subst nk;have y17:wr.cell? ⟨b,j*18+17,none⟩=some (.string x.text):=(HF.out.below.cell (p:=⟨b,j*18+17,none⟩) Mv).trans (y_ 17 _ rfl);(have z5:(0:Int)≤(j:Int):=by omega);(have z6:(j:Int)<(n:Int):=by have:=(dL.1 DR).1;have:=HN.out.1;omega);clear hq e9 DR Dx Mv y_;go_wp2_with fail
      go_ret2
      rw[nQ.out];exact⟨rfl,HF.out.below⟩
theorem ajB (x y:ef) (cs ds:Array ai) (W:ae):(eqGuard .neq 33 x y (.agg cs) (.agg ds)).run ah W=.ok () W:=by kernel_rfl
theorem alg {l m:List af} {n:Nat} (h1:l.length=n) (h2:m.length=n):l=m↔ ∀i,i<n→l[i]?=m[i]?:=by
 refine⟨fun h i _=>by rw[h],fun h=>List.ext_getElem? fun i=>?_⟩
 by_cases hi:i<n
 · exact h i hi
 · rw[jz (by omega),jz (by omega)]
theorem am7 (l m:List af) (A A2:Option bI) (n n2 c c2:Nat) (w:ae) (hA:eW w (bV w) A l) (mC:eW w (bV w) A2 m) (hn:l.length=n∧n≤1000000) (cN:m.length=n2∧n2≤1000000):
 ax ah 86 #[.slice A n c,.slice A2 n2 c2] w (cC w (decide (l=m))):=by
 have IE:=fun e:af=>hZ (di (e:=e));have HA:=hZ hA;have uE:=hZ mC;have HN:=hZ hn;have iz:=hZ cN
 by_cases rk:n=n2
 · subst rk
   (have d0:((n:Int) !=(n:Int))=false:=by simp);have de:ag (Below w.heap.size w w):=hZ (bK _ _);clear hA mC hn cN
   go_enter ad9,aeU
   go_wp2_with fail
   go_loopw [5] (fun v wr=> ∃i:Nat,v=.int .i64 (i:Int)∧i≤n∧ag (∀j,j<i→l[j]?=m[j]?)∧ag (Below w.heap.size w wr)) (fun v _=>n-(intOf v).toNat)
   case atStart=>exact⟨0,rfl,ei _,hZ fun j hj=>(by omega),de⟩
   case round=>
    clear de;obtain⟨i,rfl,hi,HT,HB⟩:=hrel
    by_cases ar:i<n
    · obtain⟨e,b,HE,sB,cy,cP⟩:=at9 HA HN HB.out ar
      obtain⟨x,b2,HX,ajE,apK,aad⟩:=at9 uE iz HB.out ar;subst sB ajE;have aL:=hZ ar;(have d1:decide (i<n)=true:=by simp[ar]);(have z1:(0:Int)≤(i:Int):=by omega);(have z2:(i:Int)<(n:Int):=by omega);have wk:=nx ⟨ar,HN.out.2⟩;obtain⟨q,hq⟩:=oQ (C_ e x);have HQ:=hZ hq;have nS:ag (∀W,(binOp .neq 33 (.agg e.cells.toArray) (.agg x.cells.toArray)).run ah W=.ok (.bool (!q)) W):=hZ (fun W=>by rw[←hq];exact abf e x W);have bu:wr.drew.rangeAt b (i*18) e.cells∧wr.drew.rangeAt b2 (i*18) x.cells:=⟨cP,aad⟩;have fC:ag (Below w.heap.size w wr.drew):=hZ (eR HB.out);clear cP aad hq ar HB;go_wp2_with fail;refine cJ (fun U=>k7 U b (i*18) e.cells∧k7 U b2 (i*18) x.cells) bu fun hHeld=>?_;refine dr 0 1 2 ?_;refine tl 3 rfl (yx b (i*18) (IE e).out bk (fun w hw=>hw.1)) ?_;refine dr 4 5 6 ?_;refine tl 7 rfl (yx b2 (i*18) (IE x).out bk (fun w hw=>hw.2)) ?_;refine tl 8 rfl (Gq (by rfl) 33 33 (.tmp 20) (.tmp 24) (by rfl) (.agg e.cells.toArray) (.agg x.cells.toArray) (by rfl) (by rfl) (!q) (fun w=>ajB _ _ _ _ w) nS.out) ?_;refine dn ?_;clear hHeld bu;cases q
      · go_wp2_with fail
        go_ret
        have bf:¬l=m:=fun h=>by
         have h1:=HE.out;rw[h,HX.out] at h1;injection h1 with h1;have:=HQ.out;rw[(Iz e x).2 h1.symm] at this;cases this
        rw[decide_eq_false bf];exact⟨rfl,fC.out⟩
      · have dD:ag (∀j,j<i+1→l[j]?=m[j]?):=hZ fun j hj=>by
         rcases fB j i with h|h
         · exact HT.out j h
         · obtain rfl:j=i:=by omega
           rw[HE.out,HX.out,(Iz e x).1 HQ.out]
        go_wp2_with fail
        go_round
        case rel=>exact⟨i+1,rfl,aL.out,dD,fC⟩
        case measure=>simp[intOf];have:=aL.out;omega
    · have d1:decide (i<n)=false:=by simp;omega
      have nS:ag (l=m):=hZ ((alg HN.out.1 iz.out.1).2 fun j hj=>HT.out j (by omega));go_wp2_with fail;go_ret;rw[decide_eq_true nS.out];exact⟨rfl,HB.out⟩
 · have d0:((n:Int) !=(n2:Int))=true:=by simp;omega
   have eu:ag (¬l=m):=hZ fun h=>rk (by rw[←HN.out.1,←iz.out.1,h]);clear hA mC hn cN
   go_enter ad9,aeU
   go_wp2_with fail;go_ret;rw[decide_eq_false eu.out];exact⟨rfl,bK _ _⟩
theorem bP.su (B:bP) {i:Nat} (hi:i<9):B.cells.toArray[i]?=some (.slice (B.ad i) (B.ls i).length (B.cp i)):=by
 have h9:i=0∨i=1∨i=2∨i=3∨i=4∨i=5∨i=6∨i=7∨i=8:=by omega
 rcases h9 with rfl|rfl|rfl|rfl|rfl|rfl|rfl|rfl|rfl<;>rfl
theorem aa0 (B:bP) (w:ae):ax ah 16 #[B.val] w fun e w'=> ∃b,e=.returned (.slice (some ⟨b,0,none⟩) 9 9)∧Below w.heap.size w w'∧w.heap.size≤b∧w'.heap[b]?=some (.cells B.cells.toArray 25 (0,0)):=by
 obtain⟨W,hW⟩:=oQ (w.alloc (.cells B.cells.toArray 36));obtain⟨g,hg⟩:=oQ (w.heap.size);have h:=bG w (.cells B.cells.toArray 36);rw[hW,hg] at h;have hb:Below w.heap.size w W:=by rw[←hW];exact aY _ _
 have HB:=hZ hb;have HG:=hZ (eJ hg);have c0:=aJ h (B.su (i:=0) (by decide));have c1:=aJ h (B.su (i:=1) (by decide));have c2:=aJ h (B.su (i:=2) (by decide));have c3:=aJ h (B.su (i:=3) (by decide));have c4:=aJ h (B.su (i:=4) (by decide));have c5:=aJ h (B.su (i:=5) (by decide));have c6:=aJ h (B.su (i:=6) (by decide));have c7:=aJ h (B.su (i:=7) (by decide));have c8:=aJ h (B.su (i:=8) (by decide));clear h hb
 go_enter Tryz.func16,Tryz.ntmps16
 go_wp2;go_ret;exact⟨_,rfl,HB.out.trans ((aY _ _).mono HB.out.size),HB.out.size,bG _ _⟩
theorem amA (B C:bP) (w:ae) (hB:dH w (bV w) B) (hC:dH w (bV w) C) (hm:∀j,j<9→(B.ls j).length≤1000000) (fT:∀j,j<9→(C.ls j).length≤1000000):
 ax ah 41 #[B.val,C.val] w (cC w (sQ B C)):=by
 have HIB:=hZ (qx B);have HIC:=hZ (qx C);have HB:=hZ hB;have HC:=hZ hC;have HM:=hZ (ay hm fT);obtain⟨b2,w0,q1,q2,q3,hf,bU⟩:=(At.start w).eX (.cells B.cells.toArray 36);obtain⟨b3,w1,r1,r2,r3,jb,aP⟩:=hf.eX (.cells C.cells.toArray 36);have HQ:=hZ (ay q1 (ay (bU.symm.trans r1) (show(w.alloc (.cells B.cells.toArray 36)).alloc (.cells C.cells.toArray 36)=w1 by rw[q2,r2])));have HF:=hZ jb;have j_:=hZ (bl (jb.has (b2,.cells B.cells.toArray 36 (0,0)) (by simp)));clear q1 q2 q3 hf bU r1 r2 r3 jb aP hB hC hm fT
 go_enter Tryz.func41,Tryz.ntmps41
 go_wp2_with (first
  |(obtain⟨q1,q2,q3⟩:=HQ.out;(rw[q1,q2,q3]);(with_reducible refine wpList_load_mid rfl 36 (.tmp 2) rfl b2 0 ?hx B.cells _ j_.out je rfl HIB.out ?_);(case hx=>rfl);clear q1 q2 q3)
  | (go_at_call 16;(with_reducible refine(aa0 B w1).mono ?_);rintro e V ⟨bL,rfl,hb,-,hl⟩
     have r7:=hZ hl;have au:=hZ (HF.out.step hb);have sc:=hZ (bl (au.out.has (b3,.cells C.cells.toArray 36 (0,0)) (by simp)))
     clear hb hl)
  |(with_reducible refine lx (.tmp 3) b3 0 sc.out HIC.out je ?_)
  | (go_at_call 16;(with_reducible refine(aa0 C V).mono ?_);rintro e V2 ⟨bM,rfl,hb,-,hl⟩
     have qO:ag (At w V2 [(bM,.cells C.cells.toArray 25 (0,0)),(bL,.cells B.cells.toArray 25 (0,0))]):=hZ ((((au.out.cons r7.out).step hb).cons hl).less (by simp))
     clear hb hl)
  |fail)
 go_loopw [7] (fun v wr=> ∃i:Nat,v=.int .i64 (i:Int)∧i≤9∧ag (∀j,j<i→B.ls j=C.ls j)∧ag (At w wr [(bM,.cells C.cells.toArray 25 (0,0)),(bL,.cells B.cells.toArray 25 (0,0))])) (fun v _=>9-(intOf v).toNat)
 case atStart=>exact⟨0,rfl,ei _,hZ fun j hj=>(by omega),qO⟩
 case round=>
  clear qO;obtain⟨i,rfl,hi,HT,HA⟩:=hrel
  by_cases ar:i<9
  · have d1:decide ((i:Int)<9)=true:=by simp;omega
    (have z1:(0:Int)≤(i:Int):=by omega);(have z2:(i:Int)<9:=by omega);(have wk:IntKind.i64.wrap ((i:Int)+1)=((i+1:Nat):Int):=by rw[IntKind.wrap_i64];omega);have aL:=hZ ar;have bu:wr.drew.cell? ⟨bL,i,none⟩=some (.slice (B.ad i) (B.ls i).length (B.cp i))∧wr.drew.cell? ⟨bM,i,none⟩=some (.slice (C.ad i) (C.ls i).length (C.cp i)):=⟨HA.out.drew.cell (b:=bL) (cs:=B.cells.toArray) (t:=25) (by simp) (B.su ar),HA.out.drew.cell (b:=bM) (cs:=C.cells.toArray) (t:=25) (by simp) (C.su ar)⟩;obtain⟨q,hq⟩:=oQ (decide (B.ls i=C.ls i));have CS:=hZ (am7 (B.ls i) (C.ls i) (B.ad i) (C.ad i) _ _ (B.cp i) (C.cp i) wr.drew ((HB.out.at_ i ar).below HA.out.drew.below) ((HC.out.at_ i ar).below HA.out.drew.below) ⟨rfl,HM.out.1 i ar⟩ ⟨rfl,HM.out.2 i ar⟩);rw[hq] at CS;have Aq:=hZ hq;have HAd:=hZ HA.out.drew;clear ar hq HA;go_wp2_with fail;refine cJ (fun U=>U.cell? ⟨bL,i,none⟩=some (.slice (B.ad i) (B.ls i).length (B.cp i))∧U.cell? ⟨bM,i,none⟩=some (.slice (C.ad i) (C.ls i).length (C.cp i))) bu fun hHeld=>?_;refine bg 0 1 2 3 ?_;refine bg 4 5 6 7 ?_;refine rE 8 fun K hK=>?_;go_simp
    (with_reducible refine CS.out.mono ?_)
    rintro r V9 ⟨rfl,hb⟩;have KW:=hZ (HAd.out.step hb);have Mb:V9.cell? ⟨bL,i,none⟩=some (.slice (B.ad i) (B.ls i).length (B.cp i))∧V9.cell? ⟨bM,i,none⟩=some (.slice (C.ad i) (C.ls i).length (C.cp i)):=⟨KW.out.cell (b:=bL) (cs:=B.cells.toArray) (t:=25) (by simp) (B.su aL.out),KW.out.cell (b:=bM) (cs:=C.cells.toArray) (t:=25) (by simp) (C.su aL.out)⟩;clear hb;refine kk hK Mb fun hHeld=>?_;clear hK K;refine tk 9 ?_;refine dn ?_;clear hHeld bu Mb;cases q
    · go_wp2_with fail
      go_ret
      have hs:sQ B C=false:=by
       cases h:sQ B C
       · rfl
       · have:=(BN B C).1 h i aL.out
         have h2:=Aq.out;rw[decide_eq_true this] at h2;cases h2
      rw[hs];exact⟨rfl,KW.out.below⟩
    · have dD:ag (∀j,j<i+1→B.ls j=C.ls j):=hZ fun j hj=>by
       rcases fB j i with h|h
       · exact HT.out j h
       · obtain rfl:j=i:=by omega
         exact of_decide_eq_true Aq.out
      go_wp2_with fail
      go_round
      case rel=>exact⟨i+1,rfl,aL.out,dD,KW⟩
      case measure=>simp[intOf];have:=aL.out;omega
  · have d1:decide ((i:Int)<9)=false:=by simp;omega
    have HS:ag (sQ B C=true):=hZ ((BN B C).2 fun j hj=>HT.out j (by omega));go_wp2_with fail;go_ret;rw[HS.out];exact⟨rfl,HA.out.below⟩
section
variable {α:Type} {lt:α→α→Bool} {x:α} {l:List α} {k:Nat}
theorem akl (hk:k≤l.length) (h1:∀j y,j<k→l[j]?=some y→lt x y=false) (h2:∀y,l[k]?=some y→lt x y=true):oe lt x l=l.take k++([x]++l.drop k):=by
 induction l generalizing k with
 |nil=>simp at hk;subst hk;rfl
 | cons y l ih=>
   cases k with
   |zero=>unfold oe;rw[if_pos (h2 y rfl)];rfl
   | succ k=>
     unfold oe;rw[if_neg (by rw[h1 0 y (by omega) rfl];decide),ih (by simpa using hk) (fun j z hj hz=>h1 (j+1) z (by omega) hz) (fun z hz=>h2 z hz)];rfl
theorem Nr (l:List α) (x:α):dc lt (l++[x])=oe lt x (dc lt l):=by unfold dc;rw[List.foldl_append];rfl
theorem MH (O:p7 lt) (hu:Up lt l) (hk:k≤l.length) (h1:∀y,0<k→l[k-1]?=some y→lt x y=false) (h2:∀j y,k≤j→l[j]?=some y→lt x y=true):l.take k++([x]++l.drop k)=oe lt x l:=by
 refine(akl hk (fun j y hj hy=>?_) fun y hy=>h2 k y (aB _) hy).symm;obtain⟨z,hz⟩:∃z,l[k-1]?=some z:=⟨_,bp (by omega)⟩;have h3:=h1 z (by omega) hz
 by_cases hjk:j=k-1
 · subst hjk;rw[hz] at hy;cases hy;exact h3
 · refine O.neg x z y h3 ?_
   obtain⟨a1,e1⟩:=dL.1 hy;obtain⟨a2,e2⟩:=dL.1 hz;rw[←e1,←e2];exact List.pairwise_iff_getElem.1 hu j (k-1) a1 a2 (by omega)
theorem akp (TM:∀a b,lt a b=true∨a=b∨lt b a=true) (Gd:∀a b c,lt a b=true→lt b c=true→lt a c=true) (hu:wH lt l) (hk:k≤l.length) (h1:∀j y,j<k→l[j]?=some y→lt y x=true) (h2:∀y,l[k]?=some y→lt y x=false∧y≠x):
 wH lt (l.take k++([x]++l.drop k)):=by
 unfold wH at hu⊢
 have hd:∀y∈l.drop k,lt x y=true:=fun y hy=>by
  obtain⟨z,hz⟩:∃z,l[k]?=some z:=by
   rcases fB k l.length with h|h
   · exact⟨_,bp h⟩
   · rw[ux h] at hy;cases hy
  obtain⟨od,l7⟩:=h2 z hz
  have hxz:lt x z=true:=by
   rcases TM z x with q|q|q
   · rw[od] at q;cases q
   · exact(l7 q).elim
   · exact q
  obtain⟨ic,ez⟩:=dL.1 hz;rw[pN ic,ez] at hy;rcases dG.1 hy with rfl|hy
  · exact hxz
  · refine Gd _ _ _ hxz ?_
    have h3:(l.drop k).Pairwise fun a b=>lt a b=true:=hu.sublist (agB _ _);rw[pN ic,ez] at h3;exact(Cc.1 h3).1 y hy
 have ht:∀y∈l.take k,lt y x=true:=fun y hy=>by
  obtain⟨j,hj,e⟩:=List.getElem_of_mem hy;rw[gD] at hj;exact h1 j y (by omega) (by rw[bp (by omega),←e];simp)
 refine List.pairwise_append.2 ⟨hu.sublist (List.take_sublist _ _),Cc.2 ⟨hd,hu.sublist (agB _ _)⟩,fun a ha b hb=>?_⟩;rcases dG.1 hb with rfl|hb
 · exact ht a ha
 · exact Gd _ _ _ (ht a ha) (hd b hb)
theorem akq (y:α):y∈l.take k++([x]++l.drop k)↔y=x∨y∈l:=by
 have h:=tg k l;constructor
 · intro hy
   rcases pR.1 hy with q|q
   · right;rw[←h];exact agT _ q
   · rcases dG.1 q with q|q
     · exact .inl q
     · right;rw[←h];exact agU _ q
 · rintro(rfl|hy)
   · simp
   · rw[←h] at hy
     rcases pR.1 hy with q|q
     · exact agT _ q
     · exact agU _ (List.mem_cons_of_mem _ q)
end
section
variable {α:Type} {T:bF} {s:Nat} {f:α→List ai} {w:ae} {N g n c:Nat} {l:List α}
theorem OL.Qs (h:OL w N T s f (.slice (some ⟨g,0,none⟩) n c) l) {j:Nat} {v:ai} (hf:∀x,(f x).length=s) (hj:(l.flatMap f)[j]?=some v):w.cell? ⟨g,j,none⟩=some v:=by
 have hn:=h.len.1;subst hn;have hlen:(l.flatMap f).length=l.length*s:=m_ hf;have hl:=(dL.1 hj).1;rw[World.ownsRow.cellAt h j (by omega)];exact hj
theorem OL.aiB (h:OL w N T s f (.slice (some ⟨g,0,none⟩) n c) l) (hf:∀x,(f x).length=s) (k:Nat):∀j v,((l.take k).flatMap f)[j]?=some v→∃a,(some ⟨g,0,none⟩:Option bI)=some a∧w.cell? (a.add j)=some v:=fun j v hv=>by
 refine⟨_,rfl,?_⟩;rw[show(⟨g,0,none⟩:bI).add j=⟨g,j,none⟩ from by simp[jy];omega];refine h.Qs hf ?_;rw[←QK hf,List.getElem?_take] at hv
 split at hv
 · exact hv
 · cases hv
theorem OL.amH (h:OL w N T s f (.slice (some ⟨g,0,none⟩) n c) l) (hf:∀x,(f x).length=s) (k:Nat) (hk:k≤l.length):∀j v,((l.drop k).flatMap f)[j]?=some v→∃a,(some ⟨g,k*s,none⟩:Option bI)=some a∧w.cell? (a.add j)=some v:=fun j v hv=>by
 refine⟨_,rfl,?_⟩;rw[show(⟨g,k*s,none⟩:bI).add j=⟨g,k*s+j,none⟩ from by simp[jy]];refine h.Qs hf ?_;have e1:l.flatMap f=(l.take k).flatMap f++(l.drop k).flatMap f:=by rw[←List.flatMap_append,tg]
 have e2:((l.take k).flatMap f).length=k*s:=by rw[m_ hf,gD,Nat.min_eq_left hk]
 rw[e1,List.getElem?_append_right (by omega),e2,show k*s+j-k*s=j by omega];exact hv
end
def vK (A:Option bI) (c k s:Nat):Option bI:=if c=k then A else A.map (·.add (k*s))
section
variable {α:Type} {P:Program} {t e:bF} {s iw:Nat} {f:α→List ai} {w:ae} {N n c k:Nat} {A:Option bI} {l:List α}
theorem OL.aiC (h:OL w N e s f (.slice A n c) l) (hf:∀x,(f x).length=s) (k:Nat):∀j v,((l.take k).flatMap f)[j]?=some v→∃a,A=some a∧w.cell? (a.add j)=some v:=fun j v hv=>by
 by_cases h0:l=[]
 · subst h0;simp at hv
 · obtain⟨g,cg,e1,-,-,-,-⟩:=h.form (Ov.2 h0)
   (obtain rfl:A=some ⟨g,0,none⟩:=by injection e1);exact h.aiB hf k j v hv
theorem OL.amI (h:OL w N e s f (.slice A n c) l) (hf:∀x,(f x).length=s) (k:Nat) (hk:k≤l.length):∀j v,((l.drop k).flatMap f)[j]?=some v→∃a,vK A c k s=some a∧w.cell? (a.add j)=some v:=fun j v hv=>by
 by_cases h0:l=[]
 · subst h0;simp at hv
 · obtain⟨g,cg,e1,-,-,-,-⟩:=h.form (Ov.2 h0)
   (obtain rfl:A=some ⟨g,0,none⟩:=by injection e1);have hl:=h.len;unfold vK
   by_cases hc:c=k
   · rw[ux (by omega)] at hv;simp at hv
   · rw[if_neg hc]
     obtain⟨a,h1,h2⟩:=h.amH hf k hk j v hv;cases h1;refine⟨_,rfl,?_⟩
     have e3:(⟨g,0,none⟩:bI).add (k*s)=⟨g,k*s,none⟩:=by
      unfold jy
      split
      · rename_i h;rw[h]
      · simp
     show w.cell? (((⟨g,0,none⟩:bI).add (k*s)).add j)=some v;rw[e3];exact h2
theorem am5 (E:gi P t e s iw) (w:ae) (hk:k≤c):(NR t (.slice A n c) none (some (.int .i64 (k:Int))) none).run P w=.ok (.slice A k c) w:=by
 obtain⟨i,z,h1,h2,h3,h4,h5⟩:=E.info;have:A.map (·.add (0*s))=A:=by cases A<;>simp[jy]
 simp[NR,acZ,U' E.ht,ac0,agh,sizeOf,U_,h1,show(k:Int)≤(c:Int) by omega,jy]
theorem am6 (E:gi P t e s iw) (w:ae) (hk:k≤n):(NR t (.slice A n c) (some (.int .i64 (k:Int))) none none).run P w=.ok (.slice (vK A c k s) (n-k) (c-k)) w:=by
 obtain⟨i,z,h1,h2,h3,h4,h5⟩:=E.info;simp[NR,acZ,U' E.ht,ac0,agh,sizeOf,U_,h1,h3,show(k:Int)≤(n:Int) by omega,vK]
theorem acP {ops:Array aZ} {rest:List aZ} {o:aZ} {a:Act} {Q:Exit→Act→ae→Prop} (ct:o.guard=none) (x kk:ef) (lo:Bool) (ho:o.op=.slice t x (if lo then some kk else none) (if lo then none else some kk) none)
 (E:gi P t e s iw) (hx:a.eval x=.slice A n c) (iR:a.eval kk=.int .i64 (k:Int)) (hk:if lo then k≤n else k≤c)
 (h:dT P ops Q rest (a.put o.dst (if lo then .slice (vK A c k s) (n-k) (c-k) else .slice A k c)) w):dT P ops Q (o::rest) a w:=by
 refine Ve ct fun K hK=>?_;have h9:=hK _ _ h;unfold Oper.wp execOp;cases lo
 · simp only[ho,if_false,Bool.false_eq_true,Option.map_none,Option.map_some,hx,iR,sY,am5 E w hk,sX]
   exact h9
 · simp only[ho,if_true,Option.map_none,Option.map_some,hx,iR,sY,am6 E w hk,sX]
   exact h9
variable {ops:Array aZ} {rest:List aZ} {o1 o2:aZ} {a:Act} {Q:Exit→Act→ae→Prop}
theorem BV (g1:o1.guard=none) (g2:o2.guard=none) (x kk v y:ef) (t:bF) (ho:o1.op=.slice t x none (some kk) none) (sJ:o2.op=.call {callee:=.builtin .append,args:=#[v,y],argTypes:=#[t,t]})
 (E:gi P t e s iw) (hf:∀x,(f x).length=s) (kP:∀x,∀u∈f x,u.oneCell'=true) (h:OL w N e s f (.slice A n c) l) (hn:n≤1000000∧iw≤1000) (k:Nat) (hk:k≤n) (hx:a.eval x=.slice A n c) (iR:a.eval kk=.int .i64 (k:Int))
 (hv:(a.put o1.dst (.slice A k c)).eval v=.slice none 0 0) (hy:(a.put o1.dst (.slice A k c)).eval y=.slice A k c)
 (sI:∀v' w',OL w' w.heap.size e s f v' (l.take k)→Below w.heap.size w w'→dT P ops Q rest ((a.put o1.dst (.slice A k c)).put o2.dst v') w'):dT P ops Q (o1::o2::rest) a w:=by
 have hl:=h.len;refine acP g1 x kk false ho E hx iR (show k≤c by omega) ?_;obtain⟨cO,cN⟩:=hn;have hm:k*iw≤1000000*1000:=Vr (by omega) cN;refine TU g2 v y t sJ E hf _ [] hv (OL.nil (B:=w.heap.size)) A (l.take k) k c (by rw[gD];omega) hy h.FZ (h.aiC hf k) (fun x _=>kP x) (by unfold cH;simp;omega) (by simp;omega) (aB _) ?_;intro v' w' r1 _ r3;exact sI v' w' r1 r3
theorem BW (g1:o1.guard=none) (g2:o2.guard=none) (x kk v y:ef) (t:bF) (ho:o1.op=.slice t x (some kk) none none) (sJ:o2.op=.call {callee:=.builtin .append,args:=#[v,y],argTypes:=#[t,t]})
 (E:gi P t e s iw) (hf:∀x,(f x).length=s) (kP:∀x,∀u∈f x,u.oneCell'=true) (h:OL w N e s f (.slice A n c) l) (hn:n≤1000000∧iw≤1000) (k:Nat) (hk:k≤n) (hx:a.eval x=.slice A n c) (iR:a.eval kk=.int .i64 (k:Int))
 (v0:ai) (m:List α) (Gc:Nat) (hm:m.length+(n-k)=Gc∧m.length≤1000001) (B:Nat) (hB:B≤w.heap.size) (h0:OL w B e s f v0 m) (hv:(a.put o1.dst (.slice (vK A c k s) (n-k) (c-k))).eval v=v0) (hy:(a.put o1.dst (.slice (vK A c k s) (n-k) (c-k))).eval y=.slice (vK A c k s) (n-k) (c-k))
 (sI:∀A' c' w',OL w' B e s f (.slice A' Gc c') (m++l.drop k)→Below B w w'→dT P ops Q rest ((a.put o1.dst (.slice (vK A c k s) (n-k) (c-k))).put o2.dst (.slice A' Gc c')) w'):dT P ops Q (o1::o2::rest) a w:=by
 have hl:=h.len;refine acP g1 x kk true ho E hx iR (show k≤n by omega) ?_;obtain⟨cO,cN⟩:=hn;obtain⟨rfl,hm⟩:=hm;have fT:(m.length+(n-k))*iw≤2000001*1000:=Vr (by omega) cN;refine TU g2 v y t sJ E hf _ m hv h0 (vK A c k s) (l.drop k) (n-k) (c-k) (by rw[pP];omega) hy ?_ (h.amI hf k (by omega)) (fun x _=>kP x) (by unfold cH;omega) (by omega) hB ?_
 · intro q
   have:A=none:=by
    unfold vK at q
    split at q
    · exact q
    · cases A
      · rfl
      · cases q
   have:=h.FZ this;omega
 intro v' w' r1 _ r3;obtain⟨A',c',e9,-,-⟩:=r1.slice;rw[eV,pP,←hl.1] at e9;subst e9;exact sI A' c' w' r1 r3
theorem sT (g1:o1.guard=none) (g2:o2.guard=none) (x v y:ef) (t:bF) (ho:o1.op=.buildSlice t 1 #[(0,x)]) (sJ:o2.op=.call {callee:=.builtin .append,args:=#[v,y],argTypes:=#[t,t]})
 (E:gi P t e s iw) (hb:iw≤1000) (z:α) (hf:(f z).length=s) (kP:∀u∈f z,u.oneCell'=true) (xv:ai) (hx:a.eval x=xv) (hr:∀w:ae,(Instr.buildSlice t 1 #[(0,xv)]).run P w=.ok (.slice (some ⟨w.heap.size,0,none⟩) 1 1) (w.alloc (.cells (f z).toArray e)))
 (v0:ai) (m:List α) (mn:Nat) (hm:m.length=mn∧mn≤1000000) (B:Nat) (hB:B≤w.heap.size) (h0:OL w B e s f v0 m) (hv:(a.put o1.dst (.slice (some ⟨w.heap.size,0,none⟩) 1 1)).eval v=v0) (hy:(a.put o1.dst (.slice (some ⟨w.heap.size,0,none⟩) 1 1)).eval y=.slice (some ⟨w.heap.size,0,none⟩) 1 1)
 (sI:∀A' c' w',OL w' B e s f (.slice A' (mn+1) c') (m++[z])→Below B w w'→dT P ops Q rest ((a.put o1.dst (.slice (some ⟨w.heap.size,0,none⟩) 1 1)).put o2.dst (.slice A' (mn+1) c')) w'):dT P ops Q (o1::o2::rest) a w:=by
 obtain⟨rfl,hm⟩:=hm;have fT:(m.length+1)*iw≤1000001*1000:=Vr (by omega) hb;have gw:=(aY w (.cells (f z).toArray e)).mono hB;refine Ve g1 fun K hK=>?_;unfold Oper.wp execOp;simp only[ho,List.map_toArray,List.map_cons,List.map_nil,hx,sY,hr,sX];refine hK _ _ ?_;refine nJ g2 v y t sJ E v0 m m.length rfl hv (h0.alloc _) z w.heap.size (f z).toArray hy (bG _ _) rfl hf kP (by unfold cH;omega) (by omega) (aV hB gw.size) ?_;intro g c' w' r1 _ _ _ r3;exact sI _ c' w' r1 (gw.trans r3)
end
end Go.Proofs.YteeifhlhpiimoaaGreatDoor
end
