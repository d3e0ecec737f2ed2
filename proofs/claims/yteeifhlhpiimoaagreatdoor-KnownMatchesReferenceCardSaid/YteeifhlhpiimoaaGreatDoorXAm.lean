/-
  Contracts of the law's example and key; the like for what stands beside it. Conditions: each contract's own.
-/
import Derived.Test.YteeifhlhpiimoaaGreatDoorXAl
import Derived.Test.YteeifhlhpiimoaaGreatDoorXAk
import Derived.Great.FillDense
import Derived.Test.YteeifhlhpiimoaaGreatDoorXAj
import Derived.Test.YteeifhlhpiimoaaGreatDoorXAa
import Derived.Test.YteeifhlhpiimoaaGreatDoorXAc
import Derived.Test.YteeifhlhpiimoaaGreatDoorXAb
import Derived.Test.YteeifhlhpiimoaaGreatDoorXAe
import Derived.Test.YteeifhlhpiimoaaGreatDoorXAh
set_option maxHeartbeats 4000000
set_option maxRecDepth 100000
open Array renaming getElem?_eq_some_iff→fU,length_toList→oo
open Go renaming Calls→ax,Ending→qC,TypeId→bF,Value→ai,World→ae,madeCells→Aa,maxLen→cH,wpList→dT,wpList_load_mid→GG
open Go.Act renaming put→sV
open Go.Addr renaming add→jy
open Go.IntKind renaming i64→aQ,u8→Uf,wrap_i64→aS,wrap_u8→Ug
open Go.Proofs.Tryz renaming func155→ado,func217→adC,func218→Uy,func28→adN,func30→adT,ntmps155→aey,ntmps217→aeK,ntmps218→UN,ntmps28→aeP,ntmps30→aeQ,prog→ah,underlying116→uu,underlying36→je,underlying75→vS
open Go.RowKit renaming Hid→ag
open Go.RowKit.Below renaming drew→eR,refl→bK
open Go.Value renaming oneCell'→lH
open Go.World renaming alloc_heap_new→bG,rangeAt→k7
open List renaming append_assoc→Ek,drop_eq_getElem_cons→pN,drop_of_length_le→GL,drop_zero→vW,getElem?_eq_getElem→bp,getElem?_eq_some_iff→dL,getLast?_cons_cons→Vn,getLast?_eq_getElem?→agQ,length→GO,length_append→eV,length_cons→eF,length_map→rP,length_take→gD,map_cons→nM,mem_cons→dG,mem_of_getElem?→mP,mem_singleton→fQ,replicate→jY,reverse_cons→ag0,setIfInBounds_toArray→ta,set_cons_succ→tc,set_cons_zero→td,take_add_one→gV,take_append_drop→tg,take_of_length_le→eE
open Nat renaming add_mul→En,add_zero→Ce,eq_zero_or_pos→fL,le_of_lt→uz,le_refl→aB,lt_of_lt_of_le→iX,lt_or_ge→fB,min_eq_left→Cf,mul_add→GQ,mul_assoc→Cg,mul_comm→nN,mul_le_mul_left→GS,mul_le_mul_right→GU,mul_one→ag4,pow_succ→mQ,strongRecOn→vX,zero_le→ei
open Option.some renaming inj→mR,injEq→ag9
section
namespace Go.Proofs.YteeifhlhpiimoaaGreatDoor
open Go Go.RowKit Go.Shelf
attribute [local go_sem] Oper.semAt_some
theorem eW.of_block {w:ae} {b:Nat} {l:List af} {T:bF} (h:w.heap[b]?=some (.cells (l.flatMap af.cells).toArray T (0,0))):eW w (bV w) (some ⟨b,0,none⟩) l:=fun i e he=>by
 refine⟨b,rfl,(fU.1 h).1,fun j v hv=>aJ h ?_⟩;have hj:j<18:=(dL.1 hv).1;have:=mA (f:=af.cells) (s:=18) (fun _=>rfl) l i e he j hj;simpa using this.trans hv
theorem ao7 {ops:Array Oper} {rest:List Oper} {o:Oper} {a:Act} {w:ae} {Q:Exit→Act→ae→Prop} (ct:o.guard=none) (n:Nat) (parts:Array (Nat×Operand)) (ho:o.op=.buildSlice 25 n parts) (hn:0<n∧n≤1000) (l:List af)
 (hlen:l.length=n) (RZ:(parts.map fun(i,x)=>(i,a.eval x)).toList=((l.map af.val).zipIdx 0).map fun x=>(x.2,x.1))
 (hk:∀b V,w.heap.size=b→Below b w V→eW V (bV V) (some ⟨b,0,none⟩) l→dT ah ops Q rest (a.put o.dst (.slice (some ⟨b,0,none⟩) n n)) V):dT ah ops Q (o::rest) a w:=by
 refine wpList_plain ct fun K hK=>?_;have h:=hK _ _ (hk _ _ rfl (aY w (.cells (l.flatMap af.cells).toArray 33)) (eW.of_block (bG w _)));obtain⟨i,h1,h2,h3,h4⟩:=info_parts (show(ah.info? 33).map (fun i=>(i.zero,i.size,i.bytes))=some (some aW.val,18,200) by kernel_rfl);refine wp_buildSlice 25 33 n parts ho (l.flatMap af.cells).toArray i aW.val Tryz.underlying25 h1 h2 (by rw[h3];omega) (by rw[h3];omega) ?_ h;rw[h3,RZ]
 have hc:∀v∈l.map af.val,v.cells.size=18:=fun v hv=>by
  obtain⟨e,_,rfl⟩:=List.mem_map.1 hv;rfl
 have:=Great.fill_whole (s:=18) (by decide) (l.map af.val) ((Array.range (n*18)).map (aW.val.cells[· %aW.val.cells.size]!)) hc (by simp[hlen]);rw[this,List.flatMap_map];rfl
theorem amN (w:ae):ax ah 43 #[.int .i64 1] w fun e w'=>e=.returned (.string (uj 1))∧Below w.heap.size w w':=Th 1 (by omega) w
theorem amO (w:ae):ax ah 43 #[.int .i64 2] w fun e w'=>e=.returned (.string (uj 2))∧Below w.heap.size w w':=Th 2 (by omega) w
def AQ:af:={aW with kind:=2,bR:=1,item:=2,rn:=⟨#[49]⟩,rd:=⟨#[49,48]⟩}
def qZ:af:={aW with kind:=1,bR:=1,day:=10,id:=1,item:=2,bQ:=1,az:=10,ln:=⟨#[52]⟩,ld:=⟨#[49]⟩,hn:=⟨#[53]⟩,hd:=⟨#[49]⟩}
def Da:af:={aW with kind:=1,bR:=1,day:=30,id:=2,item:=2,bQ:=1,az:=5,ln:=⟨#[51]⟩,ld:=⟨#[49]⟩,hn:=⟨#[52]⟩,hd:=⟨#[49]⟩}
def E':af:={aW with kind:=5,bR:=1,id:=1,bQ:=3,bj:=100,text:=uj 1}
def E_:af:={aW with kind:=5,bR:=1,id:=2,bQ:=3,az:=50,bj:=200,text:=uj 2}
def Fa:af:={aW with kind:=6,bR:=1,item:=2,az:=60}
def IA:af:={aW with kind:=9,bR:=1,id:=1,item:=2,dj:=9}
def LQ:af:={aW with kind:=8,bR:=1,item:=2,rn:=⟨#[51]⟩,rd:=⟨#[49]⟩}
def lv:List af:=[AQ,qZ,Da,E',E_,Fa,IA,LQ]
theorem aja (w:ae):ax ah 48 #[] w fun e w'=> ∃b,e=.returned (.slice (some ⟨b,0,none⟩) 8 8)∧eW w' (bV w') (some ⟨b,0,none⟩) lv∧Below w.heap.size w w':=by
 have HB:=hZ (bK w.heap.size w)
 go_enter Tryz.func48,Tryz.ntmps48
 go_wp2_with (first
  |((with_reducible refine ao7 rfl 8 #[(0,.tmp 2),(1,.tmp 6),(2,.tmp 10),(3,.tmp 12),(4,.tmp 14),(5,.tmp 15),(6,.tmp 16),(7,.tmp 18)] rfl ?hn lv ?hl ?hp ?_);(case hn=>decide);(case hl=>rfl);(case hp=>kernel_rfl);intro b V hb aC mD;have pS:=hZ mD;have HB:=hZ (HB.out.trans (aC.mono (by have:=HB.out.size;omega)));clear hb aC mD)
  |(refine wpList_build rfl 29 #[(0,.const (.string ⟨#[49]⟩)),(1,.const (.string ⟨#[49,48]⟩))] rfl #[.string ⟨#[49]⟩,.string ⟨#[49,48]⟩] (by kernel_rfl) ?_)
  |(refine wpList_build rfl 33 #[(0,.const (.int .i64 2)),(2,.const (.int .i64 1)),(8,.const (.int .i64 2)),(12,.tmp 1)] rfl AQ.cells.toArray (by kernel_rfl) ?_)
  |(go_at_call 50;(with_reducible refine(abd _ _).mono ?_);rintro e2 w2 ⟨rfl,aA⟩;have HB:=aw HB aA;clear aA)
  |(go_at_call 43;(first|(with_reducible refine(amN _).mono ?_)|(with_reducible refine(amO _).mono ?_));rintro e2 w2 ⟨rfl,aA⟩;have HB:=aw HB aA;clear aA)
  |fail)
 go_ret;exact⟨b,rfl,pS.out,HB.out⟩
theorem ah1 (s t:ByteArray):(s.toList==t.toList)=decide (s=t):=by
 by_cases h:s=t
 · subst h;simp
 · have:s.toList≠t.toList:=fun q=>h (toList_inj q)
   simp[h,this]
def JX (B:bP) (t:Int) (n:Nat):Bool:=(l8 B 3 t).2&&decide ((l8 B 3 t).1.text=uj n)
theorem SS (B:bP):B.cells.toArray.all (·.oneCell')=true:=by simp[bP.cells,lH]
theorem Xw {P:Program} {ops:Array Oper} {rest:List Oper} {op:Oper} {a:Act} {w:ae} {Q:Exit→Act→ae→Prop} (ct:op.guard=none) (T:bF) (x:Operand) (ho:op.op=.box T x) (cs:Array ai) (hx:a.eval x=.agg cs)
 (h:∀b w',w.heap.size=b→w'.heap[b]?=some (.cells cs T (0,0))→Below b w w'→w'.heap.size=b+1→dT P ops Q rest (a.put op.dst (.pointer (some ⟨b,0,none⟩))) w'):dT P ops Q (op::rest) a w:=
 wpList_plain ct fun _ hK=>by
  have h2:=hK _ _ (h _ (w.alloc (.cells cs T)) rfl (bG w _) (aY w _) (by simp));unfold Oper.wp execOp;simp only[ho,hx,Instr.box,Sem.run_bind,Sem.run_pure,newVar,newRow,Value.cells];simpa[go_sem] using h2
theorem qx (B:bP):(ah.info? 36).map (·.size)=some B.cells.length:=by kernel_rfl
theorem akM (B:bP) (t:Int) (n:Nat) (hn:n≤1000000) (w:ae) (hB:dH w (bV w) B):ax ah 49 #[B.val,.int .i64 t,.int .i64 n] w (cC w (JX B t n)):=by
 have HB:=hZ hB;clear hB;obtain⟨q,hq⟩:=oQ ((l8 B 3 t).2);obtain⟨s,hs⟩:=oQ ((l8 B 3 t).1.text);have hk:JX B t n=(q&&decide (s=uj n)):=by unfold JX;rw[hq,hs]
 have Wj:ag (∀W,Below w.heap.size w W→ax ah 23 #[B.val,.int .i64 3,.int .i64 t] W fun e w'=>e=.returned (.tuple #[.string s,.bool q])∧Below W.heap.size W w'):=hZ (fun W hW=>by
  have:=SG B 3 t W (HB.out.below hW);rw[hq,hs] at this
  exact this)
 rw[hk];clear hq hs hk
 go_enter Tryz.func49,Tryz.ntmps49
 cases q
 · go_wp2_with (first
    | ((with_reducible refine Xw rfl 36 (.tmp 0) rfl B.cells.toArray ?hx ?_);(case hx=>rfl);intro b0 w1 dt cO aq aP
       have HR:ag (w1.rangeAt b0 0 B.cells):=hZ (bl cO);have aF:ag (Below w.heap.size w w1):=hZ (aq.mono (by omega))
       clear dt cO aq aP)
    |((with_reducible refine GG rfl 36 (.tmp 3) rfl b0 0 ?hx B.cells _ HR.out je rfl ?hi ?_);(case hx=>rfl);(case hi=>exact qx B))
    |(go_at_call 23;(with_reducible refine(Wj.out _ aF.out).mono ?_);rintro e2 w2 ⟨rfl,aA⟩;have aG:=aw aF aA;clear aA)
    |fail)
   go_ret;exact⟨rfl,aG.out⟩
 · go_wp2_with (first
    | ((with_reducible refine Xw rfl 36 (.tmp 0) rfl B.cells.toArray ?hx ?_);(case hx=>rfl);intro b0 w1 dt cO aq aP
       have HR:ag (w1.rangeAt b0 0 B.cells):=hZ (bl cO);have aF:ag (Below w.heap.size w w1):=hZ (aq.mono (by omega))
       clear dt cO aq aP)
    |((with_reducible refine GG rfl 36 (.tmp 3) rfl b0 0 ?hx B.cells _ HR.out je rfl ?hi ?_);(case hx=>rfl);(case hi=>exact qx B))
    |(go_at_call 23;(with_reducible refine(Wj.out _ aF.out).mono ?_);rintro e2 w2 ⟨rfl,aA⟩;have aG:=aw aF aA;clear aA)
    |(go_at_call 43;(with_reducible refine(Th n hn _).mono ?_);rintro e3 w3 ⟨rfl,aK⟩;have a_:=aw aG aK;clear aK)
    |fail)
   go_ret;refine⟨?_,a_.out⟩;show Ending.returned (.bool (s.toList==(uj n).toList))=_;rw[ah1,Bool.true_and]
theorem E8:eG lv 30=lv:=by kernel_rfl
theorem X_:eG lv 10=[AQ,qZ,E',E_,Fa,IA,LQ]:=by kernel_rfl
theorem Ya:eG lv 9=[AQ,E',E_,Fa,IA,LQ]:=by kernel_rfl
theorem akD:gB lv 9 0=[]:=by unfold gB;rw[Ya];kernel_rfl
theorem akE:gB lv 9 1=[AQ]:=by unfold gB;rw[Ya];kernel_rfl
theorem aaK:gB lv 10 0=[qZ]:=by unfold gB;rw[X_];kernel_rfl
theorem akA:gB lv 10 1=[AQ]:=by unfold gB;rw[X_];kernel_rfl
theorem aaL:gB lv 30 0=[qZ,Da]:=by unfold gB;rw[E8];kernel_rfl
theorem akB:gB lv 30 1=[AQ]:=by unfold gB;rw[E8];kernel_rfl
theorem aaM:gB lv 30 4=[E',E_]:=by unfold gB;rw[E8];kernel_rfl
theorem aaN:gB lv 30 5=[Fa]:=by unfold gB;rw[E8];kernel_rfl
theorem akC:gB lv 30 7=[LQ]:=by unfold gB;rw[E8];kernel_rfl
theorem aaO:gB lv 30 8=[IA]:=by unfold gB;rw[E8];kernel_rfl
theorem ajU:dc (dQ af.az af.id) (iO [qZ] 2)=[qZ]:=by kernel_rfl
theorem ajV:dc (dQ af.az af.id) (iO [qZ,Da] 2)=[Da,qZ]:=by kernel_rfl
theorem su8:zy (([IA].filter fun e=>decide (e.item=2)).map fun e=>e.dj)=[9]:=by kernel_rfl
end Go.Proofs.YteeifhlhpiimoaaGreatDoor
end
section
namespace Go.Proofs.YteeifhlhpiimoaaGreatDoor
open Go Go.RowKit Go.Shelf Wr
attribute [local go_sem] Oper.semAt_some
def iC {α:Type} (w:ae) (f:α→List ai) (k:Nat) (A:Option Addr) (l:List α):Prop:=∀(i:Nat) (e:α),l[i]?=some e→∃b,A=some ⟨b,0,none⟩∧b<w.heap.size∧w.rangeAt b (i*k) (f e)
theorem iC.below {α:Type} {w W:ae} {f:α→List ai} {k:Nat} {A:Option Addr} {l:List α} (h:iC w f k A l) (hb:Below w.heap.size w W):iC W f k A l:=fun i e he=>by
 obtain⟨b,h1,h2,h3⟩:=h i e he;exact⟨b,h1,iX h2 hb.size,fun j v hv=>(hb.cell (p:=⟨b,i*k+j,none⟩) h2).trans (h3 j v hv)⟩
theorem iC.iW {α:Type} {w:ae} {B n c k:Nat} {A:Option Addr} {l:List α} {T:bF} {f:α→List ai} (hf:∀x,(f x).length=k) (h:OL w B T k f (.slice A n c) l):iC w f k A l:=by
 intro i e he;rcases h.2 with⟨e1,h0⟩|⟨g,cap,cur,e1,hb,hc,h4,h5,h6,h7⟩
 · have:l=[]:=List.eq_nil_of_length_eq_zero h0
   subst this;simp at he
 · injection e1 with e1 e2 _
   subst e1 e2;refine⟨g,rfl,(fU.1 hc).1,fun j v hv=>?_⟩;(have hj:j<k:=by rw[←hf e];exact(dL.1 hv).1);have hi:i<l.length:=(dL.1 he).1;have hlen:(l.flatMap f).length=l.length*k:=m_ hf
   have ar:i*k+j<l.length*k:=by
    have:(i+1)*k≤l.length*k:=GU _ hi;rw[En] at this;omega
   rw[World.ownsRow.cellAt h (i*k+j) (by omega),mA (f:=f) (s:=k) hf l i e he j hj];exact hv
theorem iC.of_block {α:Type} {w:ae} {b k:Nat} {l:List α} {T:bF} {f:α→List ai} (hf:∀x,(f x).length=k) (h:w.heap[b]?=some (.cells (l.flatMap f).toArray T (0,0))):iC w f k (some ⟨b,0,none⟩) l:=fun i e he=>by
 refine⟨b,rfl,(fU.1 h).1,fun j v hv=>aJ h ?_⟩;have hj:j<k:=by rw[←hf e];exact(dL.1 hv).1
 have:=mA (f:=f) (s:=k) hf l i e he j hj;simpa using this.trans hv
def vP (e f:bY):Bool:=decide (e.item=f.item∧e.az=f.az∧e.bj=f.bj)
theorem zF (e f:bY):vP e f=true↔e=f:=by
 unfold vP;rw[decide_eq_true_eq];constructor
 · rintro⟨h0,h1,h2⟩;cases e;cases f;simp only[bY.mk.injEq];exact⟨h0,h1,h2⟩
 · rintro rfl;simp
instance ap2:DecidableEq bY:=fun e f=>decidable_of_iff (vP e f=true) (zF e f)
theorem Yr (x y:Operand) (cs ds:Array ai) (W:ae):(eqGuard .neq 75 x y (.agg cs) (.agg ds)).run ah W=.ok () W:=by kernel_rfl
theorem abh (e f:bY) (W:ae):(binOp .neq 75 (.agg (bD e).toArray) (.agg (bD f).toArray)).run ah W=.ok (.bool (!vP e f)) W:=by
 obtain⟨a0,a1,a2⟩:=e;obtain⟨b0,b1,b2⟩:=f;unfold bD vP;simp only[];go_simp
 by_cases h0:a0=b0
 case neg=>simp[h0]
 rw[if_pos h0]
 by_cases h1:a1=b1
 case neg=>simp[h1]
 rw[if_pos h1]
 by_cases h2:a2=b2
 case neg=>simp[h2]
 simp[h0,h1,h2]
theorem aca (l m:List Int) (A A2:Option Addr) (n c n2 c2:Nat) (hn:l.length=n) (cN:m.length=n2) (hm:n≤cH) (w:ae) (hA:iC w (one iv) 1 A l) (mC:iC w (one iv) 1 A2 m):
 ax ah 30 #[.slice A n c,.slice A2 n2 c2] w (cC w (decide (l=m))):=by
 have Mt:n≤9223372036854775807:=by unfold cH at hm;omega
 have HA:=hZ hA;have uE:=hZ mC;have HN:=hZ hn;have iz:=hZ cN;clear hA mC hm
 by_cases rk:n=n2
 · subst rk
   clear hn cN;have d0:((n:Int) !=(n:Int))=false:=by simp
   go_enter adT,aeQ
   go_wp2_with fail
   go_loopw [5] (fun v wr=> ∃i:Nat,v=.int .i64 (i:Int)∧i≤n∧ag (l.take i=m.take i)∧Below w.heap.size w wr) (fun v _=>match v with|.int _ k=>n-k.toNat|_=>0)
   case atStart=>exact⟨0,rfl,ei _,hZ rfl,bK _ _⟩
   case round=>
    obtain⟨i,rfl,hi,HT,hB⟩:=hrel;have HB:=hZ hB;clear hB
    by_cases ar:i<n
    · obtain⟨e,he⟩:∃e,l[i]?=some e:=⟨_,bp (by rw[HN.out];exact ar)⟩
      obtain⟨f,hf⟩:∃f,m[i]?=some f:=⟨_,bp (by rw[iz.out];exact ar)⟩;obtain⟨b,sB,-,cP⟩:=(HA.out.below HB.out) i e he;obtain⟨b',De,-,vz⟩:=(uE.out.below HB.out) i f hf;subst sB De;have HE:=hZ (And.intro he hf);(have d1:decide (i<n)=true:=by simp[ar]);(have z1:(0:Int)≤(i:Int):=by omega);(have z2:(i:Int)<(n:Int):=by omega);(have w1:aQ.wrap ((i:Int)+1)=((i+1:Nat):Int):=by rw[aS];omega);obtain⟨q,hq⟩:=oQ ((e !=f))
      have bu:wr.drew.cell? ⟨b,i,none⟩=some (.int .i64 e)∧wr.drew.cell? ⟨b',i,none⟩=some (.int .i64 f):=by
       have h1:=cP 0 _ rfl;have h2:=vz 0 _ rfl;rw[ag4,Ce] at h1 h2;exact⟨h1,h2⟩
      clear he hf cP vz;go_wp2_with fail;refine cJ (fun U=>U.cell? ⟨b,i,none⟩=some (.int .i64 e)∧U.cell? ⟨b',i,none⟩=some (.int .i64 f)) bu fun hHeld=>?_;refine bg 0 1 2 3 ?_;refine bg 4 5 6 7 ?_;refine tk 8 ?_;refine dn ?_;have fC:ag (Below w.heap.size w wr.drew):=hZ (eR HB.out);clear hHeld bu;cases q
      · go_wp2
        (have A_:e=f:=by simpa using hq);(have ht:l.take (i+1)=m.take (i+1):=by rw[gV,gV,HT.out,HE.out.1,HE.out.2,A_]);have iM:=hZ ht;clear ht A_
        go_round
        case rel=>exact⟨i+1,rfl,by omega,iM,fC.out⟩
        case measure=>simp;omega
      · go_wp2
        go_ret
        have bf:l≠m:=fun h=>by
         have h1:=HE.out.1;rw[h,HE.out.2] at h1;have h2:f=e:=mR h1;rw[h2] at hq;simp at hq
        rw[decide_eq_false bf];exact⟨rfl,fC.out⟩
    · have d1:decide (i<n)=false:=by simp;omega
      obtain rfl:i=n:=by omega
      have jn:l=m:=by
       have:=HT.out
       rwa[eE (by rw[HN.out];omega),eE (by rw[iz.out];omega)] at this
      have dC:=hZ jn;clear jn;go_wp2_with fail;go_ret;rw[decide_eq_true dC.out];exact⟨rfl,HB.out⟩
 · have d0:((n:Int) !=(n2:Int))=true:=by simp;omega
   have jn:l≠m:=fun h=>rk (by rw[←hn,←cN,h]);rw[decide_eq_false jn];clear hn cN jn
   go_enter adT,aeQ
   go_wp2;go_ret;exact⟨rfl,bK _ _⟩
theorem am9 (l m:List bY) (A A2:Option Addr) (n c n2 c2:Nat) (hn:l.length=n) (cN:m.length=n2) (hm:n≤cH) (w:ae) (hA:iC w bD 3 A l) (mC:iC w bD 3 A2 m):
 ax ah 28 #[.slice A n c,.slice A2 n2 c2] w (cC w (decide (l=m))):=by
 have Mt:n≤9223372036854775807:=by unfold cH at hm;omega
 have HA:=hZ hA;have uE:=hZ mC;have HN:=hZ hn;have iz:=hZ cN;clear hA mC hm
 by_cases rk:n=n2
 · subst rk
   clear hn cN;have d0:((n:Int) !=(n:Int))=false:=by simp
   go_enter adN,aeP
   go_wp2_with fail
   go_loopw [5] (fun v wr=> ∃i:Nat,v=.int .i64 (i:Int)∧i≤n∧ag (l.take i=m.take i)∧Below w.heap.size w wr) (fun v _=>match v with|.int _ k=>n-k.toNat|_=>0)
   case atStart=>exact⟨0,rfl,ei _,hZ rfl,bK _ _⟩
   case round=>
    obtain⟨i,rfl,hi,HT,hB⟩:=hrel;have HB:=hZ hB;clear hB
    by_cases ar:i<n
    · obtain⟨e,he⟩:∃e,l[i]?=some e:=⟨_,bp (by rw[HN.out];exact ar)⟩
      obtain⟨f,hf⟩:∃f,m[i]?=some f:=⟨_,bp (by rw[iz.out];exact ar)⟩;obtain⟨b,sB,-,cP⟩:=(HA.out.below HB.out) i e he;obtain⟨b',De,-,vz⟩:=(uE.out.below HB.out) i f hf;subst sB De;have HE:=hZ (And.intro he hf);(have d1:decide (i<n)=true:=by simp[ar]);(have z1:(0:Int)≤(i:Int):=by omega);(have z2:(i:Int)<(n:Int):=by omega);(have w1:aQ.wrap ((i:Int)+1)=((i+1:Nat):Int):=by rw[aS];omega);obtain⟨q,hq⟩:=oQ ((!vP e f));have HQ:=hZ hq;have eu:ag (∀W,(binOp .neq 75 (.agg (bD e).toArray) (.agg (bD f).toArray)).run ah W=.ok (.bool q) W):=hZ (fun W=>by rw[←hq];exact abh e f W);have bu:k7 wr.drew b (i*3) (bD e)∧k7 wr.drew b' (i*3) (bD f):=⟨cP,vz⟩;clear hq;clear he hf cP vz;go_wp2_with fail;refine cJ (fun U=>k7 U b (i*3) (bD e)∧k7 U b' (i*3) (bD f)) bu fun hHeld=>?_;refine dr 0 1 2 ?_;refine tl 3 rfl (yx b (i*3) (by kernel_rfl) vS (fun w hw=>hw.1)) ?_;refine dr 4 5 6 ?_;refine tl 7 rfl (yx b' (i*3) (by kernel_rfl) vS (fun w hw=>hw.2)) ?_;refine tl 8 rfl (Gq (by rfl) 75 75 (.tmp 20) (.tmp 24) (by rfl) (.agg (bD e).toArray) (.agg (bD f).toArray) (by rfl) (by rfl) q (fun w=>Yr _ _ _ _ w) eu.out) ?_;refine dn ?_;have fC:ag (Below w.heap.size w wr.drew):=hZ (eR HB.out);clear hHeld bu;cases q
      · go_wp2
        have A_:=(zF e f).1 (by simpa using HQ.out);(have ht:l.take (i+1)=m.take (i+1):=by rw[gV,gV,HT.out,HE.out.1,HE.out.2,A_]);have iM:=hZ ht;clear ht A_
        go_round
        case rel=>exact⟨i+1,rfl,by omega,iM,fC.out⟩
        case measure=>simp;omega
      · go_wp2
        go_ret
        have bf:l≠m:=fun h=>by
         have h1:=HE.out.1;rw[h,HE.out.2] at h1;have h2:f=e:=mR h1;have h3:=HQ.out;rw[h2,(zF e e).2 rfl] at h3;cases h3
        rw[decide_eq_false bf];exact⟨rfl,fC.out⟩
    · have d1:decide (i<n)=false:=by simp;omega
      obtain rfl:i=n:=by omega
      have jn:l=m:=by
       have:=HT.out
       rwa[eE (by rw[HN.out];omega),eE (by rw[iz.out];omega)] at this
      have dC:=hZ jn;clear jn;go_wp2_with fail;go_ret;rw[decide_eq_true dC.out];exact⟨rfl,HB.out⟩
 · have d0:((n:Int) !=(n2:Int))=true:=by simp;omega
   have jn:l≠m:=fun h=>rk (by rw[←hn,←cN,h]);rw[decide_eq_false jn];clear hn cN jn
   go_enter adN,aeP
   go_wp2;go_ret;exact⟨rfl,bK _ _⟩
end Go.Proofs.YteeifhlhpiimoaaGreatDoor
end
section
namespace Go.Proofs.YteeifhlhpiimoaaGreatDoor
open Go Go.RowKit Go.Shelf
attribute [local go_sem] Oper.semAt_some
def dv:List Nat→Nat
 |[]=>0
 |d::l=>d+10*dv l
def dg (n:Nat):List Nat:=if n=0 then[] else n%10::dg (n/10)
termination_by n
decreasing_by omega
def iy (l:List Nat):Prop:=∀d∈l,d<10
theorem lu:dg 0=[]:=by rw[dg,if_pos rfl]
theorem nX {n:Nat} (h:0<n):dg n=n%10::dg (n/10):=by rw[dg,if_neg (by omega)]
theorem mY (n:Nat):dv (dg n)=n:=by
 induction n using vX with
 | ind n ih=>
   rcases fL n with rfl|h
   · rw[lu];rfl
   · rw[nX h,dv,ih (n/10) (by omega)];omega
theorem p_ (n:Nat):iy (dg n):=by
 induction n using vX with
 | ind n ih=>
   rcases fL n with rfl|h
   · rw[lu];intro d hd;cases hd
   · rw[nX h]
     intro d hd;rcases dG.1 hd with rfl|hd
     · omega
     · exact ih (n/10) (by omega) d hd
theorem yA (l m:List Nat):dv (l++m)=dv l+10^l.length*dv m:=by
 induction l with
 |nil=>simp[dv]
 |cons d l ih=>rw[List.cons_append,dv,ih,dv,eF,mQ,GQ,nN (10^l.length) 10,Cg];omega
theorem iy.tail {d:Nat} {l:List Nat} (h:iy (d::l)):iy l:=fun x hx=>h x (by simp[hx])
theorem iy.take {l:List Nat} (h:iy l) (k:Nat):iy (l.take k):=fun x hx=>h x (List.mem_of_mem_take hx)
theorem iy.drop {l:List Nat} (h:iy l) (k:Nat):iy (l.drop k):=fun x hx=>h x (List.mem_of_mem_drop hx)
theorem iy.app {l m:List Nat} (h:iy l) (h2:iy m):iy (l++m):=fun x hx=>(List.mem_append.1 hx).elim (h x) (h2 x)
theorem Iv {l:List Nat} (h:iy l):dv l<10^l.length:=by
 induction l with
 |nil=>simp[dv]
 | cons d l ih=>
   have h1:=ih h.tail;have h2:=h d (by simp);rw[dv,eF,mQ];omega
theorem XW {l:List Nat} (h:iy l) (hl:∀d∈l.getLast?,d≠0):dg (dv l)=l:=by
 induction l with
 |nil=>exact lu
 | cons d l ih=>
   have h2:=h d (by simp)
   have h3:0<dv (d::l):=by
    rw[dv]
    cases l with
    |nil=>have:=hl d (by simp);omega
    | cons e l=>
      have RO:∀x∈(e::l).getLast?,x≠0:=fun x hx=>hl x (by rw[Vn];exact hx);have:=ih h.tail RO;rcases fL (dv (e::l)) with q|q
      · rw[q,lu] at this;cases this
      · omega
   rw[nX h3,dv];(have e1:(d+10*dv l)%10=d:=by omega);(have e2:(d+10*dv l)/10=dv l:=by omega);rw[e1,e2]
   cases l with
   |nil=>rw[dv,lu]
   |cons e l=>rw[ih h.tail (fun x hx=>hl x (by rw[Vn];exact hx))]
theorem aiI (n:Nat):∀d∈(dg n).getLast?,d≠0:=by
 induction n using vX with
 | ind n ih=>
   rcases fL n with rfl|h
   · rw[lu];intro d hd;cases hd
   · rw[nX h]
     rcases fB n 10 with q|q
     · rw[show n/10=0 by omega,lu]
       intro d hd;simp at hd;omega
     · rw[nX (show 0<n/10 by omega),Vn,←nX (show 0<n/10 by omega)]
       exact ih (n/10) (by omega)
theorem aiS {l:List Nat} (h:∀d∈l,d=0):dv l=0:=by
 induction l with
 |nil=>rfl
 |cons d l ih=>rw[dv,ih (fun x hx=>h x (by simp[hx])),h d (by simp)]
theorem aom {l:List Nat} {k:Nat} (h:iy l) (hz:∀d∈l.drop k,d=0) (hl:k=0∨∀d,l[k-1]?=some d→d≠0) (hk:k≤l.length):l.take k=dg (dv l):=by
 have e:dv l=dv (l.take k):=by
  conv=>lhs;rw[←tg k l]
  rw[yA,aiS hz];omega
 rw[e,XW (h.take k)];intro d hd;rcases hl with rfl|hl
 · simp at hd
 · refine hl d ?_
   have wQ:(l.take k).getLast?=some d:=hd;rw[agQ,gD,Cf hk,List.getElem?_take] at wQ
   split at wQ
   · exact wQ
   · cases wQ
theorem QA {a b:Nat} (h:(dg a).length<(dg b).length):a<b:=by
 rcases fB a b with q|q
 · exact q
 · exfalso
   have h1:=Iv (p_ a);rw[mY] at h1
   have h2:10^((dg b).length-1)≤b:=by
    have hl:=aiI b;(have hp:0<(dg b).length:=by omega);have hs:dg b=(dg b).take ((dg b).length-1)++(dg b).drop ((dg b).length-1):=(tg _ _).symm
    have gR:(dg b).drop ((dg b).length-1)=[(dg b)[(dg b).length-1]]:=by
     rw[pN (by omega)];rw[GL (by omega)]
    have hv:dv (dg b)=dv ((dg b).take ((dg b).length-1))+10^((dg b).length-1)*(dg b)[(dg b).length-1]:=by
     conv=>lhs;rw[hs,gR]
     rw[yA];simp[dv]
    rw[mY] at hv;have bf:(dg b)[(dg b).length-1]≠0:=hl _ (by rw[agQ,bp (by omega)];rfl);have:10^((dg b).length-1)*1≤10^((dg b).length-1)*(dg b)[(dg b).length-1]:=GS _ (by omega);omega
   have h3:10^(dg a).length≤10^((dg b).length-1):=Nat.pow_le_pow_right (by omega) (by omega);omega
theorem yz {a b:Nat} (h:a≤b):(dg a).length≤(dg b).length:=by
 rcases fB (dg b).length (dg a).length with q|q
 · have:=QA q;omega
 · exact q
theorem AO {n k:Nat} (h:n<10^k):(dg n).length≤k:=by
 rcases fB k (dg n).length with q|q
 · exfalso
   induction k generalizing n with
   |zero=>simp at h;subst h;rw[lu] at q;simp at q
   | succ k ih=>
     rcases fL n with rfl|hp
     · rw[lu] at q;simp at q
     · rw[nX hp,eF] at q
       rw[mQ] at h;exact ih (n:=n/10) (by omega) (by omega)
 · exact q
theorem abu {a b:List Nat} {i x y:Nat} (ha:iy a) (hd:a.drop (i+1)=b.drop (i+1)) (hx:a[i]?=some x) (hy:b[i]?=some y) (h:x<y):dv a<dv b:=by
 have split:∀{l:List Nat} {z:Nat},l[i]?=some z→l=l.take i++(z::l.drop (i+1)):=fun{l z} hz=>by
  obtain⟨h1,h2⟩:=dL.1 hz;rw[←h2,←pN h1,tg]
 have la:(a.take i).length=i:=by rw[gD];have:=(dL.1 hx).1;omega
 have lb:(b.take i).length=i:=by rw[gD];have:=(dL.1 hy).1;omega
 have ea:dv a=dv (a.take i)+10^i*(x+10*dv (a.drop (i+1))):=by
  conv=>lhs;rw[split hx]
  rw[yA,la,dv]
 have eb:dv b=dv (b.take i)+10^i*(y+10*dv (a.drop (i+1))):=by
  conv=>lhs;rw[split hy]
  rw[yA,lb,dv,hd]
 have h1:=Iv (ha.take i);rw[la] at h1;have h3:10^i*((x+1)+10*dv (a.drop (i+1)))≤10^i*(y+10*dv (a.drop (i+1))):=GS _ (by omega);rw[show x+1+10*dv (a.drop (i+1))=(x+10*dv (a.drop (i+1)))+1 by omega,GQ,ag4] at h3;omega
theorem TI {l:List Nat} {i x:Nat} (hx:l[i]?=some x):dv (l.take (i+1))=dv (l.take i)+10^i*x:=by
 obtain⟨h1,h2⟩:=dL.1 hx;rw[gV,hx,yA,gD,Cf (by omega)];simp[dv]
theorem alq {a b o:List Nat} {i x y c d c':Nat} (h:dv o+dv (b.take i)=dv (a.take i)+c*10^i) (ho:o.length=i) (hx:a[i]?=some x) (hy:b[i]?=some y∨b.length≤i∧y=0) (hd:d+y+c=x+10*c'):dv (o++[d])+dv (b.take (i+1))=dv (a.take (i+1))+c'*10^(i+1):=by
 have eb:dv (b.take (i+1))=dv (b.take i)+10^i*y:=by
  rcases hy with hy|⟨h1,rfl⟩
  · exact TI hy
  · rw[eE (by omega),eE h1];omega
 rw[eb,TI hx,yA,ho,mQ];simp only[dv,Nat.mul_zero,Ce];have e:=congrArg (10^i* ·) hd;simp only[GQ] at e;have e3:c'*(10^i*10)=10^i*(10*c'):=by rw[←Cg,nN c',Cg,nN c']
 rw[e3];rw[nN c] at h;omega
theorem alp {a b o:List Nat} {c:Nat} (h:dv o+dv (b.take a.length)=dv (a.take a.length)+c*10^a.length) (ho:o.length=a.length) (hd:iy o) (hb:b.length≤a.length) (hle:dv b≤dv a):dv o=dv a-dv b:=by
 rw[eE hb,eE (aB _)] at h;have h1:=Iv hd;rw[ho] at h1;rcases fL c with rfl|hc
 · omega
 · have:1*10^a.length≤c*10^a.length:=GU _ hc
   omega
def tK (d:Nat):UInt8:=UInt8.ofNat (48+d)
theorem Qy {n:Nat} (h:0<n):bX n=((dg n).map tK).reverse:=by
 induction n using vX with
 | ind n ih=>
   rw[nX h,nM,ag0];rcases fB n 10 with q|q
   · rw[p8 q,show n/10=0 by omega,lu,show n%10=n by omega];rfl
   · rw[C7 q,ih (n/10) (by omega) (by omega)];rfl
theorem LN (n:Nat):(bX n).length=max 1 (dg n).length:=by
 rcases fL n with rfl|h
 · rw[p8 (by decide),lu];rfl
 · rw[Qy h,List.length_reverse,rP,nX h,eF];omega
theorem Tp (A:Option Addr) (c:Nat) (l:List Nat) (n:Nat) (hn:l.length=n) (hc:n≤c) (pz:c≤cH) (lz:A=none→c=0) (w:ae) (h:dJ w w.heap.size A nv l) (hd:iy l):
 ax ah 257 #[.slice A n c] w fun e w'=>(∃v,e=.returned v∧aX w v (dg (dv l))∧∀B,gK B (.slice A n c)→gK B v)∧w'=w:=by
 have IK:∀k,k≤n→(∀d∈l.drop k,d=0)→(k=0∨∀d,l[k-1]?=some d→d≠0)→aX w (.slice A k c) (dg (dv l)):=fun k hk h1 h2=>by
  rw[←aom hd h1 h2 (by omega)];exact⟨A,c,by simp;omega,by simp;omega,pz,lz,h.take k⟩
 have HE:=hZ IK;have H:=hZ h;have HN:=hZ hn;clear h hn IK lz hd;unfold cH at pz
 go_enter Tryz.func257,Tryz.ntmps257
 go_wp2_with fail
 go_loop [0] (fun v=> ∃k:Nat,k≤n∧v=.slice A k c∧ag (∀d∈l.drop k,d=0)) (fun v=>match v with|.slice _ k _=>k|_=>0)
 case atStart=>exact⟨n,aB _,rfl,hZ (by rw[GL (by rw[HN.out];exact aB _)];simp)⟩
 case round=>
  obtain⟨k,hk,rfl,HT⟩:=hrel;rcases fL k with rfl|h0
  · have d1:decide ((0:Int)<((0:Nat):Int))=false:=by decide
    go_wp2_with fail;go_ret;refine⟨⟨_,rfl,?_,fun B h=>h.cut⟩,rfl⟩;exact HE.out 0 (by omega) HT.out (.inl rfl)
  · obtain⟨m,rfl⟩:∃m,k=m+1:=⟨k-1,by omega⟩
    (have hm:m<l.length:=by rw[HN.out];omega);obtain⟨a,rfl,d_,gq⟩:=H.out.get hm;unfold nv at gq;obtain⟨x,hx⟩:=oQ (l[m]);rw[hx] at gq;have HX:ag (l[m]?=some x):=hZ (by rw[←hx];exact bp hm);(have d1:decide ((0:Int)<((m+1:Nat):Int))=true:=by simp);(have w1:aQ.wrap (((m+1:Nat):Int)-1)=(m:Int):=by rw[aS];omega);(have z1:(0:Int)≤(m:Int):=by omega);(have z2:(m:Int)<((m+1:Nat):Int):=by omega);clear hx
    by_cases kT:x=0
    · subst kT
      go_wp2_with fail
      go_round
      case rel=>exact⟨m,by omega,rfl,hZ (by rw[pN hm,(dL.1 HX.out).2];intro d hd;rcases dG.1 hd with rfl|hd;rfl;exact HT.out d hd)⟩
      case measure=>simp
    · have d2:((x:Int)==0)=false:=by simp;exact kT
      go_wp2_with fail;go_ret;refine⟨⟨_,rfl,?_,fun B h=>h.cut⟩,rfl⟩;exact HE.out (m+1) (by omega) HT.out (.inr fun d hd=>by rw[Nat.add_sub_cancel,HX.out] at hd;cases hd;exact kT)
def wF (w:ae) (z:Int) (e:qC) (w':ae):Prop:=e=.returned (.int .i64 z)∧Below w.heap.size w w'
def rD (a b:Nat):Int:=if a<b then -1 else if b<a then 1 else 0
theorem SV {a b:Nat} (h:a<b):rD a b=-1:=if_pos h
theorem abt {a b:Nat} (h:b<a):rD a b=1:=by unfold rD;rw[if_neg (by omega),if_pos h]
theorem alT (a:Nat):rD a a=0:=by unfold rD;rw[if_neg (by omega),if_neg (by omega)]
theorem M7 (a b:Nat) (v1 v2:ai) (w:ae) (h1:aX w v1 (dg a)) (h2:aX w v2 (dg b)):
 ax ah 218 #[v1,v2] w (wF w (rD a b)):=by
 obtain⟨A,c,rfl,fX,eo,fh,hA⟩:=h1;obtain⟨B,d,rfl,fY,gQ,kO,hB⟩:=h2;have HA:=hZ hA;have HB:=hZ hB;obtain⟨n,hn⟩:=oQ ((dg a).length);obtain⟨k,hk⟩:=oQ ((dg b).length);have HN:=hZ hn;have HK:=hZ hk;rw[hn,hk];have cO:n≤9223372036854775807:=by unfold cH at eo;omega
 by_cases FA:n=k
 · subst FA
   clear hn hk hA hB fX eo fh fY gQ kO;(have d0:((n:Int) !=(n:Int))=false:=by simp);obtain⟨z,hz⟩:=oQ (aQ.wrap ((n:Int)-1));(have ju:z=(n:Int)-1:=by rw[←hz,aS];omega);have HZ:=hZ ju;clear ju
   go_enter Uy,UN
   go_wp2_with fail
   go_loopw [5] (fun v wr=>(∃k:Nat,k≤n∧v=.int .i64 ((k:Int)-1)∧ag ((dg a).drop k=(dg b).drop k))∧Below w.heap.size w wr) (fun v _=>match v with|.int _ k=>(k+1).toNat|_=>0)
   case atStart=>exact⟨⟨n,aB _,by rw[HZ.out],hZ (by rw[GL (by rw[HN.out];omega),GL (by rw[HK.out];omega)])⟩,bK _ _⟩
   case round=>
    obtain⟨⟨k,hk,rfl,HT⟩,Yy⟩:=hrel;have bA:=hZ Yy;clear Yy;rcases fL k with rfl|h0
    · have d1:decide ((0:Int)≤((0:Nat):Int)-1)=false:=by decide
      go_wp2_with fail;go_ret;(have e:a=b:=by have:=congrArg dv HT.out;rw[vW,vW,mY,mY] at this;exact this);subst e;rw[alT];exact⟨rfl,bA.out⟩
    · obtain⟨m,rfl⟩:∃m,k=m+1:=⟨k-1,by omega⟩
      (have e1:((m+1:Nat):Int)-1=(m:Int):=by omega);rw[e1];(have hm:m<(dg a).length:=by rw[HN.out];omega);(have fT:m<(dg b).length:=by rw[HK.out];omega);obtain⟨p,rfl,fy,gx⟩:=HA.out.get hm;obtain⟨q,rfl,nw,nz⟩:=HB.out.get fT;unfold nv at gx nz;obtain⟨x,hx⟩:=oQ ((dg a)[m]);obtain⟨y,hy⟩:=oQ ((dg b)[m]);rw[hx] at gx;rw[hy] at nz;have HX:ag ((dg a)[m]?=some x):=hZ (by rw[←hx];exact bp hm);have HY:ag ((dg b)[m]?=some y):=hZ (by rw[←hy];exact bp fT);have bu:wr.drew.cell? (p.add m)=some (.int .i64 x)∧wr.drew.cell? (q.add m)=some (.int .i64 y):=⟨(bA.out.cell (p:=p.add m) (by rw[lr];exact fy)).trans gx,(bA.out.cell (p:=q.add m) (by rw[lr];exact nw)).trans nz⟩;(have d1:decide ((0:Int)≤(m:Int))=true:=by simp);obtain⟨z',zh⟩:=oQ (aQ.wrap ((m:Int)-1));(have ju:z'=(m:Int)-1:=by rw[←zh,aS];omega);have qX:=hZ ju;(have z1:(0:Int)≤(m:Int):=by omega);(have z2:(m:Int)<(n:Int):=by omega);clear ju gx nz hx hy e1;obtain⟨g,hg⟩:=oQ (((x:Int) !=(y:Int)));go_wp2_with fail;refine cJ (fun U=>U.cell? (p.add m)=some (.int .i64 x)∧U.cell? (q.add m)=some (.int .i64 y)) bu fun hHeld=>?_;refine bg 0 1 2 3 ?_;refine bg 4 5 6 7 ?_;refine tk 8 ?_;refine dn ?_;have fC:ag (Below w.heap.size w wr.drew):=hZ (eR bA.out);clear hHeld;cases g
      · have FN:x=y:=by have h:=hg;simp at h;omega
        have ht:(dg a).drop m=(dg b).drop m:=by
         rw[pN hm,pN fT,(dL.1 HX.out).2,(dL.1 HY.out).2,FN,HT.out]
        have iM:=hZ ht;clear ht FN;go_wp2
        go_round
        case rel=>exact⟨⟨m,by omega,by rw[qX.out],iM⟩,fC.out⟩
        case measure=>rw[qX.out];simp
      · have Mb:wr.drew.drew.cell? (p.add m)=some (.int .i64 x)∧wr.drew.drew.cell? (q.add m)=some (.int .i64 y):=bu
        obtain⟨g2,f_⟩:=oQ (decide ((x:Int)<(y:Int)));have ye:=hZ f_;have HG:=hZ hg;clear f_ bu;(have apX:decide (x<y)=g2:=by rw[←ye.out];simp);go_wp2_with fail;refine cJ (fun U=>U.cell? (p.add m)=some (.int .i64 x)∧U.cell? (q.add m)=some (.int .i64 y)) Mb fun hHeld=>?_;refine bg 0 1 2 3 ?_;refine bg 4 5 6 7 ?_;refine tk 8 ?_;refine dn ?_;have VN:ag (Below w.heap.size w wr.drew.drew):=hZ (eR fC.out);clear hHeld;cases g2
        · go_wp2
          go_ret
          have ar:y<x:=by
           have h1:=ye.out;have h2:=HG.out;simp at h1 h2;omega
          have:=abu (p_ b) HT.out.symm HY.out HX.out ar;rw[mY,mY] at this;rw[abt this];exact⟨rfl,VN.out⟩
        · go_wp2
          go_ret
          have ar:x<y:=by
           have h1:=ye.out;simp at h1;omega
          have:=abu (p_ a) HT.out HX.out HY.out ar;rw[mY,mY] at this;rw[SV this];exact⟨rfl,VN.out⟩
 · have d0:((n:Int) !=(k:Int))=true:=by simp;omega
   rcases fB n k with ar|Fp
   · have d1:decide (n<k)=true:=by simp[ar]
     have d_:a<b:=QA (by omega);rw[SV d_];clear hn hk hA hB HA HB
     go_enter Uy,UN
     go_wp2;go_ret;exact⟨rfl,bK _ _⟩
   · have d1:decide (n<k)=false:=by simp;omega
     have d_:b<a:=QA (by omega);rw[abt d_];clear hn hk hA hB HA HB
     go_enter Uy,UN
     go_wp2;go_ret;exact⟨rfl,bK _ _⟩
def OH (w:ae) (n:Nat) (e:qC) (w':ae):Prop:=∃v,e=.returned v∧aX w' v (dg n)∧gK w.heap.size v∧Below w.heap.size w w'
theorem ab0 (a b:Nat) (d_:b≤a) (v1 v2:ai) (w:ae) (h1:aX w v1 (dg a)) (h2:aX w v2 (dg b)) (ha:(dg a).length≤100000):
 ax ah 223 #[v1,v2] w (OH w (a-b)):=by
 obtain⟨A,c,rfl,fX,eo,fh,hA⟩:=h1;obtain⟨B,d,rfl,fY,gQ,kO,hB⟩:=h2;have HA:=hZ hA;have HB:=hZ hB;obtain⟨n,hn⟩:=oQ ((dg a).length);obtain⟨k,hk⟩:=oQ ((dg b).length);have HN:=hZ hn;have HK:=hZ hk;have oA:ag (k≤n):=hZ (by rw[←hn,←hk];exact yz d_);have HAB:=hZ d_;rw[hn] at ha;rw[hn,hk];have fF:=hZ ha;clear hn hk hA hB fX eo fh fY gQ kO d_
 go_enter Tryz.func223,Tryz.ntmps223
 go_wp2_with fail
 go_loopw [5,6,7] (fun v cv iv wr=> ∃(i c:Nat) (o:List Nat),iv=.int .i64 (i:Int)∧cv=.int .i64 (c:Int)∧i≤n∧c≤1∧ag (o.length=i)∧ag (iy o∧dv o+dv ((dg b).take i)=dv ((dg a).take i)+c*10^i)∧ag (pg wr w.heap.size v o)∧ag (Below w.heap.size w wr)) (fun _ _ i _=>n-(intOf i).toNat)
 case atStart=>exact⟨0,0,[],rfl,rfl,ei _,ei _,hZ rfl,hZ ⟨fun d hd=>(by cases hd),(by simp[dv])⟩,hZ OL.nil,hZ (bK _ _)⟩
 case round=>
  obtain⟨i,c,o,rfl,rfl,hi,hc,HO,HI,jg,bA⟩:=hrel
  by_cases ar:i<n
  · have hm:i<(dg a).length:=by rw[HN.out];exact ar
    obtain⟨p,rfl,fy,gx⟩:=HA.out.get hm;unfold nv at gx;obtain⟨x,hx⟩:=oQ ((dg a)[i]);rw[hx] at gx;have HX:ag ((dg a)[i]?=some x):=hZ (by rw[←hx];exact bp hm);have xc:x<10:=p_ a x (mP HX.out);have Jv:wr.cell? (p.add i)=some (.int .i64 x):=(bA.out.cell (p:=p.add i) (by rw[lr];exact fy)).trans gx;(have d1:decide (i<n)=true:=by simp[ar]);(have z1:(0:Int)≤(i:Int):=by omega);(have z2:(i:Int)<(n:Int):=by omega);(have w1:aQ.wrap ((i:Int)+1)=((i+1:Nat):Int):=by have:=fF.out;rw[aS];omega);have eS:=hZ bA.out.size
    have bS:ag (∀y d c',((dg b)[i]?=some y∨(dg b).length≤i∧y=0)→d+y+c=x+10*c'→d<10→iy (o++[d])∧dv (o++[d])+dv ((dg b).take (i+1))=dv ((dg a).take (i+1))+c'*10^(i+1)):=
     hZ fun y d c' hy hd lZ=>⟨HI.out.1.app (fun z hz=>by rw[fQ.1 hz];exact lZ),alq HI.out.2 HO.out HX.out hy hd⟩
    clear gx fy hx hm
    by_cases Fs:i<k
    · have fT:i<(dg b).length:=by rw[HK.out];exact Fs
      obtain⟨q,rfl,nw,nz⟩:=HB.out.get fT;unfold nv at nz;obtain⟨y,hy⟩:=oQ ((dg b)[i]);rw[hy] at nz;have HY:ag ((dg b)[i]?=some y):=hZ (by rw[←hy];exact bp fT);have BC:y<10:=p_ b y (mP HY.out);have Z6:wr.cell? (q.add i)=some (.int .i64 y):=(bA.out.cell (p:=q.add i) (by rw[lr];exact nw)).trans nz;(have d2:decide (i<k)=true:=by simp[Fs]);(have z3:(i:Int)<(k:Int):=by omega);obtain⟨s,hs⟩:∃s:Int,(x:Int)-(c:Int)=s:=⟨_,rfl⟩;(have ws:aQ.wrap ((x:Int)-(c:Int))=s:=by rw[aS];omega);clear nz nw hy fT
      by_cases jo:s-(y:Int)<0
      · obtain⟨d,hd⟩:∃d:Nat,s-(y:Int)+10=(d:Int):=⟨(s-(y:Int)+10).toNat,by omega⟩
        obtain⟨t,ht⟩:∃t:Int,s-(y:Int)=t:=⟨_,rfl⟩;(have wt:aQ.wrap (s-(y:Int))=t:=by rw[aS];omega);(have wd:aQ.wrap (t+10)=(d:Int):=by rw[aS];omega);(have b1:decide (t<0)=true:=by simp;omega);have iz:=hZ (bS.out y d 1 (.inl HY.out) (by omega) (by omega));clear hs ht hd jo xc BC
        go_wp2_with (first
         |(at_builtin;refine nJ rfl (.tmp 35) (.tmp 37) 23 rfl sy _ _ i HO.out rfl (jg.out.alloc _) d wr.heap.size #[.int .i64 d] rfl ?hc rfl rfl (by simp[one,nv,lH]) (by have:=HO.out;have:=fF.out;unfold cH;omega) (by have:=HO.out;have:=fF.out;omega) (by have:=eS.out;simp;omega) ?_;(case hc=>exact bG _ _);intro g3 c3 w3 h3 _ _ _ aK)
         |fail)
        go_roundw
        case rel=>exact⟨i+1,1,_,by go_num,rfl,by omega,by omega,hZ (by rw[eV,HO.out];rfl),hZ iz.out,hZ h3,hZ ((bA.out.alloc eS.out _).trans aK)⟩
        case measure=>simp[intOf];omega
      · obtain⟨d,hd⟩:∃d:Nat,s-(y:Int)=(d:Int):=⟨(s-(y:Int)).toNat,by omega⟩
        (have wt:aQ.wrap (s-(y:Int))=(d:Int):=by rw[aS];omega);(have b1:decide ((d:Int)<0)=false:=by simp);have iz:=hZ (bS.out y d 0 (.inl HY.out) (by omega) (by omega));clear hs hd jo xc BC
        go_wp2_with (first
         |(at_builtin;refine nJ rfl (.tmp 35) (.tmp 37) 23 rfl sy _ _ i HO.out rfl (jg.out.alloc _) d wr.heap.size #[.int .i64 d] rfl ?hc rfl rfl (by simp[one,nv,lH]) (by have:=HO.out;have:=fF.out;unfold cH;omega) (by have:=HO.out;have:=fF.out;omega) (by have:=eS.out;simp;omega) ?_;(case hc=>exact bG _ _);intro g3 c3 w3 h3 _ _ _ aK)
         |fail)
        go_roundw
        case rel=>exact⟨i+1,0,_,by go_num,rfl,by omega,by omega,hZ (by rw[eV,HO.out];rfl),hZ iz.out,hZ h3,hZ ((bA.out.alloc eS.out _).trans aK)⟩
        case measure=>simp[intOf];omega
    · have d2:decide (i<k)=false:=by simp;omega
      have HY:ag ((dg b).length≤i):=hZ (by rw[HK.out];omega)
      by_cases jo:(x:Int)-(c:Int)<0
      · obtain⟨t,ht⟩:∃t:Int,(x:Int)-(c:Int)=t:=⟨_,rfl⟩
        obtain⟨d,hd⟩:∃d:Nat,t+10=(d:Int):=⟨(t+10).toNat,by omega⟩;(have wt:aQ.wrap ((x:Int)-(c:Int))=t:=by rw[aS];omega);(have wd:aQ.wrap (t+10)=(d:Int):=by rw[aS];omega);(have b1:decide (t<0)=true:=by simp;omega);have iz:=hZ (bS.out 0 d 1 (.inr ⟨HY.out,rfl⟩) (by omega) (by omega));clear ht hd jo xc
        go_wp2_with (first
         |(at_builtin;refine nJ rfl (.tmp 35) (.tmp 37) 23 rfl sy _ _ i HO.out rfl (jg.out.alloc _) d wr.heap.size #[.int .i64 d] rfl ?hc rfl rfl (by simp[one,nv,lH]) (by have:=HO.out;have:=fF.out;unfold cH;omega) (by have:=HO.out;have:=fF.out;omega) (by have:=eS.out;simp;omega) ?_;(case hc=>exact bG _ _);intro g3 c3 w3 h3 _ _ _ aK)
         |fail)
        go_roundw
        case rel=>exact⟨i+1,1,_,by go_num,rfl,by omega,by omega,hZ (by rw[eV,HO.out];rfl),hZ iz.out,hZ h3,hZ ((bA.out.alloc eS.out _).trans aK)⟩
        case measure=>simp[intOf];omega
      · obtain⟨d,hd⟩:∃d:Nat,(x:Int)-(c:Int)=(d:Int):=⟨((x:Int)-(c:Int)).toNat,by omega⟩
        (have wt:aQ.wrap ((x:Int)-(c:Int))=(d:Int):=by rw[aS];omega);(have b1:decide ((d:Int)<0)=false:=by simp);have iz:=hZ (bS.out 0 d 0 (.inr ⟨HY.out,rfl⟩) (by omega) (by omega));clear hd jo xc
        go_wp2_with (first
         |(at_builtin;refine nJ rfl (.tmp 35) (.tmp 37) 23 rfl sy _ _ i HO.out rfl (jg.out.alloc _) d wr.heap.size #[.int .i64 d] rfl ?hc rfl rfl (by simp[one,nv,lH]) (by have:=HO.out;have:=fF.out;unfold cH;omega) (by have:=HO.out;have:=fF.out;omega) (by have:=eS.out;simp;omega) ?_;(case hc=>exact bG _ _);intro g3 c3 w3 h3 _ _ _ aK)
         |fail)
        go_roundw
        case rel=>exact⟨i+1,0,_,by go_num,rfl,by omega,by omega,hZ (by rw[eV,HO.out];rfl),hZ iz.out,hZ h3,hZ ((bA.out.alloc eS.out _).trans aK)⟩
        case measure=>simp[intOf];omega
  · have d1:decide (i<n)=false:=by simp;omega
    obtain rfl:i=n:=by omega
    have hval:dv o=a-b:=by
     have h:=HI.out.2;rw[←HN.out] at h;have:=alp h (by rw[HO.out,HN.out]) HI.out.1 (by rw[HN.out,HK.out];exact oA.out) (by rw[mY,mY];exact HAB.out);rw[mY,mY] at this;exact this
    have HV:=hZ hval;have iL:=hZ jg.out.fresh;obtain⟨A',c',rfl,q1,q2,q3,q4⟩:=aX.iW jg.out;have HT:=hZ (Tp A' c' o o.length rfl q1 q2 q3 wr q4 HI.out.1);clear q1 q2 q3 q4 hval hi ar;obtain⟨m,hm⟩:=oQ (o.length);rw[hm] at HT iL jg⊢;clear hm
    go_wp2_with (first
     |(go_at_call 257;refine HT.out.mono ?_;rintro e w2 ⟨⟨v2,rfl,gd,eZ⟩,rfl⟩;have cI:=hZ gd;have fV:=hZ eZ;clear gd eZ)
     |fail)
    go_ret;exact⟨_,rfl,by rw[←HV.out];exact cI.out,fV.out _ iL.out,bA.out⟩
def ahM (w:ae) (q r:Nat) (e:qC) (w':ae):Prop:=∃vq vr,e=.returned (.tuple #[vq,vr])∧aX w' vq (dg q)∧aX w' vr (dg r)∧gK w.heap.size vq∧gK w.heap.size vr∧Below w.heap.size w w'
theorem alu (n:Nat) (hn:n≤1000000) (w:ae):(Instr.makeSlice 23 (.int .i64 (n:Int)) (.int .i64 (n:Int))).run ah w=.ok (.slice (some ⟨w.heap.size,0,none⟩) n n) (w.alloc (.cells (Aa #[.int .i64 0] n) 3)):=
 run_make_row' (P:=ah) 23 3 (.int .i64 0) 8 Tryz.underlying23 (by kernel_rfl) rfl .i64 .i64 n (by omega) (by omega) w
theorem alk (n:Nat) (hn:n≤1000000) (w:ae):pg (w.alloc (.cells (Aa #[.int .i64 0] n) 3)) w.heap.size (.slice (some ⟨w.heap.size,0,none⟩) n n) (jY n 0):=by
 have hs:(Aa #[.int .i64 0] n).size=n:=by have:=congrArg GO (SN n);simpa using this
 refine⟨by rw[wJ];simp,.inr ⟨w.heap.size,n,_,by simp,aB _,bG w _,by simp,by unfold cH;omega,by rw[hs];omega,?_⟩⟩;rw[SN,wJ,eE (by simp)]
theorem OL.anR {w:ae} {B g n c:Nat} {l:List Nat} (h:pg w B (.slice (some ⟨g,0,none⟩) n c) l) (j u:Nat):pg (w.setCell ⟨g,j,none⟩ (.int .i64 (u:Int))) B (.slice (some ⟨g,0,none⟩) n c) (l.set j u):=by
 have hn:=h.len.1;subst hn;have h1:=(World.ownsRow.stored h j (nv u)).1;unfold pg OL;rw[List.length_set,wJ,List.map_set,←wJ];exact h1
theorem aci {m:Nat} {c d:Nat} {qs:List Nat}:(jY m 0++c::qs).set m d=jY m 0++d::qs:=by
 rw[List.set_append_right _ _ (by simp)];simp
theorem ajp {m:Nat} {c:Nat} {qs:List Nat}:(jY m 0++c::qs)[m]?=some c:=by
 rw[List.getElem?_append_right (by simp)];simp
theorem To {w:ae} {B g n m q:Nat} {qs:List Nat} (h:pg w B (.slice (some ⟨g,0,none⟩) n n) (jY m 0++q::qs)):w.cell? ⟨g,m,none⟩=some (.int .i64 (q:Int))∧w.frozen? ⟨g,m,none⟩=false:=
 ⟨h.Yn ajp,World.ownsRow.frozenAt (cap:=n) (by have:=h.len.1;subst this;exact h) m⟩
def TL (w:ae) (g m:Nat):Nat:=match w.cell? ⟨g,m,none⟩ with|some (.int _ z)=>10-z.toNat|_=>0
theorem acB {w:ae} {g m c:Nat} (h:w.cell? ⟨g,m,none⟩=some (.int .i64 (c:Int))):TL w g m=10-c:=by unfold TL;rw[h];simp
theorem aiQ {x m d:Nat} (h:(dg x)[m]?=some d):dv ((dg x).drop m)=d+10*dv ((dg x).drop (m+1)):=by
 obtain⟨h1,h2⟩:=dL.1 h;rw[pN h1,h2,dv]
theorem S' (x y:Nat) (hy:0<y) (v1 v2:ai) (w:ae) (h1:aX w v1 (dg x)) (h2:aX w v2 (dg y)) (hx:(dg x).length≤1000) (JU:(dg y).length≤1000):
 ax ah 220 #[v1,v2] w (ahM w (x/y) (x%y)):=by
 obtain⟨A,c,rfl,fX,eo,fh,hA⟩:=h1;have H2:=hZ h2;have HA:=hZ hA;obtain⟨n,hn⟩:=oQ ((dg x).length);have HN:=hZ hn;rw[hn] at hx⊢;have fF:=hZ hx;have HY:=hZ hy;have ki:=hZ JU;obtain⟨g,hg⟩:=oQ (w.heap.size);have gb:=alk n (by omega) w;have wW:=alu n (by omega) w;obtain⟨W1,b_⟩:=oQ (w.alloc (.cells (Aa #[.int .i64 0] n) 3));have aq:Below w.heap.size w W1:=by rw[←b_];exact aY w _
 have aP:W1.heap.size=w.heap.size+1:=by rw[←b_];exact World.size_alloc w _
 rw[b_] at gb wW;rw[hg] at gb wW aq aP;have Wp:=hZ gb;have aF:=hZ aq;have qV:=hZ aP;have HG:=hZ hg;obtain⟨z,hz⟩:=oQ (aQ.wrap ((n:Int)-1));have ju:z=(n:Int)-1:=by rw[←hz,aS];omega
 have HZ:=hZ ju;clear ju hn hA h2 fX eo fh hx hy JU gb b_ aq aP hg
 go_enter Tryz.func220,Tryz.ntmps220
 go_wp2_with fail;clear wW
 go_loopw [7,8] (fun rv iv wr=> ∃(k:Nat) (qs:List Nat) (R:Nat),iv=.int .i64 ((k:Int)-1)∧k≤n∧ag (pg wr g (.slice (some ⟨g,0,none⟩) n n) (jY k 0++qs))∧ag (iy qs∧dv qs*y+R=dv ((dg x).drop k)∧R<y)∧ag (aX wr rv (dg R)∧gK (g+1) rv)∧ag (Below g w wr∧g<wr.heap.size)) (fun _ i _=>(intOf i+1).toNat)
 case atStart=>exact⟨n,[],0,by rw[HZ.out],aB _,hZ (by rw[List.append_nil];exact Wp.out),hZ ⟨fun d hd=>(by cases hd),by rw[GL (by rw[HN.out];omega)];simp[dv],HY.out⟩,hZ ⟨by rw[lu];exact aX.nil _,gK.nil _⟩,hZ ⟨aF.out,by rw[qV.out];omega⟩⟩
 case round=>
  clear Wp aF qV HZ hz;obtain⟨k,qs,R,rfl,hk,jg,HI,HR,bA⟩:=hrel;rcases fL k with rfl|h0
  · have d1:decide ((0:Int)≤((0:Nat):Int)-1)=false:=by decide
    have hI:=HI.out;rw[vW,mY] at hI;(have hq:dv qs=x/y:=by rw[←hI.2.1,nN,Nat.mul_add_div HY.out,Nat.div_eq_of_lt hI.2.2];omega);(have hr:R=x%y:=by rw[←hI.2.1,nN,Nat.mul_add_mod,Nat.mod_eq_of_lt hI.2.2]);have HQ:=hZ hq;have uM:=hZ hr;have gb:=jg.out;rw[List.replicate_zero,List.nil_append] at gb;have hl:=gb.len.1;have apN:=hZ gb;have hls:=aX.iW gb;obtain⟨A',c',e',q1,q2,q3,q4⟩:=hls;injection e' with e1 e2 e3;subst e1 e3;have HT:=hZ (Tp (some ⟨g,0,none⟩) n qs n e2.symm (by omega) q2 q3 wr q4 hI.1);have HF:=hZ gb.fresh;clear hI hq hr gb hl q1 q2 q3 q4 e2 jg HI
    go_wp2_with (first
     |(go_at_call 257;refine HT.out.mono ?_;rintro e w2 ⟨⟨v2,rfl,gd,eZ⟩,rfl⟩;have cI:=hZ gd;have fV:=hZ eZ;clear gd eZ)
     |fail)
    go_ret2
    exact⟨_,_,rfl,by rw[←HQ.out];exact cI.out,by rw[←uM.out];exact HR.out.1,by rw[HG.out];exact fV.out _ HF.out,by rw[HG.out];exact HR.out.2.base (by omega),by rw[HG.out];exact bA.out.1⟩
  · obtain⟨m,rfl⟩:∃m,k=m+1:=⟨k-1,by omega⟩
    (have e1:((m+1:Nat):Int)-1=(m:Int):=by omega);rw[e1];(have hm:m<(dg x).length:=by rw[HN.out];omega);obtain⟨p,rfl,fy,gx⟩:=HA.out.get hm;unfold nv at gx;obtain⟨d,hd⟩:=oQ ((dg x)[m]);rw[hd] at gx;have HX:ag ((dg x)[m]?=some d):=hZ (by rw[←hd];exact bp hm);have lZ:d<10:=p_ x d (mP HX.out);have Jv:wr.cell? (p.add m)=some (.int .i64 d):=(bA.out.1.cell (p:=p.add m) (by rw[lr,←HG.out];exact fy)).trans gx;(have d1:decide ((0:Int)≤(m:Int))=true:=by simp);(have z1:(0:Int)≤(m:Int):=by omega);(have z2:(m:Int)<(n:Int):=by omega);obtain⟨z',zh⟩:=oQ (aQ.wrap ((m:Int)-1));(have ju:z'=(m:Int)-1:=by have:=fF.out;rw[←zh,aS];omega);have qX:=hZ ju;obtain⟨T,hT⟩:=oQ (d+10*R);have HT:ag (T<10*y∧dv (d::dg R)=T∧dv ((dg x).drop m)=dv qs*y*10+T):=hZ ⟨by have:=HI.out.2.2;omega,by rw[dv,mY];exact hT,by rw[aiQ HX.out,←HI.out.2.1];omega⟩
    have HD:ag (iy (d::dg R)):=hZ fun q hq=>by
     rcases dG.1 hq with rfl|hq
     · exact lZ
     · exact p_ R q hq
    have Wq:ag (pg wr g (.slice (some ⟨g,0,none⟩) n n) (jY m 0++0::qs)):=hZ (by
     have:=jg.out
     rwa[List.replicate_succ',Ek] at this)
    have HMN:ag (m<n):=hZ (by omega);have yJ:(dg R).length≤1000:=Nat.le_trans (yz (uz HI.out.2.2)) ki.out;have fG:=hZ yJ;obtain⟨Ar,cr,rfl,r1,r2,r3,r4⟩:=HR.out.1;have VH:=hZ r4;obtain⟨rl,nA⟩:=oQ ((dg R).length);have Lo:=hZ nA;rw[nA];clear gx fy hd hm ju hT e1 yJ r1 r2 r4 jg nA
    go_wp2_with (first
     |(at_builtin;refine TU rfl (.tmp 23) (.tmp 24) 23 rfl sy (fun _=>rfl) _ [d] rfl (OL.SK (B:=wr.heap.size) wr d (aB _)) Ar (dg R) rl cr Lo.out rfl r3 (VH.out.XA (aY wr _)) (fun x _ u hu=>by rw[fQ.1 hu];rfl) (by have:=fG.out;have:=Lo.out;unfold cH;simp;omega) (by have:=fG.out;have:=Lo.out;simp;omega) (by simp) ?_;intro v3 w3 h3 _ aK;have a_:=hZ ((aY wr _).trans aK);have jf:=hZ h3;clear h3 aK)
     |fail)
    obtain⟨A3,c3,rfl,q1,q2,q3,q4⟩:=aX.iW jf.out;have oC:=hZ (Tp A3 c3 _ _ rfl q1 q2 q3 w3 q4 HD.out);have j8:=hZ jf.out.fresh;obtain⟨l3,vn⟩:=oQ (([d]++dg R).length);rw[vn];have Wk:=hZ vn;clear q1 q2 q3 q4 vn
    go_wp2_with (first
     |(go_at_call 257;refine(show ax _ _ #[.slice A3 l3 c3] w3 _ from by rw[←Wk.out];exact oC.out).mono ?_;rintro e w4 ⟨⟨v4,rfl,oT,vg⟩,rfl⟩;have yn:=hZ oT;have j9:=hZ vg;clear oT vg)
     |fail)
    have k_:ag (aX w4 v4 (dg T)∧gK (g+1) v4):=hZ ⟨by have:=yn.out;rw[List.singleton_append,HT.out.2.1] at this;exact this,(j9.out _ j8.out).base bA.out.2⟩;have nU:ag (pg w4 g (.slice (some ⟨g,0,none⟩) n n) (jY m 0++0::qs)):=hZ (Wq.out.below a_.out (aB _));have bJ:ag (Below g w w4∧g<w4.heap.size):=hZ ⟨bA.out.1.trans (a_.out.mono (uz bA.out.2)),iX bA.out.2 a_.out.size⟩;clear yn j9 j8 a_ jf oC bA Wq HR VH fG Lo r3 Wk Jv
    go_loopw [7] (fun rv wr=> ∃(vv:ai) (q R':Nat),vv=rv∧R'+q*y=T∧ag (pg wr g (.slice (some ⟨g,0,none⟩) n n) (jY m 0++q::qs))∧ag (aX wr rv (dg R')∧gK (g+1) rv)∧ag (Below g w wr∧g<wr.heap.size)) (fun _ wr=>TL wr g m)
    case atStart=>exact⟨v4,0,T,rfl,by omega,nU.out,k_.out,bJ.out⟩
    case round=>
     clear nU k_ bJ;obtain⟨rv,q,R',rfl,hq,HO,HR,HB⟩:=hrel;have OK:=hZ (H2.out.below (by have:=HB.out.1;rwa[←HG.out] at this));have Pv:=hZ hq
     have yZ:q<10:=by
      rcases fB q 10 with h|h
      · exact h
      · have:=GU y h
        have:=HT.out.1;omega
     have Lf:=hZ yZ;clear hq yZ
     by_cases ar:R'<y
     · have Pn:ag (ax ah 218 #[rv,v2] wr (wF wr (-1))):=hZ (by rw[←SV ar];exact M7 R' y rv v2 wr HR.out.1 OK.out)
       (have d2:decide ((0:Int)≤ -1)=false:=by decide);have aL:=hZ ar;clear ar
       go_wp2_with (first
        |(go_at_call 218;refine Pn.out.mono ?_;rintro e w5 ⟨rfl,cn⟩;have cT:=hZ cn;clear cn)
        |fail)
       go_roundw
       case rel=>exact⟨m,q::qs,R',by rw[qX.out],by have:=HMN.out;omega,hZ (HO.out.below cT.out (aB _)),
        hZ ⟨fun a ha=>(by rcases dG.1 ha with rfl|ha;exact Lf.out;exact HI.out.1 a ha),by rw[HT.out.2.2,←Pv.out,dv,En,Cg 10,nN 10];omega,aL.out⟩,
        hZ ⟨HR.out.1.below cT.out,HR.out.2⟩,hZ ⟨HB.out.1.trans (cT.out.mono (uz HB.out.2)),iX HB.out.2 cT.out.size⟩⟩
       case measure=>rw[qX.out];simp[intOf]
     · have hle:y≤R':=by omega
       (have nD:0≤rD R' y:=by unfold rD;rw[if_neg ar];split<;>omega);obtain⟨zz,ju⟩:=oQ (rD R' y);rw[ju] at nD;have Pn:ag (ax ah 218 #[rv,v2] wr (wF wr zz)):=hZ (by rw[←ju];exact M7 R' y rv v2 wr HR.out.1 OK.out);(have d2:decide ((0:Int)≤zz)=true:=by simp[nD]);have jR:=hZ hle
       have HRl:ag ((dg R').length≤100000):=hZ (by
        have h1:=HT.out.1;(have h2:R'≤T:=by have:=Pv.out;omega);have h3:=Iv (p_ y);rw[mY] at h3;have h4:=ki.out;have:(dg R').length≤(dg y).length+1:=AO (by rw[mQ];omega)
        omega)
       (have wq:aQ.wrap ((q:Int)+1)=((q+1:Nat):Int):=by have:=Lf.out;rw[aS];omega);clear ar hle nD ju
       go_wp2_with (first
        |(go_at_call 218;refine Pn.out.mono ?_;rintro e w5 ⟨rfl,cn⟩;have cT:=hZ cn;clear cn;have HM:=hZ (ab0 R' y jR.out rv v2 w5 (HR.out.1.below cT.out) (OK.out.below cT.out) HRl.out))
        |(go_at_call 223;refine HM.out.mono ?_;rintro e w6 ⟨v6,rfl,mI,Zn,eB⟩;have HV6:=hZ mI;have Ah:=hZ Zn;have dM:=aw cT eB;clear eB mI Zn;have yj:=hZ (HO.out.below dM.out (aB _));obtain⟨x1,x2⟩:=To yj.out)
        |fail)
       have Hk:=hZ (yj.out.anR m (q+1))
       go_roundw
       case rel=>exact⟨_,q+1,R'-y,rfl,by have:=jR.out;have:=Pv.out;rw[En];omega,hZ (by have:=Hk.out;rwa[aci] at this),
        hZ ⟨aX.set HV6.out (B:=g+1) (Ah.out.base (by have:=HB.out.2;have:=cT.out.size;omega)) ⟨g,m,none⟩ (Nat.lt_succ_self g) _,Ah.out.base (by have:=HB.out.2;have:=cT.out.size;omega)⟩,
        hZ ⟨(HB.out.1.trans (dM.out.mono (uz HB.out.2))).setCell (aB _) _,by simp[World.setCell];exact iX HB.out.2 dM.out.size⟩⟩
       case measure=>
        rw[acB (To HO.out).1,acB (c:=q+1) (by have h:=Hk.out;rw[aci] at h;exact(To h).1)];have:=Lf.out;omega
theorem Yd:gi ah 116 5 1 1:=gi.mk' (z:=.int .u8 0) uu (by kernel_rfl) rfl (by decide)
theorem aiK {d:Nat} (h:d<10):bv (tK d)=.int .u8 ((48+d:Nat):Int):=by unfold bv tK;rw[DZ h]
def BQ (neg:Bool) (n:Nat):List UInt8:=if n=0 then[48] else(if neg then[45] else[])++bX n
def iu (neg:Bool) (n:Nat):ByteArray:=⟨(BQ neg n).toArray⟩
theorem Nw (z:Int):BQ (decide (z<0)) z.natAbs=gA z:=by
 unfold BQ gA
 by_cases h0:z.natAbs=0
 · rw[if_pos h0,if_neg (by omega),h0,p8 (by decide)];rfl
 · rw[if_neg h0]
   by_cases h:z<0
   · simp[h]
   · simp[h]
def Xj (w:ae) (neg:Bool) (n:Nat) (e:qC) (w':ae):Prop:=e=.returned (.tuple #[.string (iu neg n),.bool (decide ((dg n).length≤200))])∧Below w.heap.size w w'
theorem aot {n m d:Nat} {pre:List UInt8} (h:(dg n)[m]?=some d):pre++(((dg n).drop m).map tK).reverse=(pre++(((dg n).drop (m+1)).map tK).reverse)++[tK d]:=by
 obtain⟨h1,h2⟩:=dL.1 h;rw[pN h1,h2,nM,ag0,Ek]
theorem BM (neg:Bool) (n:Nat) (v:ai) (w:ae) (h:aX w v (dg n)) (hl:(dg n).length≤1000):ax ah 155 #[.bool neg,v] w (Xj w neg n):=by
 obtain⟨A,c,rfl,fX,eo,fh,hA⟩:=h;have HA:=hZ hA;obtain⟨k,hk⟩:=oQ ((dg n).length);have HK:=hZ hk;rw[hk] at hl⊢;have dW:=hZ hl;unfold Xj;rw[hk];clear hA fX eo fh hl;rcases fL n with rfl|h0
 · obtain rfl:k=0:=by rw[←hk,lu];rfl
   clear hk;have e:iu neg 0=⟨#[48]⟩:=rfl;rw[e]
   go_enter ado,aey
   go_wp2
   go_ret2
   exact⟨rfl,bK _ _⟩
 · have fp:0<k:=by rw[←hk,nX h0];simp
   clear hk;obtain⟨pre,mF⟩:∃pre:List UInt8,pre=(if neg then[45] else[]):=⟨_,rfl⟩
   have JM:iu neg n=⟨(pre++((dg n).map tK).reverse).toArray⟩:=by
    unfold iu BQ;rw[if_neg (by omega),Qy h0,mF]
   rw[JM];(have qq:pre.length≤1:=by rw[mF];split<;>simp);have sa:=hZ qq;obtain⟨z,hz⟩:=oQ (aQ.wrap ((k:Int)-1));(have ju:z=(k:Int)-1:=by have:=dW.out;rw[←hz,aS];omega);have HZ:=hZ ju;(have d0:((k:Int)==0)=false:=by simp;omega);(have dl:decide ((k:Int)≤200)=decide (k≤200):=by rw[decide_eq_decide];omega);obtain⟨fits,Ry⟩:=oQ (decide (k≤200));have HFT:=hZ Ry;rw[Ry] at dl⊢;clear JM ju qq fp Ry;cases neg
   all_goals simp only[Bool.false_eq_true,if_true,if_false] at mF
   all_goals have uK:=hZ mF
   all_goals clear mF
   all_goals go_enter ado,aey
   all_goals go_wp2_with (first
    |(at_builtin;refine nJ rfl (.tmp 12) (.tmp 13) 116 rfl Yd _ ([]:List UInt8) 0 rfl rfl ((OL.nil (f:=one bv) (B:=w.heap.size)).alloc _) 45 w.heap.size #[.int .u8 45] rfl ?hc rfl rfl (by simp[one,bv,lH]) (by unfold cH;simp) (by simp) (by simp) ?_;(case hc=>exact bG _ _);intro g3 c3 w3 h3 _ _ _ aK;have jf:ag (OL w3 w.heap.size 5 1 (one bv) _ pre):=hZ (by rw[uK.out];exact h3);have a_:=hZ ((aY w _).trans aK);clear h3 aK)
    |fail)
   have jf:ag (OL w w.heap.size 5 1 (one bv) (.slice none 0 0) pre):=hZ (by rw[uK.out];exact OL.nil);have a_:=hZ (bK w.heap.size w)
   all_goals
    go_loopw [6,7] (fun v iv wr=> ∃(vv:ai) (j:Nat),vv=v∧iv=.int .i64 ((j:Int)-1)∧j≤k∧ag (OL wr w.heap.size 5 1 (one bv) vv (pre++(((dg n).drop j).map tK).reverse))∧ag (Below w.heap.size w wr)) (fun _ i _=>(intOf i+1).toNat)
    case atStart=>exact⟨_,k,rfl,by rw[HZ.out],aB _,hZ (by rw[GL (by rw[HK.out];omega)];simpa using jf.out),a_⟩
    case round=>
     clear jf a_ HZ hz;obtain⟨vv,j,rfl,rfl,hj,HO,HB⟩:=hrel;rcases fL j with rfl|h0
     · have d1:decide ((0:Int)≤((0:Nat):Int)-1)=false:=by decide
       have gb:=HO.out;rw[vW] at gb;have hr:=gb;unfold OL at hr;rw[wJ] at hr;have Rn:=Wr.Qw (P:=ah) 116 9 uu Tryz.underlying5 Tryz.underlying9 hr;clear gb hr;go_wp2_with fail
       go_ret2
       exact⟨rfl,HB.out⟩
     · obtain⟨m,rfl⟩:∃m,j=m+1:=⟨j-1,by omega⟩
       (have e1:((m+1:Nat):Int)-1=(m:Int):=by omega);rw[e1];(have hm:m<(dg n).length:=by rw[HK.out];omega);obtain⟨p,rfl,fy,gx⟩:=HA.out.get hm;unfold nv at gx;obtain⟨d,hd⟩:=oQ ((dg n)[m]);rw[hd] at gx;have HX:ag ((dg n)[m]?=some d):=hZ (by rw[←hd];exact bp hm);have lZ:d<10:=p_ n d (mP HX.out);have Jv:wr.cell? (p.add m)=some (.int .i64 d):=(HB.out.cell (p:=p.add m) (by rw[lr];exact fy)).trans gx;(have d1:decide ((0:Int)≤(m:Int))=true:=by simp);(have z1:(0:Int)≤(m:Int):=by omega);(have z2:(m:Int)<(k:Int):=by omega);obtain⟨z',zh⟩:=oQ (aQ.wrap ((m:Int)-1));(have ju:z'=(m:Int)-1:=by have:=dW.out;rw[←zh,aS];omega);have qX:=hZ ju;obtain⟨b,hb⟩:=oQ (48+d);(have w3:aQ.wrap (48+(d:Int))=(b:Int):=by rw[aS];omega);(have w4:Uf.wrap (b:Int)=(b:Int):=by rw[Ug];omega);have HV:ag (bv (tK d)=.int .u8 (b:Int)):=hZ (by rw[←hb];exact aiK lZ);obtain⟨ln,gG⟩:=oQ ((pre++(((dg n).drop (m+1)).map tK).reverse).length);have dO:=hZ gG;have qP:ag (ln≤1001):=hZ (by have:=sa.out;have:=HK.out;have:=dW.out;rw[←gG];simp;omega);clear gG;have eS:=hZ HB.out.size;clear gx fy hd hm ju hb lZ e1
       go_wp2_with (first
        |(at_builtin;refine nJ rfl (.tmp 22) (.tmp 29) 116 rfl Yd _ _ ln dO.out rfl (HO.out.alloc _) (tK d) wr.heap.size #[.int .u8 (b:Int)] rfl ?hc (by unfold one;rw[HV.out]) rfl (by simp[one,bv,lH]) (by have:=dO.out;have:=qP.out;unfold cH;omega) (by have:=dO.out;have:=qP.out;omega) (by have:=eS.out;simp;omega) ?_;(case hc=>exact bG _ _);intro g3 c3 w3 h3 _ _ _ aK;have jf:=hZ h3;have a_:=hZ ((HB.out.alloc eS.out _).trans aK);clear h3 aK)
        |fail)
       go_roundw
       case rel=>exact⟨_,m,rfl,by rw[qX.out],by omega,hZ (by have:=jf.out;rwa[←aot HX.out] at this),a_⟩
       case measure=>rw[qX.out];simp[intOf]
def VD (w:ae) (s:ByteArray) (e:qC) (w':ae):Prop:=e=.returned (.tuple #[.string s,.int .i64 0])∧Below w.heap.size w w'
theorem F4 (neg:Bool) (n:Nat) (v:ai) (w:ae) (h:aX w v (dg n)) (hl:(dg n).length≤200):ax ah 221 #[.bool neg,v] w (VD w (iu neg n)):=by
 have HT:=hZ (BM neg n v w h (by omega));have d1:decide ((dg n).length≤200)=true:=by simp[hl]
 clear h hl
 go_enter Tryz.func221,Tryz.ntmps221
 go_wp2_with (first
  |(go_at_call 155;refine HT.out.mono ?_;rintro e w2 ⟨rfl,hb⟩;have HB:=hZ hb;clear hb)
  |fail)
 go_ret2
 exact⟨rfl,HB.out⟩
def ahI (w:ae) (z:Int) (e:qC) (w':ae):Prop:=e=.returned (.string ⟨(gA z).toArray⟩)∧Below w.heap.size w w'
theorem abY (z:Int) (w:ae) (hz:z.natAbs<10^18):ax ah 99 #[.int .i64 z] w (ahI w z):=by
 have HL:ag ((dg z.natAbs).length≤18):=hZ (AO hz);have l7:z.natAbs<1000000000000000000:=hz;have HZ:=hZ l7;clear hz l7
 go_enter Tryz.func99,Tryz.ntmps99
 go_wp2_with fail
 go_loopw [3,4] (fun v iv wr=> ∃(vv:ai) (o:List Nat) (q:Int),vv=v∧iv=.int .i64 q∧ag (o++dg q.natAbs=dg z.natAbs)∧ag (q.natAbs<1000000000000000000)∧ag (pg wr w.heap.size vv o)∧ag (Below w.heap.size w wr)) (fun _ i _=>(intOf i).natAbs)
 case atStart=>exact⟨_,[],z,rfl,rfl,hZ rfl,HZ,hZ OL.nil,hZ (bK _ _)⟩
 case round=>
  obtain⟨vv,o,q,rfl,rfl,HI,HQ,HO,HB⟩:=hrel
  by_cases h0:q=0
  · subst h0
    (have ho:o=dg z.natAbs:=by have:=HI.out;simpa[lu] using this);subst ho;obtain⟨b,hb⟩:=oQ (decide (z<0));have HT:=hZ (BM b z.natAbs vv wr (aX.iW HO.out) (by have:=HL.out;omega));have PT:ag (iu b z.natAbs=⟨(gA z).toArray⟩):=hZ (by unfold iu;rw[←hb,Nw])
    go_wp2_with (first
     |(go_at_call 155;refine HT.out.mono ?_;rintro e w2 ⟨rfl,hb⟩;have aG:=hZ hb;clear hb)
     |fail)
    go_ret;exact⟨(by rw[PT.out];rfl),HB.out.trans (aG.out.mono HB.out.size)⟩
  · have d1:(q !=0)=true:=by simp[h0]
    obtain⟨d,hd⟩:=oQ (q.natAbs%10);obtain⟨t,ht⟩:=oQ (Int.tdiv q 10);(have Sq:t.natAbs=q.natAbs/10:=by rw[←ht,Int.natAbs_tdiv];rfl);(have Ss:t.natAbs<q.natAbs:=by omega);have HS:ag ((o++[d])++dg t.natAbs=dg z.natAbs):=hZ (by rw[←HI.out,Sq,nX (n:=q.natAbs) (by omega),hd,Ek];rfl);have Lu:=hZ Ss;(have wt:aQ.wrap t=t:=by have:=HQ.out;rw[aS];omega);have qP:ag (o.length≤18):=hZ (by have h1:=congrArg GO HI.out;have:=HL.out;rw[eV] at h1;omega);have eS:=hZ HB.out.size;obtain⟨ln,gG⟩:=oQ (o.length);have dO:=hZ gG;rw[gG] at qP;obtain⟨r,hr⟩:=oQ (Int.tmod q 10);(have Bu:r.natAbs=d:=by rw[←hr,Int.natAbs_tmod];exact hd);have lZ:d<10:=by omega
    by_cases jo:r<0
    · have b1:decide (r<0)=true:=by simp[jo]
      (have wd:aQ.wrap (-r)=(d:Int):=by rw[aS];omega);clear Sq Ss gG Bu hd jo
      go_wp2_with (first
       |(at_builtin;refine nJ rfl (.tmp 19) (.tmp 21) 23 rfl sy _ _ ln dO.out rfl (HO.out.alloc _) d wr.heap.size #[.int .i64 d] rfl ?hc rfl rfl (by simp[one,nv,lH]) (by have:=dO.out;have:=qP.out;unfold cH;omega) (by have:=dO.out;have:=qP.out;omega) (by have:=eS.out;simp;omega) ?_;(case hc=>exact bG _ _);intro g3 c3 w3 h3 _ _ _ aK;have jf:=hZ h3;have a_:=hZ ((HB.out.alloc eS.out _).trans aK);clear h3 aK)
       |fail)
      go_roundw
      case rel=>exact⟨_,_,t,rfl,rfl,HS,hZ (by have:=Lu.out;have:=HQ.out;omega),jf,a_⟩
      case measure=>simp[intOf];exact Lu.out
    · have b1:decide (r<0)=false:=by simp;omega
      (obtain rfl:r=(d:Int):=by omega);clear Sq Ss gG Bu hd jo
      go_wp2_with (first
       |(at_builtin;refine nJ rfl (.tmp 19) (.tmp 21) 23 rfl sy _ _ ln dO.out rfl (HO.out.alloc _) d wr.heap.size #[.int .i64 d] rfl ?hc rfl rfl (by simp[one,nv,lH]) (by have:=dO.out;have:=qP.out;unfold cH;omega) (by have:=dO.out;have:=qP.out;omega) (by have:=eS.out;simp;omega) ?_;(case hc=>exact bG _ _);intro g3 c3 w3 h3 _ _ _ aK;have jf:=hZ h3;have a_:=hZ ((HB.out.alloc eS.out _).trans aK);clear h3 aK)
       |fail)
      go_roundw
      case rel=>exact⟨_,_,t,rfl,rfl,HS,hZ (by have:=Lu.out;have:=HQ.out;omega),jf,a_⟩
      case measure=>simp[intOf];exact Lu.out
def Ep (w:ae) (z:Int) (e:qC) (w':ae):Prop:=∃v,e=.returned (.tuple #[.bool (decide (z<0)),v])∧aX w' v (dg z.natAbs)∧gK w.heap.size v∧Below w.heap.size w w'
theorem tI {s:ByteArray} {l:List UInt8} (h:s.data.toList=l) {i:Nat} (hi:i<s.size):l[i]?=some s[i]:=by
 rw[←h];have:s[i]=s.data[i]:=rfl;rw[this,Array.getElem?_toList];exact Array.getElem?_eq_getElem hi
theorem XZ {n m:Nat} (h:0<n) (hm:m<(dg n).length):(bX n)[(dg n).length-1-m]?=((dg n)[m]?).map tK:=by
 rw[Qy h,List.getElem?_reverse (by rw[rP];omega),rP,List.getElem?_map,show(dg n).length-1-((dg n).length-1-m)=m by omega]
theorem BK (z:Int) (s:ByteArray) (hs:s.data.toList=gA z) (hl:(dg z.natAbs).length≤200) (w:ae):ax ah 217 #[.string s] w (Ep w z):=by
 have aU:s.size=(gA z).length:=by rw[←hs];exact oo.symm
 have hp:0<s.size:=by
  rw[aU];unfold gA
  split
  · simp
  · exact List.length_pos_iff.2 (Ir _)
 obtain⟨b,hb⟩:=oQ (s[0].toNat);obtain⟨n,hn⟩:=oQ (z.natAbs);unfold Ep;rw[hn] at hl⊢;have HL:=hZ hl
 have key:∃t:ByteArray,t.data.toList=bX n∧((z<0∧b=45∧s.extract 1 s.size=t)∨(¬z<0∧b≠45∧t=s)):=by
  by_cases jo:z<0
  · refine⟨s.extract 1 s.size,?_,.inl ⟨jo,?_,rfl⟩⟩
    · have h:=hs
      unfold gA at h;rw[if_pos jo,hn] at h;rw[Lib.extract_data,h];(have tY:s.size=(bX n).length+1:=by rw[←eF (a:=(45:UInt8)),←h];exact oo.symm);rw[tY];simp
    · have h:=tI hs hp
      unfold gA at h;rw[if_pos jo] at h;simp at h;rw[←hb,←h];rfl
  · have h:=hs
    unfold gA at h;rw[if_neg jo,hn] at h;refine⟨s,h,.inr ⟨jo,fun e=>?_,rfl⟩⟩;have h2:=tI h hp;have h3:=C0 n _ (mP h2);unfold dy at h3;rw[hb,e] at h3;simp at h3
 obtain⟨t,HT,key⟩:=key;have HT:=hZ HT;obtain⟨k,hk⟩:=oQ (t.size);have ic:k=(bX n).length:=by rw[←hk,←HT.out];exact oo.symm
 have dR:=LN n;have HK:ag (k≤200∧1≤k∧k=max 1 (dg n).length):=hZ ⟨by omega,by omega,by omega⟩;obtain⟨u,hu⟩:=oQ (aQ.wrap ((k:Int)-1));have huu:u=(k:Int)-1:=by have:=HK.out;rw[←hu,aS];omega
 have HU:=hZ huu
 have hg:(t.toList==[48])=decide (n=0):=by
  rw[ByteArray.toList_eq,HT.out];rcases fL n with rfl|h
  · rw[p8 (by decide)];rfl
  · rw[decide_eq_false (by omega),beq_eq_false_iff_ne]
    intro e;exact Iq h 48 (by rw[e];rfl) rfl
 have de:=hZ (bK w.heap.size w);clear ic dR huu hl hs aU;rcases key with⟨jo,I2,hx⟩|⟨jo,I2,rfl⟩
 · subst I2
   rw[decide_eq_true jo];clear jo
   go_enter adC,aeK
   go_wp2_with fail;clear hx hb hp
   · go_loopw [5,6] (fun v iv wr=> ∃(vv:ai) (m:Nat),vv=v∧iv=.int .i64 ((k:Int)-1-(m:Int))∧m≤k∧ag (n=0→m=0)∧ag (pg wr w.heap.size vv ((dg n).take m))∧ag (Below w.heap.size w wr)) (fun _ i _=>(intOf i+1).toNat)
     case atStart=>exact⟨_,0,rfl,by rw[HU.out];simp,ei _,hZ fun _=>rfl,hZ OL.nil,de⟩
     case round=>
      obtain⟨vv,m,rfl,rfl,hm,H0,HO,HB⟩:=hrel
      have u_:m=k∨n=0→(dg n).take m=dg n:=fun h=>by
       rcases fL n with rfl|hp
       · rw[lu];simp
       · have:1≤(dg n).length:=by rw[nX hp];simp
         have:=HK.out;rw[eE (by omega)]
      have Cq:=hZ u_;clear u_;rcases fB m k with ar|Fp
      · obtain⟨p,eH⟩:=oQ (k-1-m)
        (have e1:(k:Int)-1-(m:Int)=(p:Int):=by omega);rw[e1];(have d1:decide ((0:Int)≤(p:Int))=true:=by simp);rcases fL n with rfl|l6
        · have f_:(t.toList==[48])=true:=by rw[hg];rfl
          have HV:=hZ (Cq.out (.inr rfl));clear hg;go_wp2_with fail
          go_ret2
          exact⟨_,rfl,by have:=HO.out;rw[HV.out] at this;exact aX.iW this,HO.out.fresh,HB.out⟩
        · have f_:(t.toList==[48])=false:=by rw[hg];exact decide_eq_false (by omega)
          (have qm:k=(dg n).length:=by have:=HK.out;have:1≤(dg n).length:=(by rw[nX l6];simp);omega);(have Bq:m<(dg n).length:=by omega);obtain⟨d,hd⟩:=oQ ((dg n)[m]);have HX:ag ((dg n)[m]?=some d):=hZ (by rw[←hd];exact bp Bq);have lZ:d<10:=p_ n d (mP HX.out);(have n_:p<t.size:=by rw[hk];omega);obtain⟨c,hc⟩:=oQ (t[p].toNat)
          have Rm:c=48+d:=by
           have h0:=XZ l6 Bq;rw[show(dg n).length-1-m=p by omega,HX.out] at h0;have h1:=tI HT.out n_;rw[h0] at h1;simp only[Option.map_some,ag9] at h1;rw[←hc,←h1];exact DZ lZ
          (have y1:(0:Int)≤(p:Int):=by omega);(have y2:(p:Int)<(k:Int):=by omega);(have w5:Uf.wrap ((c:Int)-48)=(d:Int):=by rw[Ug];omega);(have w6:aQ.wrap (d:Int)=(d:Int):=by rw[aS];omega);obtain⟨z',zh⟩:=oQ (aQ.wrap ((p:Int)-1));(have ju:z'=(k:Int)-1-((m+1:Nat):Int):=by have:=HK.out;rw[←zh,aS];omega);have qX:=hZ ju;have mT:=hZ eH;have aL:=hZ ar;have eu:=hZ l6;have bS:ag ((dg n).take m++[d]=(dg n).take (m+1)):=hZ (by rw[gV,HX.out];rfl);have dO:ag (((dg n).take m).length=m):=hZ (by rw[gD];omega);have eS:=hZ HB.out.size;have HM:ag (m≤200):=hZ (by have:=HK.out;omega);clear hg hd lZ Rm ju eH ar l6 qm Bq e1 hm
          go_wp2_with (first
           |(at_builtin;refine nJ rfl (.tmp 24) (.tmp 30) 23 rfl sy _ _ m dO.out rfl (HO.out.alloc _) d wr.heap.size #[.int .i64 d] rfl ?hc rfl rfl (by simp[one,nv,lH]) (by have:=dO.out;have:=HM.out;unfold cH;omega) (by have:=dO.out;have:=HM.out;omega) (by have:=eS.out;simp;omega) ?_;(case hc=>exact bG _ _);intro g3 c3 w3 h3 _ _ _ aK;have jf:=hZ h3;have a_:=hZ ((HB.out.alloc eS.out _).trans aK);clear h3 aK)
           |fail)
          go_roundw
          case rel=>exact⟨_,m+1,rfl,by rw[qX.out],aL.out,hZ (fun e=>by have:=eu.out;omega),hZ (by have:=jf.out;rwa[bS.out] at this),a_⟩
          case measure=>rw[qX.out];simp[intOf];have:=mT.out;have:=aL.out;omega
      · obtain rfl:m=k:=by omega
        (have e1:(m:Int)-1-(m:Int)=-1:=by omega);rw[e1];have HV:=hZ (Cq.out (.inl rfl));clear hg;go_wp2_with fail
        go_ret2
        exact⟨_,rfl,by have:=HO.out;rw[HV.out] at this;exact aX.iW this,HO.out.fresh,HB.out⟩
 · rw [decide_eq_false jo]
   clear jo;have d0:((b:Int)==45)=false:=by simp;omega
   go_enter adC,aeK
   go_wp2_with fail;clear d0 I2 hb hp
   · go_loopw [5,6] (fun v iv wr=> ∃(vv:ai) (m:Nat),vv=v∧iv=.int .i64 ((k:Int)-1-(m:Int))∧m≤k∧ag (n=0→m=0)∧ag (pg wr w.heap.size vv ((dg n).take m))∧ag (Below w.heap.size w wr)) (fun _ i _=>(intOf i+1).toNat)
     case atStart=>exact⟨_,0,rfl,by rw[HU.out];simp,ei _,hZ fun _=>rfl,hZ OL.nil,de⟩
     case round=>
      obtain⟨vv,m,rfl,rfl,hm,H0,HO,HB⟩:=hrel
      have u_:m=k∨n=0→(dg n).take m=dg n:=fun h=>by
       rcases fL n with rfl|hp
       · rw[lu];simp
       · have:1≤(dg n).length:=by rw[nX hp];simp
         have:=HK.out;rw[eE (by omega)]
      have Cq:=hZ u_;clear u_;rcases fB m k with ar|Fp
      · obtain⟨p,eH⟩:=oQ (k-1-m)
        (have e1:(k:Int)-1-(m:Int)=(p:Int):=by omega);rw[e1];(have d1:decide ((0:Int)≤(p:Int))=true:=by simp);rcases fL n with rfl|l6
        · have f_:(t.toList==[48])=true:=by rw[hg];rfl
          have HV:=hZ (Cq.out (.inr rfl));clear hg;go_wp2_with fail
          go_ret2
          exact⟨_,rfl,by have:=HO.out;rw[HV.out] at this;exact aX.iW this,HO.out.fresh,HB.out⟩
        · have f_:(t.toList==[48])=false:=by rw[hg];exact decide_eq_false (by omega)
          (have qm:k=(dg n).length:=by have:=HK.out;have:1≤(dg n).length:=(by rw[nX l6];simp);omega);(have Bq:m<(dg n).length:=by omega);obtain⟨d,hd⟩:=oQ ((dg n)[m]);have HX:ag ((dg n)[m]?=some d):=hZ (by rw[←hd];exact bp Bq);have lZ:d<10:=p_ n d (mP HX.out);(have n_:p<t.size:=by rw[hk];omega);obtain⟨c,hc⟩:=oQ (t[p].toNat)
          have Rm:c=48+d:=by
           have h0:=XZ l6 Bq;rw[show(dg n).length-1-m=p by omega,HX.out] at h0;have h1:=tI HT.out n_;rw[h0] at h1;simp only[Option.map_some,ag9] at h1;rw[←hc,←h1];exact DZ lZ
          (have y1:(0:Int)≤(p:Int):=by omega);(have y2:(p:Int)<(k:Int):=by omega);(have w5:Uf.wrap ((c:Int)-48)=(d:Int):=by rw[Ug];omega);(have w6:aQ.wrap (d:Int)=(d:Int):=by rw[aS];omega);obtain⟨z',zh⟩:=oQ (aQ.wrap ((p:Int)-1));(have ju:z'=(k:Int)-1-((m+1:Nat):Int):=by have:=HK.out;rw[←zh,aS];omega);have qX:=hZ ju;have mT:=hZ eH;have aL:=hZ ar;have eu:=hZ l6;have bS:ag ((dg n).take m++[d]=(dg n).take (m+1)):=hZ (by rw[gV,HX.out];rfl);have dO:ag (((dg n).take m).length=m):=hZ (by rw[gD];omega);have eS:=hZ HB.out.size;have HM:ag (m≤200):=hZ (by have:=HK.out;omega);clear hg hd lZ Rm ju eH ar l6 qm Bq e1 hm
          go_wp2_with (first
           |(at_builtin;refine nJ rfl (.tmp 24) (.tmp 30) 23 rfl sy _ _ m dO.out rfl (HO.out.alloc _) d wr.heap.size #[.int .i64 d] rfl ?hc rfl rfl (by simp[one,nv,lH]) (by have:=dO.out;have:=HM.out;unfold cH;omega) (by have:=dO.out;have:=HM.out;omega) (by have:=eS.out;simp;omega) ?_;(case hc=>exact bG _ _);intro g3 c3 w3 h3 _ _ _ aK;have jf:=hZ h3;have a_:=hZ ((HB.out.alloc eS.out _).trans aK);clear h3 aK)
           |fail)
          go_roundw
          case rel=>exact⟨_,m+1,rfl,by rw[qX.out],aL.out,hZ (fun e=>by have:=eu.out;omega),hZ (by have:=jf.out;rwa[bS.out] at this),a_⟩
          case measure=>rw[qX.out];simp[intOf];have:=mT.out;have:=aL.out;omega
      · obtain rfl:m=k:=by omega
        (have e1:(m:Int)-1-(m:Int)=-1:=by omega);rw[e1];have HV:=hZ (Cq.out (.inl rfl));clear hg;go_wp2_with fail
        go_ret2
        exact⟨_,rfl,by have:=HO.out;rw[HV.out] at this;exact aX.iW this,HO.out.fresh,HB.out⟩
end Go.Proofs.YteeifhlhpiimoaaGreatDoor
end
