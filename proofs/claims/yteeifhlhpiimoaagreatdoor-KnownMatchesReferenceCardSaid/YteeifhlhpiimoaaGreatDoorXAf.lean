/-
  Known's conditions as closures, and its iterator where; the like for what stands beside it. Conditions: each contract's own.
-/
import Derived.Test.YteeifhlhpiimoaaGreatDoorXAe
import Derived.KernelRfl
import Derived.Test.YteeifhlhpiimoaaGreatDoorXAa
set_option maxHeartbeats 8000000
set_option maxRecDepth 100000
open Array renaming getElem?_eq_some_iff→fU,getElem?_modify→qB,replicate_succ→BY,replicate_zero→BZ
open Bool renaming false_and→Ua,true_and→Ub
open Go renaming Addr→bI,Boxed→cG,Calls→ax,Obj→lG,Oper→aZ,Operand→ef,Program→eI,TypeId→bF,Value→ai,World→ae,maxLen→cH,run_takeDeferred→Ab,undef→cM,wpListIn→vV,yielded→gJ
open Go.IntKind renaming i64→aQ,wrap_i64→aS
open Go.Joins renaming below_draws→qD
open Go.Proofs.Tryz renaming func127→NV,func128→adh,func129→adi,func130→adk,func20→D9,func85→ad8,isAgg4→ur,ntmps20→Ea,prog→ah,underlying33→bk
open Go.Region renaming wanted→eD
open Go.RowKit.Below renaming heap_setCell→fA,refl→bK
open Go.World renaming alloc_heap_new→bG,setRow→qH,size_alloc→gI
open List renaming append_toArray→Ca,cons_append→s6,drop_eq_getElem_cons→pN,filter→agE,filter_append→s7,find?_cons→Oo,foldl_append→agK,getElem?_eq_getElem→bp,getElem?_map→El,length_cons→eF,length_nil→pQ,mem_append→pR,mem_cons→dG,mem_cons_of_mem→qI,mem_cons_self→Ae,mem_singleton→fQ,nil_append→xS,pairwise_cons→Cc,pairwise_singleton→agY,push_toArray→Cd,size_toArray→tf,take_add_one→gV,take_of_length_le→eE
open List.Pairwise renaming and→apG,map→agz,nil→KN
open Nat renaming le_refl→aB,le_trans→aV,reduceAdd→xU,reduceSub→Ch,zero_le→ei
section
namespace Go.Proofs.YteeifhlhpiimoaaGreatDoor
open Go Go.RowKit Go.Shelf
attribute [local go_sem] Oper.semAt_some
structure jB where
 g:Nat
 Qr:Array ai
 p:af→Bool
def jB.val (c:jB):ai:=.func (.func c.g) #[] c.Qr
structure nO (w:ae) (Y:Nat→Prop) (c:jB):Prop where
 enters:∀args W,(callFunc c.g args).run ah W=.ok (.enter c.g args) W
 calls:∀e W,ej Y w W→ax ah c.g (#[af.val e]++c.Qr) W (cC W (c.p e))
theorem nO.keeps {w W:ae} {Y:Nat→Prop} {c:jB} (h:nO w Y c) (k:ej Y w W):nO W Y c:=⟨h.enters,fun e V hV=>h.calls e V (k.trans hV)⟩
def EV (w:ae) (Y:Nat→Prop) (A:Option bI) (vs:List ai):Prop:=∀(i:Nat) (v:ai),vs[i]?=some v→∃a,A=some a∧Y a.block∧w.cell? (a.add i)=some v
theorem EV.keeps {w W:ae} {Y:Nat→Prop} {A:Option bI} {l:List ai} (h:EV w Y A l) (k:ej Y w W):EV W Y A l:=fun i e he=>by
 obtain⟨a,e1,e2,e3⟩:=h i e he;exact⟨a,e1,e2,(World.cell?_of_block (w:=w) (a:=a.add i) (by rw[lr];exact k _ e2)).trans e3⟩
theorem ahQ (n:Int) (w:ae):ax ah 73 #[.int .i64 n] w fun e w'=>e=.returned (.func (.func 129) #[] #[.pointer (some ⟨w.heap.size,0,none⟩)])∧w'=w.alloc (.cells #[.int .i64 n] 3):=by
 go_enter Tryz.func73,Tryz.ntmps73
 go_wp2;go_ret;exact⟨rfl,rfl⟩
theorem aj6 (n:Int) (w:ae):ax ah 75 #[.int .i64 n] w fun e w'=>e=.returned (.func (.func 130) #[] #[.pointer (some ⟨w.heap.size,0,none⟩)])∧w'=w.alloc (.cells #[.int .i64 n] 3):=by
 go_enter Tryz.func75,Tryz.ntmps75
 go_wp2;go_ret;exact⟨rfl,rfl⟩
theorem ahO (e:af) (n:Int) (b:Nat) (w:ae) (hb:cG w b 3 (.int .i64 n)):ax ah 129 #[e.val,.pointer (some ⟨b,0,none⟩)] w (cC w (decide (e.item=n))):=by
 have HB:=hZ hb;clear hb
 go_enter adi,Tryz.ntmps129
 go_wp2_with (first
  | ((with_reducible refine ff rfl (.tmp 0) rfl e ?hx ?_);(case hx=>rfl);intro w1 aH aq aP
     have x1:=aH.cell (i:=8) rfl;have px:cG w1 b 3 (.int .i64 n):=(aq.block b HB.out.lt).trans HB.out;have x2:=px.cell;have aF:=hZ aq
     clear aH aq aP px)
  |fail)
 go_ret;exact⟨rfl,aF.out⟩
theorem aj5 (e:af) (n:Int) (b:Nat) (w:ae) (hb:cG w b 3 (.int .i64 n)):ax ah 130 #[e.val,.pointer (some ⟨b,0,none⟩)] w (cC w (decide (e.az≤n)&&decide (n≤e.bj))):=by
 have HB:=hZ hb;clear hb;obtain⟨q,hq⟩:=oQ (decide (e.az≤n));obtain⟨r,hr⟩:=oQ (decide (n≤e.bj))
 cases q<;>cases r<;>
 · rw [hq,hr]
   go_enter adk,Tryz.ntmps130
   go_wp2_with (first
    | ((with_reducible refine ff rfl (.tmp 0) rfl e ?hx ?_);(case hx=>rfl);intro w1 aH aq aP
       have x1:=aH.cell (i:=5) rfl;have x3:=aH.cell (i:=6) rfl;have px:cG w1 b 3 (.int .i64 n):=(aq.block b HB.out.lt).trans HB.out;have x2:=px.cell;have aF:=hZ aq
       clear aH aq aP px)
    |fail)
   go_ret;exact⟨rfl,aF.out⟩
theorem Qv (n:Int) (b:Nat) (w:ae) (Y:Nat→Prop) (hY:Y b) (hb:cG w b 3 (.int .i64 n)):nO w Y ⟨129,#[.pointer (some ⟨b,0,none⟩)],fun e=>decide (e.item=n)⟩:=
 ⟨enters_of adi (by kernel_rfl) rfl,fun e W k=>ahO e n b W (k.boxed hb hY)⟩
theorem XK (n:Int) (b:Nat) (w:ae) (Y:Nat→Prop) (hY:Y b) (hb:cG w b 3 (.int .i64 n)):nO w Y ⟨130,#[.pointer (some ⟨b,0,none⟩)],fun e=>decide (e.az≤n)&&decide (n≤e.bj)⟩:=
 ⟨enters_of adk (by kernel_rfl) rfl,fun e W k=>aj5 e n b W (k.boxed hb hY)⟩
theorem aoZ (A:Option bI) (n c:Nat) (A2:Option bI) (n2 c2:Nat) (w:ae):ax ah 72 #[.slice A n c,.slice A2 n2 c2] w fun e w'=>
 e=.returned (.func (.func 127) #[] #[.pointer (some ⟨w.heap.size,0,none⟩),.pointer (some ⟨w.heap.size+1,0,none⟩)])∧w'=(w.alloc (.cells #[.slice A n c] 25)).alloc (.cells #[.slice A2 n2 c2] 110):=by
 go_enter Tryz.func72,Tryz.ntmps72
 go_wp2;go_ret;exact⟨rfl,rfl⟩
theorem aoW (c:jB) (b:Nat) (e:af) (w:ae) (Y:Nat→Prop) (h:nO w Y c) (hE:aR w b e):
 ax ah 128 #[c.val,.pointer (some ⟨b,0,none⟩)] w (cC w (!(c.p e))):=by
 have HC:=hZ (h.calls e w (ej.refl _ _));have eg:=h.enters;have HE:=hZ (bl (cs:=e.cells) hE);have IE:=hZ (di (e:=e));obtain⟨g,Qr,p⟩:=c;unfold jB.val
 dsimp only at HC eg⊢
 obtain⟨q,hq⟩:=oQ (p e);rw[hq] at HC⊢;clear h hE hq
 go_enter adh,Tryz.ntmps128
 go_wp2_with (first
  |(with_reducible refine lm b 0 HE.out IE.out bk ?_)
  |((with_reducible refine HC.out.mono ?_);rintro e1 w1 ⟨rfl,hb⟩)
  |fail)
 go_ret;exact⟨rfl,hb⟩
theorem ao0 (rs:List jB) (A:Option bI) (n c:Nat) (hn:rs.length=n) (qo:n≤1000) (b:Nat) (e:af) (w:ae) (Y:Nat→Prop) (hY:∀k,Y k→k<w.heap.size) (hA:EV w Y A (rs.map jB.val)) (hE:aR w b e) (hR:∀c∈rs,nO w Y c):
 ax ah 125 #[.slice A n c,.func (.func 128) #[] #[.pointer (some ⟨b,0,none⟩)]] w fun e' w'=>(∃i:Int,e'=.returned (.int .i64 i)∧(0≤i↔rs.all (·.p e)=false))∧Below w.heap.size w w':=by
 have HA:=hZ hA;have HE:=hZ hE;have HR:=hZ hR;have HN:=hZ hn;have HY:=hZ hY;clear hA hE hR hn hY;have e68:∀args W,(callFunc 128 args).run ah W=.ok (.enter 128 args) W:=enters_of adh (by kernel_rfl) rfl
 go_enter Tryz.func125,Tryz.ntmps125
 go_wp2_with fail
 go_loopw [5,8] (fun _ v wr=> ∃i:Nat,v=.int .i64 (i:Int)∧i≤n∧Hid (∀c∈rs.take i,c.p e=true)∧Below w.heap.size w wr) (fun _ v _=>match v with|.int _ k=>n-k.toNat|_=>0)
 case atStart=>exact⟨0,rfl,ei _,hZ (by simp),bK _ _⟩
 case round=>
  obtain⟨i,rfl,hi,HT,hB⟩:=hrel;have HB:=hZ hB;clear hB;have HK:=hZ (ej.gH HB.out HY.out)
  by_cases ar:i<n
  · have hl:i<rs.length:=by rw[HN.out];exact ar
    obtain⟨p,hp⟩:=oQ (rs[i]);(have eH:rs[i]?=some p:=by rw[bp hl,hp]);obtain⟨a,rfl,d_,gq⟩:=(HA.out.keeps HK.out) i p.val (by rw[El,eH];rfl);have ky:p∈rs:=List.mem_of_getElem? eH;have ask:=(HR.out _ ky).keeps HK.out;have HV:=hZ (aoW p b e wr Y ask (HE.out.below HB.out));have HP:=hZ eH;obtain⟨AF,Q_⟩:=oQ (p.p e);have VG:=hZ Q_;rw[Q_] at HV;unfold jB.val at gq HV;(have d1:decide (i<n)=true:=by simp[ar]);(have z1:(0:Int)≤(i:Int):=by omega);(have z2:(i:Int)<(n:Int):=by omega);(have w1:aQ.wrap ((i:Int)+1)=((i+1:Nat):Int):=by rw[aS];omega);have EC:=hZ ky;clear ky ask hp hl eH Q_;cases AF
    · go_wp2_with (first
       |(go_at_call 128;(with_reducible refine HV.out.mono ?_);rintro e1 w2 ⟨rfl,hb⟩;have aG:=aw HB hb;clear hb)
       |fail)
      go_ret;refine⟨⟨_,rfl,?_⟩,aG.out⟩;refine⟨fun _=>?_,fun _=>by omega⟩;rw[List.all_eq_false];exact⟨_,EC.out,by rw[VG.out];simp⟩
    · go_wp2_with (first
       |(go_at_call 128;(with_reducible refine HV.out.mono ?_);rintro e1 w2 ⟨rfl,hb⟩;have aG:=aw HB hb;clear hb)
       |fail)
      go_round
      case rel=>
       refine⟨i+1,rfl,by omega,hZ ?_,aG.out⟩;rw[gV,HP.out];intro q hq;rcases pR.1 hq with h|h
       · exact HT.out q h
       · rw[Option.toList_some] at h;rw[fQ.1 h];exact VG.out
      case measure=>simp;omega
  · have d1:decide (i<n)=false:=by simp;omega
    go_wp2_with fail;go_ret;refine⟨⟨_,rfl,?_⟩,HB.out⟩
    have:rs.all (·.p e)=true:=by
     rw[List.all_eq_true];intro q hq;refine HT.out q ?_;rw[eE (by rw[HN.out];omega)];exact hq
    rw[this];exact⟨fun h=>by omega,fun h=>by cases h⟩
theorem aoX (rs:List jB) (A:Option bI) (n c:Nat) (hn:rs.length=n) (qo:n≤1000) (b:Nat) (e:af) (w:ae) (Y:Nat→Prop) (hY:∀k,Y k→k<w.heap.size) (hA:EV w Y A (rs.map jB.val)) (hE:aR w b e) (hR:∀c∈rs,nO w Y c):
 ax ah 67 #[.slice A n c,.func (.func 128) #[] #[.pointer (some ⟨b,0,none⟩)]] w (cC w (!(rs.all (·.p e)))):=by
 have HI:=hZ (ao0 rs A n c hn qo b e w Y hY hA hE hR);obtain⟨z,hz⟩:=oQ (rs.all (·.p e));rw[hz] at HI⊢;clear hz hA hE hR hn qo hY
 go_enter Tryz.func67,Tryz.ntmps67
 go_wp2_with (first
  | (go_at_call 125;(with_reducible refine HI.out.mono ?_);rintro e1 w2 ⟨⟨i,rfl,hi⟩,hb⟩
     have hd:decide (0≤i)= !z:=by cases z<;>simp at hi⊢ <;>omega
     clear hi)
  |fail)
 go_ret;exact⟨rfl,hb⟩
theorem ej.lt {Y:Nat→Prop} {w W:ae} (h:ej Y w W) (hY:∀k,Y k→k<w.heap.size):∀k,Y k→k<W.heap.size:=fun k hk=>by
 obtain⟨o,ho⟩:∃o,w.heap[k]?=some o:=⟨_,Array.getElem?_eq_getElem (hY k hk)⟩;exact(fU.1 ((h k hk).trans ho)).1
section
variable {F:Fence} {n:Nat} {P:eI} {ops:Array aZ} {Q:Exit→Act→ae→Prop} {a:Act} {w:ae} {rest:List aZ} {o:aZ}
theorem ao4 (hw:eD o (gJ ops a.tmps)=true) (ty:bF) (x:ef) (ho:o.op=.load ty x)
 (b k:Nat) (hx:a.eval x=.pointer (some ⟨b,k,none⟩)) (cs:List ai) (d:TypeDesc) (hc:w.rangeAt b k cs)
 (hu:P.underlying ty=some d) (hd:d.isRow=true) (hi:(P.info? ty).map (·.size)=some cs.length)
 (h:vV F n P ops Q rest (a.put o.dst (.agg cs.toArray)) w):vV F n P ops Q (o::rest) a w:=by
 refine wpListIn_step fun K hK=>?_;rw[if_pos hw];unfold Oper.wpIn;refine⟨?_,?_⟩
 · simp[Oper.about,ho]
 · rw[Oper.semAt_plain F _ _ (by rw[ho];intro c kM;cases kM)]
   have hr:=run_loadAt_mid (P:=P) w b k ty cs d hc hu hd hi;obtain⟨z,hz⟩:=oQ (cs.toArray);rw[hz] at hr h;simp[execOp,ho,hx,hr,Result.andThen];exact hK _ _ h
theorem ao5 (hw:eD o (gJ ops a.tmps)=false) (h:vV Fence.wide n P ops Q rest (a.put o.dst cM) w):vV Fence.wide n P ops Q (o::rest) a w:=by
 simp only[vV,hw];exact⟨fun _ _=>trivial,h⟩
end
def dw (rs:List jB) (e:af):Bool:=rs.all (·.p e)
def tN (e:af):Array ai:=#[af.val e]
theorem NH (rs:List jB) (l:List af) (A A2:Option bI) (n c n2 c2 b1 b2:Nat) (hn:l.length=n) (hm:n≤cH) (cN:rs.length=n2) (fT:n2≤1000) (Y:Nat→Prop) (w:ae) (hY:∀k,Y k→k<w.heap.size) (y1:Y b1) (y2:Y b2)
 (h1:cG w b1 25 (.slice A n c)) (h2:cG w b2 110 (.slice A2 n2 c2)) (hA:eW w Y A l) (mC:EV w Y A2 (rs.map jB.val)) (hR:∀c∈rs,nO w Y c):
 tG ah 127 #[.pointer (some ⟨b1,0,none⟩),.pointer (some ⟨b2,0,none⟩)] tN (fun _=>False) (ej Y) (fun xs=>xs=l.filter (dw rs)) (fun pre=> ∃k,pre=(l.take k).filter (dw rs)) n w:=by
 intro l0 J Jx W hW hJ L_ YL h0;have kW:ej Y w W:=ej.gH hW hY;have P7:=hZ (kW.lt hY);have ahr:Hid (cG W b1 25 (.slice A n c)):=hZ (kW.boxed h1 y1);have Wi:Hid (cG W b2 110 (.slice A2 n2 c2)):=hZ (kW.boxed h2 y2);have HA:=hZ (hA.keeps kW);have uE:=hZ (mC.keeps kW);have HR:Hid (∀c∈rs,nO W Y c):=hZ fun c hc=>(hR c hc).keeps kW;have HN:=hZ hn;have iz:=hZ (And.intro cN fT);have WZ:=hZ (And.intro y1 y2);have ki:=hZ YL;have HJ:=hZ hJ;have HJX:=hZ L_;have Mt:n≤9223372036854775807:=by unfold cH at hm;omega
 clear hY y1 y2 h1 h2 hA mC hR hn cN fT kW YL hJ L_ hW hm;refine callsIn_of_wp NV rfl trivial ?_ rfl;simp only[Tryz.ntmps127,tf,eF,pQ,xU,Ch,BY,BZ,Cd,Ca,xS,s6];have c0:=ahr.out.cell
 gi_wp2_with fail
 gi_loopw [5,8] (fun _ i wr=> ∃(k:Nat) (pre:List af),Hid (pre=(l.take k).filter (dw rs))∧k≤n∧i=.int .i64 (k:Int)∧Hid (ej Y W wr)∧Hid (J pre wr)) (fun _ i _=>n-(intOf i).toNat)
 case atStart=>exact⟨0,[],hZ rfl,by omega,rfl,hZ (ej.refl _ _),hZ h0⟩
 case round=>
  obtain⟨k,pre,uK,hk,rfl,HK,Wh⟩:=hrel;clear h0 c0;have IE:=fun e:af=>hZ (di (e:=e))
  by_cases ar:k<n
  · obtain⟨e,he⟩:∃e,l[k]?=some e:=⟨_,bp (by rw[HN.out];exact ar)⟩
    obtain⟨b,sB,yb,cP⟩:=(HA.out.keeps HK.out) k e he;subst sB;have cX:=hZ cP;have HE:=hZ he;have c2':=(HK.out.boxed Wi.out WZ.out.2).cell;(have z1:(0:Int)≤(k:Int):=by omega);(have z2:(k:Int)<(n:Int):=by omega);(have w2:aQ.wrap ((k:Int)+1)=((k+1:Nat):Int):=by rw[aS];omega);(have d1:decide (k<n)=true:=by simp[ar]);clear he cP yb
    gi_wp2_with (first
     |((with_reducible refine Gk rfl 33 (.tmp 10) rfl b (k*18) ?hx e.cells _ cX.out bk rfl (IE e).out ?_);(case hx=>rfl))
     | ((with_reducible refine Gl rfl (.tmp 5) (.tmp 11) rfl rfl e rfl rfl ?hi ?ho ?_);(case hi=>exact(IE e).out);(case ho=>rfl);intro w1 aH aq aP
        have aF:=hZ aq;have kD:=hZ (HK.out.trans (ej.gH aq (HK.out.lt P7.out)));have cW:=hZ aH;have c3:=(kD.out.boxed Wi.out WZ.out.2).cell
        clear aH aq aP c2')
     |fail)
    have HC:=hZ (aoX rs A2 n2 c2 iz.out.1 iz.out.2 wr.heap.size e w1 Y (kD.out.lt P7.out) (uE.out.keeps kD.out) cW.out (fun c hc=>(HR.out c hc).keeps kD.out));obtain⟨q,hq⟩:=oQ (rs.all (·.p e));rw[hq] at HC;refine⟨trivial,CallsIn.mono (F:=Fence.wide) (n:=1) (callsIn_wide.2 HC.out) ?_⟩;rintro e2 w2 ⟨rfl,aA⟩;have HQ:Hid (dw rs e=q):=hZ hq;have aG:=aw aF aA;have qM:=hZ (kD.out.trans (ej.gH aA (kD.out.lt P7.out)));have cK:=hZ (cW.out.below aA);have Ht:=hZ (bl (cs:=e.cells) cK.out);have K_:Hid (J pre w2):=hZ (HJ.out _ _ _ Wh.out (aO.gH aG.out))
    have R7:pre.length<n:=by
     have:=List.length_filter_le (dw rs) (l.take k);rw[←uK.out,List.length_take] at this;omega
    (have eP:l.take (k+1)=l.take k++[e]:=by rw[gV,HE.out];rfl);have HT:=hZ eP;clear aA hq eP;cases q
    · clear R7
      gi_wp2_with (first
       |((with_reducible refine ao5 ?hw ?_);(case hw=>rfl))
       |fail)
      refine⟨⟨k+1,pre,hZ ?_,by omega,rfl,qM,K_⟩,?_⟩
      · rw[HT.out,s7,←uK.out];simp[HQ.out]
      · simp[intOf]<;>omega
    · obtain⟨fn,tmps,assign,body,hy,hRd⟩:=ki.out pre e w2 K_.out R7
      dsimp only[tN] at hy
      clear R7
      gi_wp2_with (first
       |((with_reducible refine ao4 ?hw 33 (.tmp 5) rfl wr.heap.size 0 ?hx e.cells _ Ht.out bk rfl (IE e).out ?_);(case hw=>rfl);(case hx=>rfl))
       |fail)
      refine hRd.mono ?_;(have Z4:pre++[e]=(l.take (k+1)).filter (dw rs):=by rw[HT.out,s7,←uK.out];simp[HQ.out]);have Lc:=hZ Z4;clear Z4;rintro e3 W3 (⟨rfl,AX,jV⟩|⟨rfl,AY⟩)
      · have tw:=hZ (qM.out.trans jV)
        have O8:=hZ AX;clear AX jV
        gi_wp2_with fail
        refine⟨⟨k+1,pre++[e],Lc,by omega,rfl,tw,O8⟩,?_⟩;simp[intOf]<;>omega
      · have O8:=hZ AY
        clear AY
        gi_wp2_with fail
        refine bodyPost_ret (results_none rfl _ _ _) rfl ?_;exact⟨⟨_,rfl⟩,.inr ⟨_,⟨k+1,Lc.out⟩,O8.out⟩⟩
  · have d1:decide (k<n)=false:=by simp;omega
    obtain rfl:k=n:=by omega
    gi_wp2_with fail
    go_end0
    refine⟨⟨_,rfl⟩,.inl ⟨_,?_,Wh.out⟩⟩;rw[uK.out,eE (by rw[HN.out];omega)]
def aW:af:=⟨0,0,0,0,false,0,0,0,0,0,0,⟨#[]⟩,⟨#[]⟩,⟨#[]⟩,⟨#[]⟩,⟨#[]⟩,⟨#[]⟩,⟨#[]⟩⟩
theorem vN {W:ae} {b:Nat} {e0 e:af} (h:aR W b e0):aR (W.setRow b e.cells.toArray) b e∧aO (fun k=>k=b) W (W.setRow b e.cells.toArray):=by
 unfold aR at h⊢;obtain⟨cs,hcs⟩:=oQ (e.cells.toArray);rw[hcs];refine⟨?_,⟨rfl,rfl,rfl,by simp[qH],fun k hk hz=>?_⟩⟩
 · simp only[qH,qB,h]
   simp
 · simp only[qH,qB]
   rw[if_neg (fun e=>hz e.symm)]
section
variable {P:eI} {ops:Array aZ} {rest:List aZ} {o:aZ} {a:Act} {w:ae} {Q:Exit→Act→ae→Prop} {F:Fence} {n:Nat}
theorem acO (ct:o.guard=none) (x y:ef) (ho:o.op=.store 33 x y) (hd:o.dst=none) (b:Nat) (e0 e:af)
 (hx:a.eval x=.pointer (some ⟨b,0,none⟩)) (hy:a.eval y=.agg e.cells.toArray) (hi:(P.info? 33).map (·.size)=some e.cells.toArray.size) (h0:aR w b e0)
 (h:∀w',aR w' b e→aO (fun k=>k=b) w w'→wpList P ops Q rest a w'):wpList P ops Q (o::rest) a w:=
 wpList_store_rowTo ct 33 x y ho hd b e.cells.toArray hx hy 33 e0.cells.toArray h0 hi rfl (rC e) (h _ (vN h0).1 (vN h0).2)
theorem NJ (ct:o.guard=none) (x y:ef) (ho:o.op=.store 33 x y) (hd:o.dst=none) (b:Nat) (e0 e:af)
 (hx:a.eval x=.pointer (some ⟨b,0,none⟩)) (hy:a.eval y=.agg e.cells.toArray) (hi:(P.info? 33).map (·.size)=some e.cells.toArray.size) (h0:aR w b e0)
 (h:∀w',aR w' b e→aO (fun k=>k=b) w w'→vV F n P ops Q rest a w'):vV F n P ops Q (o::rest) a w:=by
 have h2:=h _ (vN (e:=e) h0).1 (vN h0).2;refine wpListIn_plain ct fun K hK=>?_;unfold Oper.wpIn;refine⟨?_,?_⟩
 · simp[Oper.about,ho]
 · rw[Oper.semAt_plain F _ _ (by rw[ho];intro c kM;cases kM)]
   have hr:=run_storeVar_row (P:=P) w b 33 33 e0.cells.toArray e.cells.toArray h0 hi rfl (rC e);obtain⟨z,hz⟩:=oQ (e.cells.toArray);rw[hz] at hr h2 hy;have h3:=hK _ _ h2;unfold execOp;simp only[ho,hx,hy,Instr.storeAt,Instr.sureAddr,Sem.run_bind,Sem.run_pure,Result.andThen_ok,hr];show K (a.put o.dst cM) _;rw[hd];exact h3
end
theorem abW {P:eI} {fn:Func} {p q:Tmp} {ty Gf:bF} (h:fn.results=#[.cell p ty,.cell q Gf]) (tmps:Array ai) (w:ae) (b c:Nat) (cs:List ai) (v:ai) (d:TypeDesc)
 (hp:tmps.getD p cM=.pointer (some ⟨b,0,none⟩)) (hq:tmps.getD q cM=.pointer (some ⟨c,0,none⟩)) (hc:w.rangeAt b 0 cs) (hv:w.cell? ⟨c,0,none⟩=some v) (hu:P.underlying ty=some d) (hr:d.isRow=true)
 (hi:(P.info? ty).map (·.size)=some cs.length) (ha:∀w,(isAgg Gf).run P w=.ok false w):
 (results fn tmps).run P w=.ok (.tuple #[.agg cs.toArray,v]) w:=by
 have ij:tmps[p]?.getD cM=.pointer (some ⟨b,0,none⟩):=by simpa using hp
 have vu:tmps[q]?.getD cM=.pointer (some ⟨c,0,none⟩):=by simpa using hq
 have h2:(loadVar Gf ⟨c,0,none⟩).run P w=.ok v w:=by simp[loadVar,ha,hv,go_sem]
 simp[results,h,ij,vu,asAddr,run_loadVar_mid w b 0 ty cs d hc hu hr hi,h2]
def QJ (l:List af):ai:=.tuple #[(l.headD aW).val,.bool (!l.isEmpty)]
theorem ajj (rs:List jB) (l:List af) (n b1 b2:Nat) (Y:Nat→Prop) (w:ae) (hY:∀k,Y k→k<w.heap.size)
 (hI:tG ah 127 #[.pointer (some ⟨b1,0,none⟩),.pointer (some ⟨b2,0,none⟩)] tN (fun _=>False) (ej Y) (fun xs=>xs=l.filter (dw rs)) (fun pre=> ∃k,pre=(l.take k).filter (dw rs)) n w):
 ax ah 71 #[.func (.func 127) #[] #[.pointer (some ⟨b1,0,none⟩),.pointer (some ⟨b2,0,none⟩)]] w fun e w'=>e=.returned (QJ (l.filter (dw rs)))∧Below w.heap.size w w':=by
 have HI:=hZ hI;have HY:=hZ hY;have IE:=fun e:af=>hZ (di (e:=e));clear hI hY;refine(callsIn_wide (n:=3)).1 ?_;refine callsIn_of_wp_marks Tryz.func71 rfl trivial ?_ rfl;simp only[Tryz.ntmps71,tf,eF,pQ,xU,Ch,BY,BZ,Cd,Ca,xS,s6]
 gi_wp2_with fail
 obtain⟨w7,ub⟩:=oQ ((w.alloc (.cells aW.cells.toArray 33)).alloc (.cells #[.bool false] 4));have Df:aR (w.alloc (.cells aW.cells.toArray 33)) w.heap.size aW:=bG w _;have sC:Below w.heap.size w (w.alloc (.cells aW.cells.toArray 33)):=aY _ _;have aC:Below w.heap.size w w7:=by rw[←ub];exact sC.trans ((aY _ _).mono sC.size)
 have sM:w7.heap.size=w.heap.size+2:=by rw[←ub];simp
 have AU:aR w7 w.heap.size aW:=by rw[←ub];exact Df.below (aY _ _)
 have x0:cG w7 (w.heap.size+1) 4 (.bool false):=by
  rw[←ub];have:=Boxed.new (w.alloc (.cells aW.cells.toArray 33)) 4 (.bool false)
  rwa[gI] at this
 have Y_:(w.alloc (.cells #[.int .i64 0,.int .i64 0,.int .i64 0,.int .i64 0,.bool false,.int .i64 0,.int .i64 0,.int .i64 0,.int .i64 0,.int .i64 0,.int .i64 0,.string ⟨#[]⟩,.string ⟨#[]⟩,.string ⟨#[]⟩,.string ⟨#[]⟩,.string ⟨#[]⟩,.string ⟨#[]⟩,.string ⟨#[]⟩] 33)).alloc (.cells #[.bool false] 4)=w7:=ub;clear Df sC ub;rw[Y_];clear Y_;have cy:=hZ aC;have wu:=hZ AU;have qW:=hZ x0;clear aC AU x0
 refine Kl (gf:=127) (lb:=#[.pointer (some ⟨b1,0,none⟩),.pointer (some ⟨b2,0,none⟩)]) rfl (enters_of NV (by kernel_rfl) rfl)
  HI.out cy.out (fun k hk=>hk.elim) (fun _=>rfl) (fun h k=>h.trans k)
  (fun W o k hk=>World.putObj_heap_other (by have:=HY.out k hk;omega))
  (fun pre W=>pre=[]∧aR W w.heap.size aW∧cG W (w.heap.size+1) 4 (.bool false)∧Below w.heap.size w W)
  (fun c pre W=>c=.ret∧∃x,pre=[x]∧aR W w.heap.size x∧cG W (w.heap.size+1) 4 (.bool true)∧Below w.heap.size w W)
  ?hI ?hIx ⟨rfl,wu.out,qW.out,cy.out⟩
  (fun b x=>{tmps:=#[.func (.func 127) #[] #[.pointer (some ⟨b1,0,none⟩),.pointer (some ⟨b2,0,none⟩)],cM,.pointer (some ⟨w.heap.size,0,none⟩),.pointer (some ⟨w.heap.size+1,0,none⟩),.pointer (some ⟨b,0,none⟩),cM,.func (.func 127) #[] #[.pointer (some ⟨b1,0,none⟩),.pointer (some ⟨b2,0,none⟩)],af.val x,cM,cM],defers:=[]})
  (fun b x W=>aR W b x) ?uV ?sF ?assign ?body ?done ?stop
 case hI=>
  rintro s A B ⟨h1,h2,h3,h4⟩ t;exact⟨h1,(t.block _ (bt h2) (ud (by omega))).trans h2,t.boxed h3 (ud (by omega)),t.below h4 (aB _) (AR (by omega))⟩
 case hIx=>
  rintro c s A B ⟨h1,x,h2,h3,h4,h5⟩ t;exact⟨h1,x,h2,(t.block _ (bt h3) (ud (by omega))).trans h3,t.boxed h4 (ud (by omega)),t.below h5 (aB _) (AR (by omega))⟩
 case uV=>
  intro b x A B hb ar h t;refine(t.block _ ar ?_).trans h;rintro(e|e|e)
  · exact e
  · omega
  · omega
 case sF=>
  intro A B hs hb;exact ej.gH hb (fun k hk=>by have:=HY.out k hk;omega)
 case assign=>
  intro l0 x W b K hb hle hK;subst hb
  dsimp only[tN]
  gi_wp2_with (first
   |((with_reducible refine Gl rfl (.tmp 4) (.tmp 7) rfl rfl x rfl rfl ?hi ?ho ?_);(case hi=>exact(IE x).out);(case ho=>rfl);intro w1 aH aq aP)
   |fail)
  exact hK _ aH aq aP
 case body=>
  rintro l0 pre x b W hle ar ⟨rfl,hE,hX,hB⟩ hx hl;have HE:=hZ hE;have HX:=hZ hX;have HB:=hZ hB;have cX:=hZ (bl (cs:=x.cells) hx);have hc:=hX.cell;have hf:=hX.frozen;clear hE hX hB hx
  gi_wp2_with (first
   |((with_reducible refine Gk rfl 33 (.tmp 4) rfl b 0 ?hx x.cells _ cX.out bk rfl (IE x).out ?_);(case hx=>rfl))
   | ((with_reducible refine NJ rfl (.tmp 2) (.tmp 8) rfl rfl w.heap.size aW x rfl rfl ?hi HE.out ?_);(case hi=>exact(IE x).out);intro w2 fx mH
      have cK:=hZ fx;have dD:=hZ mH;have jT:cG w2 (w.heap.size+1) 4 (.bool false):=mH.boxed HX.out (by omega);have lO:=hZ (jT.set (.bool true));have eo:=jT.cell;have eZ:=jT.frozen
      clear fx mH jT hc hf)
   |fail)
  have oI:aO (fun k=>k=w.heap.size+1) w2 (w2.setCell ⟨w.heap.size+1,0,none⟩ (.bool true)):=aO.setCell w2 _ _ rfl;refine⟨(KeepsFrom.rB dD.out (by omega)).trans (KeepsFrom.rB oI (by omega)),rfl,x,rfl,(oI.block _ (bt cK.out) (by omega)).trans cK.out,lO.out,?_⟩;exact oI.below (dD.out.below HB.out (aB _) (fun k hk=>by omega)) (aB _) (fun k hk=>by omega)
 case done=>
  rintro xs W hS ⟨rfl,hE,hX,hB⟩ hK;have hz:l.filter (dw rs)=[]:=hS.symm;have HZ:=hZ hz;have HE:=hZ hE;have HX:=hZ hX;have HB:=hZ hB;have fR:=hZ hK;clear hE hX hB hK hS hz;have hc:=HX.out.cell;have hf:=HX.out.frozen;have YC:aR (W.alloc (.cells aW.cells.toArray 33)) W.heap.size aW:=bG W _;have gw:=aY W (.cells aW.cells.toArray 33);have hRG:Hid (World.rangeAt (W.alloc (.cells #[.int .i64 0,.int .i64 0,.int .i64 0,.int .i64 0,.bool false,.int .i64 0,.int .i64 0,.int .i64 0,.int .i64 0,.int .i64 0,.int .i64 0,.string ⟨#[]⟩,.string ⟨#[]⟩,.string ⟨#[]⟩,.string ⟨#[]⟩,.string ⟨#[]⟩,.string ⟨#[]⟩,.string ⟨#[]⟩] 33)) W.heap.size 0 aW.cells):=hZ (bl YC);have hEo:Hid (aR (W.alloc (.cells #[.int .i64 0,.int .i64 0,.int .i64 0,.int .i64 0,.bool false,.int .i64 0,.int .i64 0,.int .i64 0,.int .i64 0,.int .i64 0,.int .i64 0,.string ⟨#[]⟩,.string ⟨#[]⟩,.string ⟨#[]⟩,.string ⟨#[]⟩,.string ⟨#[]⟩,.string ⟨#[]⟩,.string ⟨#[]⟩] 33)) w.heap.size aW):=hZ (HE.out.below gw);have g_:=hZ gw;have jU:Hid ((W.alloc (.cells aW.cells.toArray 33)).heap[w7.heap.size]?=some (.deferred (some []))):=hZ ((gw.block _ (fU.1 fR.out).1).trans fR.out);have hXn:Hid (cG (W.alloc (.cells aW.cells.toArray 33)) (w.heap.size+1) 4 (.bool false)):=hZ ((gw.block _ HX.out.lt).trans HX.out);have tC:=hZ sM;clear YC gw hc hf sM
  gi_wp2_with (first
   |((with_reducible refine Gk rfl 33 (.tmp 5) rfl W.heap.size 0 ?hx aW.cells _ hRG.out bk rfl (IE aW).out ?_);(case hx=>rfl))
   | ((with_reducible refine NJ rfl (.tmp 2) (.tmp 9) rfl rfl w.heap.size aW aW rfl rfl ?hi hEo.out ?_);(case hi=>exact(IE aW).out);intro w2 fx mH
      have cK:=hZ fx;have dD:=hZ mH;have jT:cG w2 (w.heap.size+1) 4 (.bool false):=mH.boxed hXn.out (by omega);have lO:=hZ (jT.set (.bool false));have eo:=jT.cell;have eZ:=jT.frozen
      clear fx mH jT)
   |fail)
  have sM:=tC.out;have oI:aO (fun k=>k=w.heap.size+1) w2 (w2.setCell ⟨w.heap.size+1,0,none⟩ (.bool false)):=aO.setCell w2 _ _ rfl;have gQ:=(dD.out.block _ (fU.1 jU.out).1 (by omega)).trans jU.out;have kO:=(oI.block _ (fU.1 gQ).1 (by omega)).trans gQ;refine⟨by simp,.inl ⟨_,_,rfl,Ab kO,?_⟩⟩;have hT:aO (fun k=>k=w7.heap.size) (w2.setCell ⟨w.heap.size+1,0,none⟩ (.bool false)) ((w2.setCell ⟨w.heap.size+1,0,none⟩ (.bool false)).putObj w7.heap.size (.deferred none)):=aO.putObj _ _ _ rfl;have Fi:=(oI.block _ (bt cK.out) (by omega)).trans cK.out;have yI:aR _ w.heap.size aW:=(hT.block _ (bt Fi) (by omega)).trans Fi;have hX4:=hT.boxed lO.out (by omega);refine⟨_,abW rfl _ _ w.heap.size (w.heap.size+1) aW.cells (.bool false) _ rfl rfl (bl yI) hX4.cell bk rfl (IE aW).out ur,?_,?_⟩
  · rw[HZ.out];rfl
  · have re:=dD.out.below (HB.out.trans (g_.out.mono HB.out.size)) (aB _) (fun k hk=>by omega)
    exact hT.below (oI.below re (aB _) (fun k hk=>by omega)) (aB _) (fun k hk=>by omega)
 case stop=>
  rintro c pre W ⟨k,hk⟩ ⟨rfl,x,rfl,hE,hX,hB⟩ hK
  have hh:QJ (l.filter (dw rs))=.tuple #[x.val,.bool true]:=by
   have h1:l=l.take k++l.drop k:=(List.take_append_drop k l).symm
   have h2:l.filter (dw rs)=x::(l.drop k).filter (dw rs):=by
    conv=>lhs;rw[h1]
    rw[s7,←hk];rfl
   rw[h2];rfl
  have HH:=hZ hh;have HE:=hZ hE;have HX:=hZ hX;have HB:=hZ hB;have fR:=hZ hK;clear hE hX hB hK hk hh
  gi_wp2_with fail
  refine⟨by simp,.inl ⟨_,_,rfl,Ab fR.out,?_⟩⟩;have hT:aO (fun k=>k=w7.heap.size) W (W.putObj w7.heap.size (.deferred none)):=aO.putObj _ _ _ rfl;have Fh:aR (W.putObj w7.heap.size (.deferred none)) w.heap.size x:=(hT.block _ (bt HE.out) (by omega)).trans HE.out;have jT:=hT.boxed HX.out (by omega);refine⟨_,abW rfl _ _ w.heap.size (w.heap.size+1) x.cells (.bool true) _ rfl rfl (bl Fh) jT.cell bk rfl (IE x).out ur,?_,?_⟩
  · rw[HH.out]
  · exact hT.below HB.out (aB _) (fun k hk=>by omega)
structure At (w V:ae) (L:List (Nat×lG)):Prop where
 below:Below w.heap.size w V
 has:∀p∈L,V.heap[p.1]?=some p.2
theorem At.start (w:ae):At w w []:=⟨bK _ _,fun p h=>by cases h⟩
theorem At.cons {w V:ae} {L:List (Nat×lG)} (h:At w V L) {k:Nat} {o:lG} (ho:V.heap[k]?=some o):At w V ((k,o)::L):=⟨h.below,fun p hp=>by
 rcases dG.1 hp with rfl|hp
 · exact ho
 · exact h.has p hp⟩
theorem At.step {w V V':ae} {L:List (Nat×lG)} (h:At w V L) (hb:Below V.heap.size V V'):At w V' L:=
 ⟨h.below.trans (hb.mono h.below.size),fun p hp=>(hb.block _ (fU.1 (h.has p hp)).1).trans (h.has p hp)⟩
theorem At.drew {w V:ae} {L:List (Nat×lG)} (h:At w V L):At w V.drew L:=⟨Below.drew h.below,h.has⟩
theorem At.alloc {w V:ae} {L:List (Nat×lG)} (h:At w V L) (o:lG):∃b V',V.heap.size=b∧V.alloc o=V'∧w.heap.size≤b∧At w V' ((b,o)::L):=
 ⟨_,_,rfl,rfl,h.below.size,(h.step (aY V o)).cons (bG V o)⟩
theorem At.eX {w V:ae} {L:List (Nat×lG)} (h:At w V L) (o:lG):∃b V',V.heap.size=b∧V.alloc o=V'∧w.heap.size≤b∧At w V' ((b,o)::L)∧V'.heap.size=b+1:=
 ⟨_,_,rfl,rfl,h.below.size,(h.step (aY V o)).cons (bG V o),gI _ _⟩
theorem At.cell {w V:ae} {L:List (Nat×lG)} (h:At w V L) {b:Nat} {cs:Array ai} {t:bF} (hm:(b,.cells cs t (0,0))∈L) {i:Nat} {v:ai} (hv:cs[i]?=some v):V.cell? ⟨b,i,none⟩=some v:=aJ (h.has _ hm) hv
theorem At.lt {w V:ae} {L:List (Nat×lG)} (h:At w V L) {b:Nat} {o:lG} (hm:(b,o)∈L):b<V.heap.size:=(fU.1 (h.has _ hm)).1
theorem At.boxed {w V:ae} {L:List (Nat×lG)} (h:At w V L) {b:Nat} {v:ai} {t:bF} (hm:(b,.cells #[v] t (0,0))∈L):cG V b t v:=h.has _ hm
theorem At.less {w V:ae} {L M:List (Nat×lG)} (h:At w V L) (hm:∀p∈M,p∈L):At w V M:=⟨h.below,fun p hp=>h.has p (hm p hp)⟩
structure bP where
 ls:Nat→List af
 ad:Nat→Option bI
 cp:Nat→Nat
def bP.cells (B:bP):List ai:=[.slice (B.ad 0) (B.ls 0).length (B.cp 0),.slice (B.ad 1) (B.ls 1).length (B.cp 1),.slice (B.ad 2) (B.ls 2).length (B.cp 2),.slice (B.ad 3) (B.ls 3).length (B.cp 3),.slice (B.ad 4) (B.ls 4).length (B.cp 4),
 .slice (B.ad 5) (B.ls 5).length (B.cp 5),.slice (B.ad 6) (B.ls 6).length (B.cp 6),.slice (B.ad 7) (B.ls 7).length (B.cp 7),.slice (B.ad 8) (B.ls 8).length (B.cp 8)]
abbrev bP.val (B:bP):ai:=.agg B.cells.toArray
structure dH (w:ae) (Y:Nat→Prop) (B:bP):Prop where
 at_:∀i,i<9→eW w Y (B.ad i) (B.ls i)
 cap:∀i,i<9→(B.ls i).length≤B.cp i∧B.cp i≤cH
 none_:∀i,i<9→B.ad i=none→B.cp i=0
theorem dH.keeps {w W:ae} {Y:Nat→Prop} {B:bP} (h:dH w Y B) (k:ej Y w W):dH W Y B:=⟨fun i hi=>(h.at_ i hi).keeps k,h.cap,h.none_⟩
theorem dH.mono {w:ae} {Y Y':Nat→Prop} {B:bP} (h:dH w Y B) (hY:∀k,Y k→Y' k):dH w Y' B:=⟨fun i hi=>(h.at_ i hi).mono hY,h.cap,h.none_⟩
def bV (w:ae) (k:Nat):Prop:=k<w.heap.size
theorem dH.below {w W:ae} {B:bP} (h:dH w (bV w) B) (hb:Below w.heap.size w W):dH W (bV W) B:=
 (h.keeps (ej.gH hb fun _ hk=>hk)).mono fun k hk=>by unfold bV at*;have:=hb.size;omega
theorem eW.below {w W:ae} {A:Option bI} {l:List af} (h:eW w (bV w) A l) (hb:Below w.heap.size w W):eW W (bV W) A l:=
 (h.keeps (ej.gH hb fun _ hk=>hk)).mono fun k hk=>by unfold bV at*;have:=hb.size;omega
section
variable {w V:ae} {L:List (Nat×lG)}
theorem uS (n:Int) (h:At w V L):ax ah 73 #[.int .i64 n] V fun e V'=> ∃b,e=.returned (.func (.func 129) #[] #[.pointer (some ⟨b,0,none⟩)])∧At w V' ((b,.cells #[.int .i64 n] 3 (0,0))::L):=
 (ahQ n V).mono fun e V' q=>by obtain⟨rfl,rfl⟩:=q;exact⟨_,rfl,(h.step (aY V _)).cons (bG V _)⟩
theorem FD (n:Int) (h:At w V L):ax ah 75 #[.int .i64 n] V fun e V'=> ∃b,e=.returned (.func (.func 130) #[] #[.pointer (some ⟨b,0,none⟩)])∧At w V' ((b,.cells #[.int .i64 n] 3 (0,0))::L):=
 (aj6 n V).mono fun e V' q=>by obtain⟨rfl,rfl⟩:=q;exact⟨_,rfl,(h.step (aY V _)).cons (bG V _)⟩
theorem jX (A:Option bI) (n c:Nat) (A2:Option bI) (n2 c2:Nat) (h:At w V L):ax ah 72 #[.slice A n c,.slice A2 n2 c2] V fun e V'=> ∃b1 b2,e=.returned (.func (.func 127) #[] #[.pointer (some ⟨b1,0,none⟩),.pointer (some ⟨b2,0,none⟩)])∧
 At w V' ((b1,.cells #[.slice A n c] 25 (0,0))::(b2,.cells #[.slice A2 n2 c2] 110 (0,0))::L):=
 (aoZ A n c A2 n2 c2 V).mono fun e V' q=>by
   obtain⟨rfl,rfl⟩:=q;refine⟨_,_,rfl,?_⟩;have h1:=(h.step (aY V (.cells #[.slice A n c] 25))).cons (bG V _);have h2:=(h1.step (aY _ (.cells #[.slice A2 n2 c2] 110))).cons (bG _ _);rw[gI] at h2;exact h2.less fun p hp=>by simp at hp⊢;rcases hp with hp|hp|hp<;>simp[hp]
theorem aaJ (h:At w V L) (rs:List jB) (l:List af) (A A2:Option bI) (n c n2 c2 b1 b2:Nat) (hn:l.length=n) (hc:n≤cH) (cN:rs.length=n2) (fT:n2≤1000)
 (h1:(b1,.cells #[.slice A n c] 25 (0,0))∈L) (h2:(b2,.cells #[.slice A2 n2 c2] 110 (0,0))∈L)
 (hA:eW w (bV w) A l) (b3:Nat) (e3:A2=some ⟨b3,0,none⟩) (t3:bF) (h3:(b3,.cells (rs.map jB.val).toArray t3 (0,0))∈L) (hR:∀c∈rs,nO V (bV V) c):
 tG ah 127 #[.pointer (some ⟨b1,0,none⟩),.pointer (some ⟨b2,0,none⟩)] tN (fun _=>False) (ej (bV V)) (fun xs=>xs=l.filter (dw rs)) (fun pre=> ∃k,pre=(l.take k).filter (dw rs)) n V:=by
 subst e3;refine NH rs l A _ n c n2 c2 b1 b2 hn hc cN fT (bV V) V (fun _ hk=>hk) (h.lt h1) (h.lt h2) (h.boxed h1) (h.boxed h2) (hA.below h.below) ?_ hR;intro i v hv;have fh:=h.cell h3 (i:=i) (v:=v) (by simpa using hv);refine⟨_,rfl,h.lt h3,?_⟩;rw[show(⟨b3,0,none⟩:bI).add i=⟨b3,i,none⟩ by simp[Addr.add];omega];exact fh
theorem aji (h:At w V L) (rs:List jB) (l:List af) (A A2:Option bI) (n c n2 c2 b1 b2:Nat) (hn:l.length=n) (hc:n≤cH) (cN:rs.length=n2) (fT:n2≤1000)
 (h1:(b1,.cells #[.slice A n c] 25 (0,0))∈L) (h2:(b2,.cells #[.slice A2 n2 c2] 110 (0,0))∈L)
 (hA:eW w (bV w) A l) (b3:Nat) (e3:A2=some ⟨b3,0,none⟩) (t3:bF) (h3:(b3,.cells (rs.map jB.val).toArray t3 (0,0))∈L) (hR:∀c∈rs,nO V (bV V) c):
 ax ah 71 #[.func (.func 127) #[] #[.pointer (some ⟨b1,0,none⟩),.pointer (some ⟨b2,0,none⟩)]] V fun e V'=>e=.returned (QJ (l.filter (dw rs)))∧At w V' L:=
 (ajj rs l n b1 b2 (bV V) V (fun _ hk=>hk) (aaJ h rs l A A2 n c n2 c2 b1 b2 hn hc cN fT h1 h2 hA b3 e3 t3 h3 hR)).mono fun _ _ q=>⟨q.1,h.step q.2⟩
theorem At.about {n:Int} {b:Nat} (h:At w V L) (hm:(b,.cells #[.int .i64 n] 3 (0,0))∈L):nO V (bV V) ⟨129,#[.pointer (some ⟨b,0,none⟩)],fun e=>decide (e.item=n)⟩:=Qv n b V (bV V) (h.lt hm) (h.boxed hm)
theorem At.holds {n:Int} {b:Nat} (h:At w V L) (hm:(b,.cells #[.int .i64 n] 3 (0,0))∈L):nO V (bV V) ⟨130,#[.pointer (some ⟨b,0,none⟩)],fun e=>decide (e.az≤n)&&decide (n≤e.bj)⟩:=XK n b V (bV V) (h.lt hm) (h.boxed hm)
theorem At.store {b:Nat} {e:af} (h:At w V L) (hb:w.heap.size≤b) (hm:(b,.cells aW.cells.toArray 33 (0,0))∈L):Below w.heap.size w (V.setRow b e.cells.toArray)∧aR (V.setRow b e.cells.toArray) b e:=by
 have h0:aR V b aW:=h.has _ hm;exact⟨(vN (e:=e) h0).2.below h.below (aB _) (fun k hk=>by omega),(vN h0).1⟩
theorem At.anP {b b0:Nat} {e:af} {cs:Array ai} {t:bF} (h:At w V L) (hm:(b,.cells aW.cells.toArray 33 (0,0))∈L) (Bn:(b0,.cells cs t (0,0))∈L) (ht:t≠33):
 (V.setRow b e.cells.toArray).heap[b0]?=some (.cells cs t (0,0)):=by
 have h0:aR V b aW:=h.has _ hm
 have bf:b0≠b:=fun q=>by
  have h1:=h.has _ Bn;have h2:=h.has _ hm;subst q;rw[h1] at h2;injection h2 with h2;injection h2 with h3 h4 h5;exact ht h4
 exact((vN (e:=e) h0).2.block b0 (h.lt Bn) bf).trans (h.has _ Bn)
end
theorem anp (e:af) (n m:Int) (b c:Nat) (w:ae) (hb:cG w b 3 (.int .i64 n)) (hc:cG w c 3 (.int .i64 m)):ax ah 85 #[e.val,.pointer (some ⟨b,0,none⟩),.pointer (some ⟨c,0,none⟩)] w (cC w (decide (e.dj=n)&&decide (e.iJ=m))):=by
 have HB:=hZ hb;have HC:=hZ hc;clear hb hc;obtain⟨q,hq⟩:=oQ ((e.dj==n));obtain⟨r,hr⟩:=oQ ((e.iJ==m));have vu:decide (e.dj=n)=q:=hq;have y_:decide (e.iJ=m)=r:=hr;rw[vu,y_];clear vu y_
 cases q<;>cases r<;>
 · go_enter ad8,Tryz.ntmps85
   go_wp2_with (first
    | ((with_reducible refine ff rfl (.tmp 0) rfl e ?hx ?_);(case hx=>rfl);intro w1 aH aq aP
       have x1:=aH.cell (i:=9) rfl;have x3:=aH.cell (i:=10) rfl;have px:cG w1 b 3 (.int .i64 n):=(aq.block b HB.out.lt).trans HB.out;have Ze:cG w1 c 3 (.int .i64 m):=(aq.block c HC.out.lt).trans HC.out;have x2:=px.cell;have x4:=Ze.cell;have aF:=hZ aq
       clear aH aq aP px Ze)
    |fail)
   go_ret;exact⟨rfl,aF.out⟩
theorem At.Ke {w V:ae} {L:List (Nat×lG)} {n m:Int} {b c:Nat} (h:At w V L) (hm:(b,.cells #[.int .i64 n] 3 (0,0))∈L) (hk:(c,.cells #[.int .i64 m] 3 (0,0))∈L):
 nO V (bV V) ⟨85,#[.pointer (some ⟨b,0,none⟩),.pointer (some ⟨c,0,none⟩)],fun e=>decide (e.dj=n)&&decide (e.iJ=m)⟩:=
 ⟨enters_of ad8 (by kernel_rfl) rfl,fun e W k=>anp e n m b c W (k.boxed (h.boxed hm) (h.lt hm)) (k.boxed (h.boxed hk) (h.lt hk))⟩
theorem jH {α:Type} (p:α→Bool) (l:List α):(!(l.filter p).isEmpty)=l.any p:=by
 induction l with
 |nil=>rfl
 |cons x l ih=>by_cases h:p x=true<;>simp[h,ih] at* <;>simp_all
theorem DV {W:ae} {r:Nat} {T:bF} {a0 a1:ai} (h:W.heap[r]?=some (.cells #[a0,a1] T (0,0))) (v0 v1:ai):((W.setCell ⟨r,0,none⟩ v0).setCell ⟨r,1,none⟩ v1).heap[r]?=some (.cells #[v0,v1] T (0,0)):=by
 simp only[World.setCell,qB,h];simp
theorem CW {w W:ae} {B r:Nat} (hb:Below B w W) (h:B≤r) (v0 v1:ai):Below B w ((W.setCell ⟨r,0,none⟩ v0).setCell ⟨r,1,none⟩ v1):=(hb.setCell (p:=⟨r,0,none⟩) h v0).setCell (p:=⟨r,1,none⟩) h v1
theorem anM {P:eI} {ops:Array aZ} {o:aZ} {a:Act} {w V:ae} {L:List (Nat×lG)} {K:Act→ae→Prop} {Q:Exit→Act→ae→Prop} {D:Prop} (ct:o.guard=none) (x y:ef) (ho:o.op=.store 33 x y) (hd:o.dst=none) (b:Nat) (e:af)
 (hx:a.eval x=.pointer (some ⟨b,0,none⟩)) (hy:a.eval y=.agg e.cells.toArray) (hi:(P.info? 33).map (·.size)=some e.cells.toArray.size) (h:At w V L) (hb:w.heap.size≤b) (hm:(b,.cells aW.cells.toArray 33 (0,0))∈L)
 (hk:∀V',Below w.heap.size w V'→aR V' b e→(∀b0 cs t,(b0,.cells cs t (0,0))∈L→t≠33→V'.heap[b0]?=some (.cells cs t (0,0)))→K a V'):
 if eD o (gJ ops a.tmps)=true then Oper.wp P o a V K Q else D:=by
 have hw:eD o (gJ ops a.tmps)=true:=by simp[eD,ct]
 rw[if_pos hw];have h0:aR V b aW:=h.has _ hm;refine wp_store_row _ x y ho b _ hx hy 33 _ h0 hi rfl (rC e) ?_;rw[hd];exact hk _ (h.store hb hm).1 (h.store hb hm).2 (fun b0 cs t Bn ht=>h.anP hm Bn ht)
theorem cB {w V:ae} {L:List (Nat×lG)} {b i:Nat} {v:ai} (B:bP) (h:Hid (At w V L)) (hv:B.cells.toArray[i]?=some v:=by rfl) (hm:(b,.cells B.cells.toArray 36 (0,0))∈L:=by simp):V.cell? ⟨b,i,none⟩=some v:=h.out.cell hm hv
theorem cE {w V:ae} {L:List (Nat×lG)} {b i:Nat} {v:ai} (B:af) (h:Hid (At w V L)) (hv:B.cells.toArray[i]?=some v:=by rfl) (hm:(b,.cells B.cells.toArray 33 (0,0))∈L:=by simp):V.cell? ⟨b,i,none⟩=some v:=h.out.cell hm hv
theorem lT {w V:ae} {L:List (Nat×lG)} (h:Hid (At w V L)):∃b W,V.heap.size=b∧V.alloc (.cells #[.int .i64 0,.int .i64 0,.int .i64 0,.int .i64 0,.bool false,.int .i64 0,.int .i64 0,.int .i64 0,.int .i64 0,.int .i64 0,.int .i64 0,.string ⟨#[]⟩,.string ⟨#[]⟩,.string ⟨#[]⟩,.string ⟨#[]⟩,.string ⟨#[]⟩,.string ⟨#[]⟩,.string ⟨#[]⟩] 33)=W∧Hid (w.heap.size≤b)∧Hid (At w W ((b,.cells aW.cells.toArray 33 (0,0))::L)):=h.out.alloc (.cells aW.cells.toArray 33)
theorem jJ {w V:ae} {L:List (Nat×lG)} {b1 b2:Nat} (B:bP) (j n b3:Nat) (rs:List jB) (h:Hid (At w V L)) (hB:Hid (dH w (bV w) B)) (hR:∀c∈rs,nO V (bV V) c) (hj:j<9:=by decide) (hn:rs.length=n∧n≤1000:=by decide)
 (h1:(b1,.cells #[.slice (B.ad j) (B.ls j).length (B.cp j)] 25 (0,0))∈L:=by simp) (h2:(b2,.cells #[.slice (some ⟨b3,0,none⟩) n n] 110 (0,0))∈L:=by simp) (h3:(b3,.cells (rs.map jB.val).toArray 45 (0,0))∈L:=by simp[jB.val]):
 ax ah 71 #[.func (.func 127) #[] #[.pointer (some ⟨b1,0,none⟩),.pointer (some ⟨b2,0,none⟩)]] V fun e V'=> ∃ev qv,Hid ((agE (dw rs) (B.ls j)).headD aW=ev)∧Hid ((!(agE (dw rs) (B.ls j)).isEmpty)=qv)∧e=.returned (.tuple #[ev.val,.bool qv])∧Hid (At w V' L):=
 (aji h.out rs (B.ls j) (B.ad j) (some ⟨b3,0,none⟩) _ (B.cp j) n n b1 b2 rfl (aV (hB.out.cap j hj).1 (hB.out.cap j hj).2) hn.1 hn.2 h1 h2 (hB.out.at_ j hj) b3 rfl _ h3 hR).mono fun _ _ q=>⟨_,_,hZ rfl,hZ rfl,q.1,hZ q.2⟩
theorem me {P:eI} {ops:Array aZ} {o:aZ} {a:Act} {w V:ae} {L:List (Nat×lG)} {K:Act→ae→Prop} {Q:Exit→Act→ae→Prop} {D:Prop} (x y:ef) (b:Nat) (e:af) (hi:Hid ((P.info? 33).map (·.size)=some e.cells.toArray.size)) (h:Hid (At w V L)) (hb:Hid (w.heap.size≤b))
 (hk:∀V',Hid (Below w.heap.size w V'∧aR V' b e)→Hid (∀b0 cs t,(b0,.cells cs t (0,0))∈L→t≠33→V'.heap[b0]?=some (.cells cs t (0,0)))→K a V') (ct:o.guard=none:=by rfl) (ho:o.op=.store 33 x y:=by rfl) (hd:o.dst=none:=by rfl)
 (hx:a.eval x=.pointer (some ⟨b,0,none⟩):=by rfl) (hy:a.eval y=.agg e.cells.toArray:=by rfl) (hm:(b,.cells aW.cells.toArray 33 (0,0))∈L:=by simp[aW,af.cells]):
 if eD o (gJ ops a.tmps)=true then Oper.wp P o a V K Q else D:=
 anM ct x y ho hd b e hx hy hi.out h.out hb.out hm fun V' h1 h2 h3=>hk V' (hZ ⟨h1,h2⟩) (hZ h3)
section
variable {E K:Type} [DecidableEq K] (ok:E→Bool) (key:E→K) (prev:E→E→Bool)
def Nu (m:K→Option E) (e:E):K→Option E:=if ok e then
 match m (key e) with
 |none=>fun k=>if k=key e then some e else m k
 |some old=>if prev e old then fun k=>if k=key e then some e else m k else m
 else m
structure Xh:Prop where
 irr:∀a,prev a a=false
 Gc:∀a b,ok a=true→ok b=true→key a=key b→a≠b→prev a b= !prev b a
 Gd:∀a b c,ok a=true→ok b=true→ok c=true→key a=key b→key b=key c→prev a b=true→prev b c=true→prev a c=true
def LB (l:List E) (k:K) (e:E):Prop:=e∈l∧ok e=true∧key e=k∧∀x∈l,ok x=true→key x=k→x=e∨prev e x=true
variable {ok key prev}
omit [DecidableEq K] in
theorem LB.one (R:Xh ok key prev) {l:List E} {k:K} {a b:E} (ha:LB ok key prev l k a) (hb:LB ok key prev l k b):a=b:=by
 obtain⟨a1,a2,a3,a4⟩:=ha;obtain⟨b1,b2,b3,b4⟩:=hb;rcases a4 b b1 b2 b3 with e|e
 · exact e.symm
 · rcases b4 a a1 a2 a3 with q|q
   · exact q
   · apply Classical.byContradiction
     intro bf;have:=R.Gc a b a2 b2 (a3.trans b3.symm) bf;rw[e,q] at this;cases this
def Ig (ok:E→Bool) (key:E→K) (prev:E→E→Bool) (l:List E) (m:K→Option E):Prop:=
 ∀k,(∀e,m k=some e→LB ok key prev l k e)∧(m k=none→∀x∈l,ok x=true→key x≠k)
omit [DecidableEq K] in
theorem Ig.nil:Ig ok key prev [] fun _=>none:=fun _=>⟨fun e h=>(by cases h),fun _ x hx=>(by cases hx)⟩
theorem Ig.step (R:Xh ok key prev) {l:List E} {m:K→Option E} (h:Ig ok key prev l m) (e:E):Ig ok key prev (l++[e]) (Nu ok key prev m e):=by
 have mem:∀x,x∈l++[e]↔x∈l∨x=e:=fun x=>by simp
 intro k;unfold Nu
 by_cases he:ok e=true
 · rw [if_pos he]
   by_cases hk:k=key e
   · subst hk
     cases hm:m (key e) with
     | none=>
       have h2:=(h (key e)).2 hm;refine⟨fun x hx=>?_,fun hn=>?_⟩
       · simp only[if_true] at hx
         cases hx;refine⟨(mem _).2 (.inr rfl),he,rfl,fun y hy qw oV=>?_⟩;rcases(mem y).1 hy with q|q
         · exact(h2 y q qw oV).elim
         · exact .inl q
       · simp at hn
     | some old=>
       obtain⟨o1,o2,o3,o4⟩:=(h (key e)).1 old hm
       by_cases hp:prev e old=true
       · simp only[hp,if_true]
         refine⟨fun x hx=>?_,fun hn=>by cases hn⟩;cases hx;refine⟨(mem _).2 (.inr rfl),he,rfl,fun y hy qw oV=>?_⟩;rcases(mem y).1 hy with q|q
         · rcases o4 y q qw oV with r|r
           · rw[r];exact .inr hp
           · exact .inr (R.Gd e old y he o2 qw o3.symm (o3.trans oV.symm) hp r)
         · exact .inl q
       · simp only[hp,Bool.false_eq_true,if_false]
         refine⟨fun x hx=>?_,fun hn=>by rw[hm] at hn;cases hn⟩;rw[hm] at hx;cases hx;refine⟨(mem _).2 (.inl o1),o2,o3,fun y hy qw oV=>?_⟩;rcases(mem y).1 hy with q|q
         · exact o4 y q qw oV
         · subst q
           by_cases bf:y=old
           · exact .inl bf
           · right
             have:=R.Gc old y o2 he o3 (fun q=>bf q.symm);rw[this]
             cases Jw:prev y old with
             |true=>exact(hp Jw).elim
             |false=>rfl
   · have akb:(match m (key e) with
      |none=>fun k=>if k=key e then some e else m k
      |some old=>if prev e old then fun k=>if k=key e then some e else m k else m) k=m k:=by
      cases m (key e) with
      |none=>simp[hk]
      | some old=>
        by_cases hp:prev e old=true
        · simp[hp,hk]
        · simp[hp]
     rw[akb];obtain⟨h1,h2⟩:=h k;refine⟨fun x hx=>?_,fun hn x hx jO=>?_⟩
     · obtain⟨o1,o2,o3,o4⟩:=h1 x hx
       refine⟨(mem _).2 (.inl o1),o2,o3,fun y hy qw oV=>?_⟩;rcases(mem y).1 hy with q|q
       · exact o4 y q qw oV
       · subst q;exact(hk oV.symm).elim
     · rcases(mem x).1 hx with q|q
       · exact h2 hn x q jO
       · subst q;exact fun e=>hk e.symm
 · rw[if_neg he]
   obtain⟨h1,h2⟩:=h k;refine⟨fun x hx=>?_,fun hn x hx jO=>?_⟩
   · obtain⟨o1,o2,o3,o4⟩:=h1 x hx
     refine⟨(mem _).2 (.inl o1),o2,o3,fun y hy qw oV=>?_⟩;rcases(mem y).1 hy with q|q
     · exact o4 y q qw oV
     · subst q;exact(he qw).elim
   · rcases(mem x).1 hx with q|q
     · exact h2 hn x q jO
     · subst q;exact(he jO).elim
end
section
variable {α:Type} (lt:α→α→Bool)
def oe (x:α):List α→List α
 |[]=>[x]
 |y::l=>if lt x y=true then x::y::l else y::oe x l
def dc (l:List α):List α:=l.foldl (fun a x=>oe lt x a) []
variable {lt}
theorem SB (x:α) (l:List α):(oe lt x l).Perm (x::l):=by
 induction l with
 |nil=>exact List.Perm.refl _
 | cons y l ih=>
   unfold oe
   split
   · exact List.Perm.refl _
   · exact(ih.cons y).trans (List.Perm.swap x y l)
theorem xt (l:List α):(dc lt l).Perm l:=by
 have h:∀(b a:List α),(b.foldl (fun a x=>oe lt x a) a).Perm (a++b):=by
  intro b
  induction b with
  |nil=>intro a;simp
  | cons x b ih=>
    intro a;refine(ih _).trans ?_;refine((SB x a).append_right b).trans ?_;simpa using List.perm_middle.symm
 simpa[dc] using h l []
theorem Tx {l:List α} {x:α}:x∈dc lt l↔x∈l:=(xt l).mem_iff
structure p7 (lt:α→α→Bool):Prop where
 asym:∀a b,lt a b=true→lt b a=false
 neg:∀a b c,lt a b=false→lt b c=false→lt a c=false
def Up (lt:α→α→Bool) (l:List α):Prop:=l.Pairwise fun a b=>lt b a=false
def wH (lt:α→α→Bool) (l:List α):Prop:=l.Pairwise fun a b=>lt a b=true
theorem akm (O:p7 lt) {x:α} {l:List α} (h:Up lt l):Up lt (oe lt x l):=by
 induction l with
 |nil=>exact agY _ _
 | cons y l ih=>
   obtain⟨h1,h2⟩:=Cc.1 h;unfold oe
   split
   · rename_i ar
     refine Cc.2 ⟨fun z hz=>?_,h⟩;rcases dG.1 hz with rfl|hz
     · exact O.asym _ _ ar
     · cases hzx:lt z x with
       |false=>rfl
       | true=>
         exfalso
         have h5:=O.neg x z y (O.asym _ _ hzx) (h1 z hz);rw[ar] at h5;cases h5
   · rename_i ar
     refine Cc.2 ⟨fun z hz=>?_,ih h2⟩;rcases dG.1 ((SB x l).mem_iff.1 hz) with rfl|hz
     · simpa using ar
     · exact h1 z hz
theorem zC (O:p7 lt) (l:List α):Up lt (dc lt l):=by
 have h:∀(b a:List α),Up lt a→Up lt (b.foldl (fun a x=>oe lt x a) a):=by
  intro b
  induction b with
  |nil=>intro a h;exact h
  |cons x b ih=>intro a h;exact ih _ (akm O h)
 exact h l [] KN
def ti (lt:α→α→Bool) (l:List α):Prop:=l.Pairwise fun a b=>lt a b=true∨lt b a=true
theorem ti.perm {l m:List α} (h:ti lt l) (p:l.Perm m):ti lt m:=(p.pairwise_iff (fun h=>h.symm)).1 h
theorem Ny {l:List α} (h:Up lt l) (d:ti lt l):wH lt l:=by
 refine(apG h d).imp fun{a b} q=>?_;obtain⟨q1,q2⟩:=q;rcases q2 with q2|q2
 · exact q2
 · rw[q1] at q2;cases q2
theorem Nx (O:p7 lt):∀{l m:List α},wH lt l→wH lt m→(∀x,x∈l↔x∈m)→l=m
 |[],[],_,_,_=>rfl
 |[],y::m,_,_,h=>absurd ((h y).2 (Ae ..)) (by simp)
 |x::l,[],_,_,h=>absurd ((h x).1 (Ae ..)) (by simp)
 | x :: l,y::m,hl,hm,h=>by
   obtain⟨l1,l2⟩:=Cc.1 hl;obtain⟨m1,m2⟩:=Cc.1 hm
   have ZA:∀z:α,lt z z=false:=fun z=>by
    cases hz:lt z z with
    |false=>rfl
    |true=>exact(O.asym z z hz).symm.trans hz▸rfl
   have FN:x=y:=by
    rcases dG.1 ((h x).1 (Ae ..)) with e|hx
    · exact e
    · rcases dG.1 ((h y).2 (Ae ..)) with e|hy
      · exact e.symm
      · have a1:=m1 x hx
        have a2:=O.asym _ _ (l1 y hy);rw[a1] at a2;cases a2
   subst FN;rw[Nx O l2 m2 fun z=>⟨fun hz=>?_,fun hz=>?_⟩]
   · rcases dG.1 ((h z).1 (qI _ hz)) with e|q
     · subst e;have:=l1 z hz;rw[ZA] at this;cases this
     · exact q
   · rcases dG.1 ((h z).2 (qI _ hz)) with e|q
     · subst e;have:=m1 z hz;rw[ZA] at this;cases this
     · exact q
theorem aco (O:p7 lt) {l d:List α} (hd:Up lt d) (p:d.Perm l) (ha:ti lt l):d=dc lt l:=
 Nx O (Ny hd (ha.perm p.symm)) (Ny (zC O l) (ha.perm (xt l).symm)) fun x=>by rw[p.mem_iff,Tx]
theorem anv (O:p7 lt) {l m:List α} (hl:ti lt l) (hm:ti lt m) (h:∀x,x∈l↔x∈m):dc lt l=dc lt m:=
 Nx O (Ny (zC O l) (hl.perm (xt l).symm)) (Ny (zC O m) (hm.perm (xt m).symm)) fun x=>by rw[Tx,Tx];exact h x
def dP (num:α→Int) (a b:α):Bool:=decide (num a<num b)
theorem E0 (num:α→Int):p7 (dP num):=⟨fun a b h=>by unfold dP at*;simp at*;omega,fun a b c h k=>by unfold dP at*;simp at*;omega⟩
def dQ (m n:α→Int) (a b:α):Bool:=decide (m a<m b)||(decide (m a=m b)&&decide (n a<n b))
theorem EZ (m n:α→Int):p7 (dQ m n):=⟨fun a b h=>by unfold dQ at*;simp at*;omega,fun a b c h k=>by unfold dQ at*;simp at*;omega⟩
end
section
variable {E K:Type} [DecidableEq K] (ok:E→Bool) (key:E→K) (prev:E→E→Bool)
def eQ (acc:List E) (e:E):List E:=if ok e=true then
 match acc.find? (fun x=>decide (key x=key e)) with
 |none=>acc++[e]
 |some old=>if prev e old=true then acc.map (fun x=>if key x=key e then e else x) else acc
 else acc
def tL (l:List E):List E:=l.foldl (eQ ok key prev) []
variable {ok key prev}
def ib (key:E→K) (l:List E):Prop:=l.Pairwise fun a b=>key a≠key b
theorem LU {l:List E} {k:K} {x:E} (h:l.find? (fun x=>decide (key x=k))=some x):x∈l∧key x=k:=⟨List.mem_of_find?_eq_some h,by simpa using List.find?_some h⟩
theorem LV {l:List E} {k:K} (h:l.find? (fun x=>decide (key x=k))=none):∀x∈l,key x≠k:=fun x hx=>by simpa using List.find?_eq_none.1 h x hx
theorem ib.find {l:List E} (h:ib key l) {x:E} (hx:x∈l):l.find? (fun y=>decide (key y=key x))=some x:=by
 induction l with
 |nil=>cases hx
 | cons y l ih=>
   obtain⟨h1,h2⟩:=Cc.1 h;rcases dG.1 hx with rfl|hx
   · rw[Oo];simp
   · rw[Oo]
     have:=h1 x hx;simp only[this,decide_false];exact ih h2 hx
theorem ib.one {l:List E} (h:ib key l) {x y:E} (hx:x∈l) (hy:y∈l) (e:key x=key y):x=y:=by
 have a:=h.find hx;have b:=h.find hy;rw[e] at a;exact Option.some.inj (a.symm.trans b)
theorem ib.step {acc:List E} (h:ib key acc) (e:E):ib key (eQ ok key prev acc e):=by
 unfold eQ
 split
 · split
   · rename_i hf
     refine List.pairwise_append.2 ⟨h,agY _ _,fun a ha b hb=>?_⟩;rw[fQ.1 hb];exact LV hf a ha
   · split
     · refine agz _ (fun a b d_=>?_) h
       by_cases ha:key a=key e
       · by_cases hb:key b=key e
         · exact(d_ (ha.trans hb.symm)).elim
         · rw[if_pos ha,if_neg hb];exact fun q=>hb q.symm
       · by_cases hb:key b=key e
         · rw[if_neg ha,if_pos hb];exact ha
         · rw[if_neg ha,if_neg hb];exact d_
     · exact h
 · exact h
theorem Yb (l:List E):ib key (tL ok key prev l):=by
 have h:∀(b a:List E),ib key a→ib key (b.foldl (eQ ok key prev) a):=by
  intro b
  induction b with
  |nil=>intro a h;exact h
  |cons x b ih=>intro a h;exact ih _ (h.step x)
 exact h l [] KN
def Qh (key:E→K) (acc:List E) (m:K→Option E):Prop:=∀k,m k=acc.find? (fun x=>decide (key x=k))
theorem Qh.step {acc:List E} {m:K→Option E} (h:Qh key acc m) (e:E):Qh key (eQ ok key prev acc e) (Nu ok key prev m e):=by
 intro k;unfold eQ Nu
 by_cases he:ok e=true
 · rw [if_pos he,if_pos he,h (key e)]
   cases hf:acc.find? (fun x=>decide (key x=key e)) with
   | none=>
     simp only;rw[List.find?_append]
     by_cases hk:k=key e
     · subst hk;rw[hf];simp
     · rw[if_neg hk,h k]
       have:¬(key e=k):=fun q=>hk q.symm
       simp[this]
   | some old =>
     simp only
     by_cases hp:prev e old=true
     · rw [if_pos hp,if_pos hp]
       have aj0:∀l:List E,(l.map (fun x=>if key x=key e then e else x)).find? (fun x=>decide (key x=k))=if k=key e then(l.find? (fun x=>decide (key x=k))).map (fun _=>e) else l.find? (fun x=>decide (key x=k)):=by
        intro l
        induction l with
        |nil=>simp
        | cons y l ih=>
          rw[List.map_cons,Oo,Oo]
          by_cases hy:key y=key e
          · by_cases hk:k=key e
            · subst hk;simp[hy]
            · have h1:¬key e=k:=fun q=>hk q.symm
              have h2:¬key y=k:=fun q=>hk (q.symm.trans hy);simp only[hy,if_true,h1,decide_false,hk,if_false];rw[ih,if_neg hk]
          · by_cases hk:k=key e
            · subst hk
              simp only[hy,if_false,decide_false,if_true];rw[ih,if_pos rfl]
            · simp only[hy,if_false,hk]
              rw[ih,if_neg hk]
       rw[aj0]
       by_cases hk:k=key e
       · subst hk;rw[if_pos rfl,if_pos rfl,hf];rfl
       · rw[if_neg hk,if_neg hk];exact h k
     · rw[if_neg hp,if_neg hp];exact h k
 · rw[if_neg he,if_neg he];exact h k
theorem QE (l:List E):∀e∈tL ok key prev l,e∈l∧ok e=true:=by
 have h : ∀(b a l:List E),(∀e∈a,e∈l∧ok e=true)→(∀e∈b,e∈l)→∀e∈b.foldl (eQ ok key prev) a,e∈l∧ok e=true:=by
  intro b
  induction b with
  |nil=>intro a l h _;exact h
  | cons x b ih=>
    intro a l h hb;refine ih _ l (fun e he=>?_) fun e he=>hb e (qI _ he);unfold eQ at he
    split at he
    · rename_i hx
      have oc:x∈l∧ok x=true:=⟨hb x (Ae ..),hx⟩
      split at he
      · rcases pR.1 he with q|q
        · exact h e q
        · rw[fQ.1 q];exact oc
      · split at he
        · obtain⟨y,hy,zg⟩:=List.mem_map.1 he
          split at zg
          · rw[←zg];exact oc
          · rw[←zg];exact h y hy
        · exact h e he
    · exact h e he
 exact h l [] l (fun e he=>by cases he) fun e he=>he
end
theorem ET.open {W:ae} {B:Nat} {v:ai} {d:AB} (h:ET W B v d):∃b1 R cr,v=.agg #[.slice (some ⟨b1,0,none⟩) d.parts.length d.parts.length,.func (.func d.key) #[] #[],.int .i64 1,.int .i64 1000000,.nilFunc,.slice R d.rest.length cr]∧
 W.heap[b1]?=some (.cells (d.parts.flatMap gF.cells).toArray 109 (0,0))∧dJ W W.heap.size R Db d.rest:=by
 obtain⟨b1,R,cr,rfl,h1,h2,h3⟩:=h;refine⟨b1,R,cr,rfl,h2,?_⟩;rcases h3 with⟨e,rfl,-⟩|⟨b2,rfl,-,-,h4⟩
 · rw[e];exact dJ.nil
 · intro i x hx
   have hc:=aJ h4 (i:=i) (v:=Db x) (by simp[hx])
   exact⟨_,rfl,bt h4,by
    unfold Addr.add
    split
    · rename_i h0;rw[h0] at hc;exact hc
    · simpa using hc⟩
theorem dJ.ofMap {W:ae} {B:Nat} {A:Option bI} {rs:List (Nat×Bool)} {l:List Nat} (h:dJ W B A Db l) (hl:l=rs.map (·.1)):dJ W B A (fun p:Nat×Bool=>Db p.1) rs:=fun i x hx=>by
 refine h i x.1 ?_;rw[hl,El,hx];rfl
theorem uB.step {w w':ae} {v:ai} {g:Nat} {b:Bool} (h:uB w v g b) (hb:Below w.heap.size w w'):uB w' v g b:=⟨h.enters,fun W hW=>h.calls W (hb.trans (hW.mono hb.size))⟩
theorem zH (e:af) (d:AB) (qs:List mW) (rs:List (Nat×Bool)) (w:ae) (hS:∀W,ax ah 62 #[.int .i64 e.kind] W (sq W d)) (hr:d.rest=rs.map (·.1)) (nA:rs.length≤1000)
 (YP:∀p∈rs,uB w e.val p.1 p.2) (hq:d.parts.length=qs.length) (oa:qs.length≤1000) (Je:∀(i:Nat) (p:gF) (q:mW),d.parts[i]?=some p→qs[i]?=some q→Fits p q)
 (h1:1≤e.bR) (h2:e.bR≤1000000) (h3:0≤e.day) (h4:e.day≤100000):
 ax ah 20 #[e.val] w (cC w (rs.all (·.2)&&fW qs e)):=by
 have g1:decide (e.bR<1)=false:=by simp;omega
 have g2:decide (1000000<e.bR)=false:=by simp;omega
 have g3:decide (e.day<0)=false:=by simp;omega
 have g4:decide (100000<e.day)=false:=by simp;omega
 have HS:=hZ hS;have IE:=hZ (di (e:=e));have IE2:Hid ((ah.info? 33).map (·.size)=some e.cells.toArray.size):=hZ (by rw[tf];exact IE.out);have ON:=hZ YP;have OZ:=hZ Je;have HR:=hZ hr;obtain⟨rl,FH⟩:=oQ (d.rest.length);have fG:Hid (rs.length=rl∧rl≤1000):=hZ (by rw[←FH,hr,List.length_map];exact⟨rfl,nA⟩);obtain⟨ql,JB⟩:=oQ (d.parts.length);have qR:Hid (qs.length=ql∧ql≤1000):=hZ (by omega);have sd:=hZ FH;have qS:=hZ JB;obtain⟨z,hz⟩:=oQ (rs.all (·.2));rw[hz];have HZ:=hZ hz;clear hS YP Je hr nA oa hq hz h1 h2 h3 h4 FH JB;obtain⟨p0,ZZ⟩:=oQ (w.heap.size);have Po:=hZ ZZ;clear ZZ;cases z
 · rw [Ua]
   go_enter D9,Ea
   go_wp2_with (first
    | ((with_reducible refine ff rfl (.tmp 0) rfl e ?hx ?_);(case hx=>rfl);intro w1 aH aq aP
       have cW:=hZ aH;have aF:=hZ aq;have x0:=aH.cell (i:=0) rfl
       clear aH aq)
    | (go_at_call 62;(with_reducible refine(HS.out _).mono ?_);rintro e2 w2 ⟨v,rfl,fc,aA⟩
       obtain⟨b1,R,cr,rfl,Bt,Bu⟩:=fc.open;rw[sd.out] at fc;rw[qS.out] at fc;have kk:=aY w2 (.cells #[.slice (some ⟨b1,0,none⟩) ql ql,.func (.func d.key) #[] #[],.int .i64 1,.int .i64 1000000,.nilFunc,.slice R rl cr] 112);have jm:=(cW.out.below aA).below kk;have aK:=(aF.out.trans (aA.mono aF.out.size)).trans (kk.mono (aV aF.out.size aA.size));have y0:=jm.cell (i:=2) rfl;have y1:=jm.cell (i:=3) rfl;have jM:=bG w2 (.cells #[.slice (some ⟨b1,0,none⟩) ql ql,.func (.func d.key) #[] #[],.int .i64 1,.int .i64 1000000,.nilFunc,.slice R rl cr] 112);have lN:=hZ (fe kk Bt);have Li:=hZ (((Bu.below kk).more kk.size).ofMap HR.out);rw[qS.out,sd.out];have Ew:=hZ (XL rs R rl cr fG.out.1 fG.out.2 w.heap.size e _ Li.out jm (fun p hp=>(ON.out p hp).step aK));rw[HZ.out] at Ew;have jE:=hZ jm;have a_:=hZ aK;have PD:=hZ jM
       clear aA fc Bt Bu kk jm aK jM)
    | (go_at_call 67;(with_reducible refine Ew.out.mono ?_);rintro e4 w4 ⟨rfl,cQ⟩
       have bJ:=aw a_ cQ
       clear cQ)
    |fail)
   go_ret;exact⟨rfl,bJ.out⟩
 · rw [Ub]
   go_enter D9,Ea
   go_wp2_with (first
    | ((with_reducible refine ff rfl (.tmp 0) rfl e ?hx ?_);(case hx=>rfl);intro w1 aH aq aP
       have cW:=hZ aH;have aF:=hZ aq;have x0:=aH.cell (i:=0) rfl
       clear aH aq)
    | (go_at_call 62;(with_reducible refine(HS.out _).mono ?_);rintro e2 w2 ⟨v,rfl,fc,aA⟩
       obtain⟨b1,R,cr,rfl,Bt,Bu⟩:=fc.open;rw[sd.out] at fc;rw[qS.out] at fc;have kk:=aY w2 (.cells #[.slice (some ⟨b1,0,none⟩) ql ql,.func (.func d.key) #[] #[],.int .i64 1,.int .i64 1000000,.nilFunc,.slice R rl cr] 112);have jm:=(cW.out.below aA).below kk;have aK:=(aF.out.trans (aA.mono aF.out.size)).trans (kk.mono (aV aF.out.size aA.size));have y0:=jm.cell (i:=2) rfl;have y1:=jm.cell (i:=3) rfl;have jM:=bG w2 (.cells #[.slice (some ⟨b1,0,none⟩) ql ql,.func (.func d.key) #[] #[],.int .i64 1,.int .i64 1000000,.nilFunc,.slice R rl cr] 112);have lN:=hZ (fe kk Bt);have Li:=hZ (((Bu.below kk).more kk.size).ofMap HR.out);rw[qS.out,sd.out];have Ew:=hZ (XL rs R rl cr fG.out.1 fG.out.2 w.heap.size e _ Li.out jm (fun p hp=>(ON.out p hp).step aK));rw[HZ.out] at Ew;have jE:=hZ jm;have a_:=hZ aK;have PD:=hZ jM
       clear aA fc Bt Bu kk jm aK jM)
    | (go_at_call 67;(with_reducible refine Ew.out.mono ?_);rintro e4 w4 ⟨rfl,cQ⟩
       have bJ:=aw a_ cQ;have mS:=hZ (jE.out.below cQ);have WE:=ak cQ PD;have Pq:=ak cQ lN;have cX:=hZ (bl (cs:=e.cells) mS.out)
       clear cQ)
    |(with_reducible refine lm w.heap.size 0 cX.out IE.out bk ?_)
    | ((with_reducible refine oh rfl (.tmp 5) (.tmp 43) rfl rfl e ?hx ?hy IE2.out ?hold ?_);(case hx=>rfl);(case hy=>rfl);(case hold=>rfl);intro w5 tR cn JF
       have nP:=hZ tR;have WG:=ak cn WE;have Pr:=ak cn Pq;have OW:=hZ (mS.out.below cn);have cT:=aw bJ cn;have q0:=aJ (i:=0) WG.out rfl;have aL:Hid (w.heap.size<w4.heap.size∧b1<w4.heap.size):=hZ ⟨bt mS.out,bt Pq.out⟩
       clear tR cn JF)
    |fail)
   obtain⟨b5,cn⟩:=oQ (w4.heap.size);rw[cn] at nP aL⊢;clear cn x0 y0 y1 q0 WG WE PD a_ jE Ew Li lN cX mS Pq bJ cW aF aP HS ON HR HZ
   go_loopw [7,9,10,47,58] (fun _ _ _ v _ wr=> ∃(i:Nat) (e':af),v=.int .i64 (i:Int)∧i≤ql∧Hid (fW (qs.drop i) e'=fW qs e)∧Hid (ES e' e)∧aR wr b5 e'∧aR wr w.heap.size e∧wr.heap[b1]?=some (.cells (d.parts.flatMap gF.cells).toArray 109 (0,0))∧Below w.heap.size w wr) (fun _ _ _ v _ _=>match v with|.int _ k=>ql-k.toNat|_=>0)
   case atStart=>exact⟨0,e,rfl,ei _,hZ rfl,hZ ⟨rfl,rfl,rfl,rfl⟩,nP.out,OW.out,Pr.out,cT.out⟩
   case round=>
    obtain⟨i,e',rfl,hi,OT,tE,L8,Df,qh,hB⟩:=hrel;have HE:=hZ L8;have iZ:=hZ Df;have lN:=hZ qh;have HB:=hZ hB
    by_cases ar:i<ql
    · have d1:decide (i<ql)=true:=by simp[ar]
      (have z1:(0:Int)≤(i:Int):=by omega);(have z2:(i:Int)<(ql:Int):=by omega);obtain⟨p,hp⟩:∃p,d.parts[i]?=some p:=⟨_,bp (by rw[qS.out];exact ar)⟩;obtain⟨q,hq⟩:∃q,qs[i]?=some q:=⟨_,bp (by rw[qR.out.1];exact ar)⟩;have hf:=OZ.out i p q hp hq
      cases hf with
      | num enters calls ix=>
        rename_i g ci l
        have r0:wr.cell? ⟨b1,i*4,none⟩=some (.func (.func g) #[] #[]):=aJ qh (by have h:=pr _ i _ hp 0 (by omega);simpa[gF.cells] using h);have r1:wr.cell? ⟨b1,i*4+1,none⟩=some (.int .i64 l):=aJ qh (by have h:=pr _ i _ hp 1 (by omega);simpa[gF.cells] using h);have r2:wr.cell? ⟨b1,i*4+2,none⟩=some (.int .i64 1000000):=aJ qh (by have h:=pr _ i _ hp 2 (by omega);simpa[gF.cells] using h);have r3:wr.cell? ⟨b1,i*4+3,none⟩=some .nilFunc:=aJ qh (by have h:=pr _ i _ hp 3 (by omega);simpa[gF.cells] using h);have HC:=hZ (fun W=>calls b5 W);clear L8 Df qh hB calls;have oR:=aly;have cK:=hZ (HE.out.below (aY wr (.cells #[.func (.func g) #[] #[],.int .i64 l,.int .i64 1000000,.nilFunc] 109)));have nc:=cK.out.cell (abm ix e');have nf:=cK.out.free ci;obtain⟨x,hx⟩:=oQ (e'.num ci);rw[hx] at nc;have HX:=hZ hx
        have I_:qs.drop i=.num ci l::qs.drop (i+1):=by
         (have pB:i<qs.length:=by rw[qR.out.1];exact ar);rw[pN pB]
         congr 1
         rw[bp pB] at hq;exact Option.some.inj hq
        have HD:=hZ I_;have IX:=hZ ix;(have w1:aQ.wrap ((i:Int)+1)=((i+1:Nat):Int):=by rw[aS];have:=qR.out.2;omega);(have oO:wr.heap.size≠b5:=by have:=bt HE.out;omega);clear I_ hx ix;have nr:=OT.out;rw[HD.out,fW,HX.out] at nr
        by_cases c1:x<l
        · have e1:decide (x<l)=true:=by simp[c1]
          rw[decide_eq_false (by omega),Ua] at nr;have HF:=hZ nr;clear nr c1
          go_wp2_with (first
           |((with_reducible refine(HC.out _).mono ?_);rintro e6 w6 ⟨rfl,rfl⟩)
           |fail)
          go_quiet (fail)
          go_wp2;rw[←HF.out];go_ret;exact⟨rfl,HB.out.trans ((aY _ _).mono HB.out.size|>.trans (qD _ _ _))⟩
        · have e1:decide (x<l)=false:=by simp;omega
          rw[decide_eq_true (by omega),Ub] at nr
          by_cases c2:1000000<x
          · have e2:decide (1000000<x)=true:=by simp[c2]
            rw[decide_eq_false (by omega),Ua] at nr;have HF:=hZ nr;clear nr c1 c2
            go_wp2_with (first
             |((with_reducible refine(HC.out _).mono ?_);rintro e6 w6 ⟨rfl,rfl⟩)
             |fail)
            go_quiet (fail)
            go_wp2;rw[←HF.out];go_ret;exact⟨rfl,HB.out.trans ((aY _ _).mono HB.out.size|>.trans (qD _ _ _))⟩
          · have e2:decide (1000000<x)=false:=by simp;omega
            rw[decide_eq_true (by omega),Ub] at nr;have HF:=hZ nr;clear nr c1 c2
            go_wp2_with (first
             |((with_reducible refine(HC.out _).mono ?_);rintro e6 w6 ⟨rfl,rfl⟩)
             |fail)
            go_quiet (fail)
            go_wp2
            go_round
            case rel=>
             have kk:=aY wr (.cells #[.func (.func g) #[] #[],.int .i64 l,.int .i64 1000000,.nilFunc] 109);have ajX:=aL.out;refine⟨i+1,e'.ji ci,rfl,by omega,HF,hZ (tE.out.ji ci),Ye (W:=(wr.alloc (.cells #[.func (.func g) #[] #[],.int .i64 l,.int .i64 1000000,.nilFunc] 109)).drewN _) cK.out (aif IX.out e'),?_,?_,?_⟩
             · exact(fA _ _ _ _ (by show w.heap.size≠b5;omega)).trans (iZ.out.below (kk.trans (qD _ _ _)))
             · exact(fA _ _ _ _ (by show b1≠b5;omega)).trans (fe (kk.trans (qD _ _ _)) lN.out)
             · exact((HB.out.trans (kk.mono HB.out.size)).trans (qD _ _ _)).setCell (by show w.heap.size≤b5;omega) _
            case measure=>simp;omega
      | txt enters calls ix len=>
        rename_i g is
        have r0:wr.cell? ⟨b1,i*4,none⟩=some .nilFunc:=aJ qh (by have h:=pr _ i _ hp 0 (by omega);simpa[gF.cells] using h);have r1:wr.cell? ⟨b1,i*4+1,none⟩=some (.int .i64 0):=aJ qh (by have h:=pr _ i _ hp 1 (by omega);simpa[gF.cells] using h);have r2:wr.cell? ⟨b1,i*4+2,none⟩=some (.int .i64 0):=aJ qh (by have h:=pr _ i _ hp 2 (by omega);simpa[gF.cells] using h);have r3:wr.cell? ⟨b1,i*4+3,none⟩=some (.func (.func g) #[] #[]):=aJ qh (by have h:=pr _ i _ hp 3 (by omega);simpa[gF.cells] using h);have HC:=hZ (fun W=>calls b5 W);clear L8 Df qh hB calls;have sG:=alw g
        have I_:qs.drop i=.txt is::qs.drop (i+1):=by
         (have pB:i<qs.length:=by rw[qR.out.1];exact ar);rw[pN pB]
         congr 1
         rw[bp pB] at hq;exact Option.some.inj hq
        have nr:=OT.out;rw[I_,fW] at nr;have HF:=hZ nr;have IX:=hZ ix;(have w1:aQ.wrap ((i:Int)+1)=((i+1:Nat):Int):=by rw[aS];have:=qR.out.2;omega);have kk:=aY wr (.cells #[.nilFunc,.int .i64 0,.int .i64 0,.func (.func g) #[] #[]] 109);have cK:=hZ (HE.out.below kk);have ahk:=hZ (iZ.out.below kk);have tA:=ak kk lN;have aG:=aw HB kk;obtain⟨m,hm⟩:=oQ (is.length);rw[hm] at len;have HM:=hZ hm;clear I_ nr ix kk hm
        go_wp2_with (first
         | ((with_reducible refine(HC.out _).mono ?_);rintro e6 w6 ⟨v6,rfl,DH,eB⟩
            obtain⟨A6,c6,rfl,-⟩:=DH.slice;have yj:=hZ DH;have pT:=hZ (cK.out.below eB);have ahl:=hZ (ahk.out.below eB);have ahv:=ak eB tA;have dM:=aw aG eB;rw[HM.out] at yj⊢
            clear DH eB)
         |fail)
        have eB:b5<(wr.alloc (.cells #[.nilFunc,.int .i64 0,.int .i64 0,.func (.func g) #[] #[]] 109)).heap.size:=bt cK.out;obtain⟨B6,Yx⟩:=oQ ((wr.alloc (.cells #[.nilFunc,.int .i64 0,.int .i64 0,.func (.func g) #[] #[]] 109)).heap.size);rw[Yx] at yj eB;have H56:=hZ eB;clear Yx eB r0 r1 r2 r3 HC;obtain⟨wo,vF⟩:∃wo:ae,wo=wr:=⟨_,rfl⟩
        go_loopw [9,58] (fun _ v w7=> ∃k:Nat,v=.int .i64 (k:Int)∧k≤m∧aR w7 b5 ((is.take k).foldl af.ji e')∧Hid (ES ((is.take k).foldl af.ji e') e)∧aR w7 w.heap.size e∧w7.heap[b1]?=some (.cells (d.parts.flatMap gF.cells).toArray 109 (0,0))∧OL w7 B6 129 1 (one (ptr b5)) (.slice A6 m c6) is∧Below w.heap.size w w7) (fun _ v _=>match v with|.int _ k=>m-k.toNat|_=>0)
        case atStart=>exact⟨0,rfl,ei _,pT.out,tE,ahl.out,ahv.out,yj.out,dM.out⟩
        case round=>
         obtain⟨k,rfl,hk,AU,Q5,QX,Q3,Ma,QV⟩:=hrel;have wu:=hZ AU;have VR:=hZ QX;have EE:=hZ Q3;have Hk:=hZ Ma;have jD:=hZ QV
         by_cases dR:k<m
         · have ic:k<is.length:=by rw[HM.out];exact dR
           obtain⟨a,rfl,-,gq⟩:=Ma.MK.get ic;obtain⟨ci,AZ⟩:=oQ (is[k]);have ky:is[k]∈is:=List.getElem_mem ic;rw[AZ] at gq ky;unfold ptr at gq;(have FJ:is.take (k+1)=is.take k++[ci]:=by rw[List.take_succ_eq_append_getElem ic,AZ]);have HT:=hZ FJ;obtain⟨s0,bU⟩:=aoq (IX.out ci ky) ((is.take k).foldl af.ji e');have nc:=AU.cell bU;have nf:=AU.free ci;have HIX:=hZ (IX.out ci ky);(have e1:decide (k<m)=true:=by simp[dR]);(have y1:(0:Int)≤(k:Int):=by omega);(have y2:(k:Int)<(m:Int):=by omega);(have w2:aQ.wrap ((k:Int)+1)=((k+1:Nat):Int):=by rw[aS];omega);clear AU QX Q3 Ma QV AZ ky FJ bU ic;go_wp2_with fail
           go_round
           case rel=>
            have ajX:=aL.out;have h56:=H56.out;refine⟨k+1,rfl,by omega,?_,hZ ?_,?_,?_,?_,?_⟩
            · rw[HT.out,agK];exact Ye wu.out (aih HIX.out _)
            · rw[HT.out,agK];exact Q5.out.ji ci
            · exact(fA _ _ _ _ (by show w.heap.size≠b5;omega)).trans VR.out
            · exact(fA _ _ _ _ (by show b1≠b5;omega)).trans EE.out
            · exact Hk.out.keep (fun q hq=>fA _ _ _ _ (by have:=(Hk.out.lt q hq).1;show q≠b5;omega))
            · exact jD.out.setCell (by show w.heap.size≤b5;omega) _
           case measure=>simp;omega
         · have e1:decide (k<m)=false:=by simp;omega
           have eP:is.take k=is:=eE (by rw[HM.out];omega);have kI:=hZ eP;clear AU QX Q3 Ma QV eP;go_wp2_with fail
           go_round
           case rel=>exact⟨i+1,_,rfl,by omega,HF,by rw[kI.out] at Q5;exact Q5,by have:=wu.out;rw[kI.out] at this;exact this,VR.out,EE.out,jD.out⟩
           case measure=>simp;omega
    · have d1:decide (i<ql)=false:=by simp;omega
      have Zf:qs.drop i=[]:=List.drop_of_length_le (by rw[qR.out.1];omega);have nr:=OT.out;rw[Zf] at nr;have HF:=hZ nr;have nS:=hZ (fun W=>ai5 tE.out W);have RG1:=hZ (bl (cs:=e'.cells) HE.out);clear L8 Df qh hB nr Zf;have y0:=iZ.out.cell (i:=0) rfl;have y2:=iZ.out.cell (i:=2) rfl;have y3:=iZ.out.cell (i:=3) rfl;have y4:=iZ.out.cell (i:=4) rfl
      go_wp2_with (first
       |(with_reducible refine lm b5 0 RG1.out di bk ?_)
       |((with_reducible refine anK rfl 33 33 (.tmp 85) (.tmp 94) rfl (.agg e'.cells.toArray) (.agg #[.int .i64 e.kind,.int .i64 0,.int .i64 e.bR,.int .i64 e.day,.bool e.gone,.int .i64 0,.int .i64 0,.int .i64 0,.int .i64 0,.int .i64 0,.int .i64 0,.string ⟨#[]⟩,.string ⟨#[]⟩,.string ⟨#[]⟩,.string ⟨#[]⟩,.string ⟨#[]⟩,.string ⟨#[]⟩,.string ⟨#[]⟩]) ?hx ?hy (fW [] e') (ajy _ _ _ _ _) (nS.out _) ?_);(case hx=>rfl);(case hy=>rfl))
       |fail)
      rw[←HF.out];go_ret;exact⟨rfl,HB.out⟩
end Go.Proofs.YteeifhlhpiimoaaGreatDoor
end
