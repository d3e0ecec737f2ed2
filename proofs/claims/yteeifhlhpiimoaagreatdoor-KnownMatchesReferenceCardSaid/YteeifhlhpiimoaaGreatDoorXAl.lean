/-
  Contracts of slices.AppendSeq, slices.Collect at an iterator of entries; the like for what stands beside it. Conditions: the iterator's contract, at most 1000000 elements.
-/
import Derived.Test.YteeifhlhpiimoaaGreatDoorXAk
import Derived.Test.YteeifhlhpiimoaaGreatDoorXAj
import Derived.Test.YteeifhlhpiimoaaGreatDoorXAa
import Derived.Shelf.SlSortCmp.InsertionK
import Derived.Test.YteeifhlhpiimoaaGreatDoorXAf
import Derived.Laws.Tables
import Derived.Deep.CutRange
set_option maxHeartbeats 4000000
set_option maxRecDepth 100000
open Array renaming getElem?_eq_some_iff→fU
open Go renaming Calls→ax,Oper→aZ,Value→ai,World→ae,bodyPost_ret→et,undef→cM,wpList→dT
open Go.Act renaming put→sV
open Go.Addr renaming add→jy
open Go.IntKind renaming i64→aQ,wrap_i64→aS
open Go.Proofs.Tryz renaming func13→adj,func51→ad0,ntmps13→aev,ntmps51→aeR,prog→ah,underlying29→pM,underlying56→afD
open Go.World renaming alloc_heap_new→bG,putObj_heap_other→kZ
open Int renaming neg_tmod→agv,tmod→Ad,tmod_eq_emod_of_nonneg→agy,tmod_lt_of_pos→GJ,tmod_nonneg→GK
open List renaming map_cons→nM,map_nil→xR,map_toArray→KP,mem_cons→dG,not_mem_nil→gZ,range→dU,replicate→jY,setIfInBounds_toArray→ta,set_cons_succ→tc,set_cons_zero→td
open Nat renaming le_refl→aB
section
namespace Go.Proofs.YteeifhlhpiimoaaGreatDoor
open Go Go.RowKit Go.Shelf
attribute [local go_sem] Oper.semAt_some
theorem ao2 {F:Fence} {nn:Nat} {ops:Array aZ} {rest:List aZ} {o:aZ} {a:Act} {w:ae} {Q:Exit→Act→ae→Prop} (ct:o.guard=none) (x:Operand) (ho:o.op=.buildSlice 25 1 #[(0,x)]) (e:af) (hx:a.eval x=e.val)
 (hk:∀b V,w.heap.size=b→Below b w V→V.heap[b]?=some (.cells e.cells.toArray 33 (0,0))→V.heap.size=b+1→wpListIn F nn ah ops Q rest (a.put o.dst (.slice (some ⟨b,0,none⟩) 1 1)) V):wpListIn F nn ah ops Q (o::rest) a w:=by
 refine wpListIn_plain ct fun K hK=>?_;have h:=hk _ _ rfl (aY w (.cells e.cells.toArray 33)) (bG w _) (by simp);unfold Oper.wpIn;refine⟨?_,?_⟩
 · simp[Oper.about,ho]
 · rw[Oper.semAt_plain F _ _ (by rw[ho];intro c kM;cases kM)]
   have hr:=zx w e;obtain⟨z,hz⟩:=oQ (e.val);rw[hz] at hr hx;unfold execOp;simp only[ho,KP,nM,xR,hx,Sem.run_bind,hr,Result.andThen_ok];exact hK _ _ h
theorem ahV (b1 b2 N:Nat) (L:List af) (Sp:List af→Prop) (w:ae) (hI:tG ah 127 #[.pointer (some ⟨b1,0,none⟩),.pointer (some ⟨b2,0,none⟩)] tN (fun _=>False) (ej (bV w)) (fun xs=>xs=L) Sp N w) (hN:N≤1000000):
 ax ah 171 #[.slice none 0 0,.func (.func 127) #[] #[.pointer (some ⟨b1,0,none⟩),.pointer (some ⟨b2,0,none⟩)]] w fun e w'=> ∃v,e=.returned v∧OL w' w.heap.size 33 18 af.cells v L∧Below w.heap.size w w':=by
 have IE:=fun e:af=>hZ (di (e:=e));have HI:=hZ hI;clear hI;refine(callsIn_wide (n:=3)).1 ?_;refine callsIn_of_wp_marks Tryz.func171 rfl trivial ?_ rfl;simp only[Tryz.ntmps171,List.size_toArray,List.length_cons,List.length_nil,Nat.reduceAdd,Nat.reduceSub,Array.replicate_succ,Array.replicate_zero,List.push_toArray,List.append_toArray,List.nil_append,List.cons_append]
 gi_wp2_with fail
 obtain⟨w7,ub⟩:=oQ (w.alloc (.cells #[.slice none 0 0] 25));have aC:Below w.heap.size w w7:=by rw[←ub];exact(Below.refl _ _).alloc (aB _) _
 have sM:w7.heap.size=w.heap.size+1:=by rw[←ub];simp
 have x0:Boxed w7 w.heap.size 25 (.slice none 0 0):=by rw[←ub];exact Boxed.new w _ _
 rw[ub];clear ub;have tC:=hZ sM;have qW:=hZ x0;have cy:=hZ aC;clear aC x0 sM
 refine Kl (gf:=127) (lb:=#[.pointer (some ⟨b1,0,none⟩),.pointer (some ⟨b2,0,none⟩)]) rfl (enters_of Tryz.func127 (by kernel_rfl) rfl)
  HI.out cy.out (fun k hk=>hk.elim) (fun _=>rfl) (fun h k=>h.trans k)
  (fun W o k hk=>kZ (by unfold bV at hk;have:=tC.out;omega))
  (fun pre W=> ∃v,Boxed W w.heap.size 25 v∧OL W (w7.heap.size+2) 33 18 af.cells v pre∧Below w.heap.size w W)
  (fun _ _ _=>False)
  ?hI (fun _ _ _ _ h _=>h.elim) ⟨_,qW.out,OL.nil,cy.out⟩
  (fun b x=>{tmps:=#[.slice none 0 0,.func (.func 127) #[] #[.pointer (some ⟨b1,0,none⟩),.pointer (some ⟨b2,0,none⟩)],.pointer (some ⟨w.heap.size,0,none⟩),cM,.slice none 0 0,.pointer (some ⟨b,0,none⟩),.func (.func 127) #[] #[.pointer (some ⟨b1,0,none⟩),.pointer (some ⟨b2,0,none⟩)],af.val x,cM,cM,cM,cM,cM],defers:=[]})
  (fun b x W=>aR W b x) ?uV ?sF ?assign ?body ?done ?stop
 case hI=>
  rintro s A B' ⟨v,h1,h2,h3⟩ tt;have:=tC.out;refine⟨v,tt.boxed h1 (ud (by omega)),h2.keep fun g hg=>tt.block g (h2.lt g hg).2 ?_,tt.below h3 (aB _) (AR cy.out.size)⟩;rintro(e|e|e)
  · exact e
  · have:=(h2.lt g hg).1;omega
  · have:=(h2.lt g hg).1;omega
 case uV=>
  intro b x A B' hb ar h tt;refine(tt.block _ ar ?_).trans h;rintro(e|e|e)
  · exact e
  · omega
  · omega
 case sF=>
  intro A B' hs hb;exact ej.gH hb (fun k hk=>by unfold bV at hk;have:=tC.out;omega)
 case assign=>
  intro l0 x W b K hb hle hK;subst hb
  dsimp only[tN]
  gi_wp2_with (first
   |((with_reducible refine Gl rfl (.tmp 5) (.tmp 7) rfl rfl x rfl rfl ?hi ?ho ?_);(case hi=>exact(IE x).out);(case ho=>rfl);intro w1 aH aq aP)
   |fail)
  exact hK _ aH aq aP
 case body=>
  rintro l0 pre x b W hle ar ⟨v,hv,cL,hB⟩ hx hl;obtain⟨A5,c5,rfl,-,-⟩:=cL.slice;obtain⟨k,hk⟩:=oQ (pre.length);rw[hk] at hv cL;have HK:=hZ hk;have HV:=hZ hv;have HR:=hZ cL;have bA:=hZ hB;have si:=hZ hx;have cX:Hid (W.rangeAt b 0 x.cells):=hZ (bl (cs:=x.cells) hx);have oA:Hid (k+1≤1000000):=hZ (by omega);have c0:=hv.cell;clear hk hv cL hB hx hl
  gi_wp2_with (first
   |((with_reducible refine Gk rfl 33 (.tmp 5) rfl b 0 ?hx x.cells _ cX.out Tryz.underlying33 rfl (IE x).out ?_);(case hx=>rfl))
   | ((with_reducible refine ao2 rfl (.tmp 9) rfl x ?hx ?_);(case hx=>rfl)
      intro bn V gw aC Jq oS;have v_:=hZ gw;have g_:=hZ aC;have Ph:=hZ Jq;have PJ:=hZ oS
      clear gw aC Jq oS)
   | (gi_at_builtin;refine TT rfl (.tmp 8) (.tmp 10) rfl mZ (.slice A5 k c5) pre k HK.out rfl (HR.out.below (g_.out.mono (by have:=v_.out;omega)) (aB _)) x bn x.cells.toArray rfl Ph.out rfl rfl (ma x) (by have:=oA.out;have:=HK.out;unfold maxLen;omega) (by have:=oA.out;have:=HK.out;omega) (by have:=PJ.out;have:=v_.out;omega) ?_
      intro g' fI w1 iT ep lD kx aq;have iF:Boxed w1 w.heap.size 25 (.slice A5 k c5):=(ep.block w.heap.size (by have:=g_.out.size;have:=HV.out.lt;have:=v_.out;omega) (fun e=>by have:=(HR.out.lt w.heap.size e.symm).1;have:=tC.out;omega)).trans ((g_.out.block _ (by have:=HV.out.lt;have:=v_.out;omega)).trans HV.out);have cA:=hZ iF;have lL:=hZ iT;have rX:=hZ ep;have fj:=hZ lD;have c1:=iF.cell;have f1:=iF.frozen
      clear iT ep lD kx aq iF)
   |fail)
  have hT:aO (fun q=>q=w.heap.size) w1 (w1.setCell ⟨w.heap.size,0,none⟩ (.slice (some ⟨g',0,none⟩) (k+1) fI)):=aO.setCell _ _ _ rfl;have jq:∀q,(Value.slice A5 k c5).ownBlock=some q→w7.heap.size+2≤q:=fun q hq=>(HR.out.lt q hq).1;have DC:=tC.out;have aU:=g_.out.size;have fS:=v_.out;have oH:aO (fun q=>(Value.slice A5 k c5).ownBlock=some q) V w1:=Fc rX.out;have aq:Below (w7.heap.size+2) W w1:=oH.below (g_.out.mono (by omega)) (by omega) (fun q hq=>jq q hq)
  have IZ:ej (bV w) W (w1.setCell ⟨w.heap.size,0,none⟩ (.slice (some ⟨g',0,none⟩) (k+1) fI)):=fun q hq=>by
   unfold bV at hq;exact(Below.heap_setCell _ _ _ _ (by simp only;omega)).trans (aq.block q (by omega))
  refine⟨?_,IZ,.slice (some ⟨g',0,none⟩) (k+1) fI,cA.out.set _,?_,?_⟩
  · subst fS
    refine((KeepsFrom.gH g_.out).trans ⟨oH.size,fun q o h1 h2 h3=>?_⟩).trans (KeepsFrom.rB hT (fun q e=>by omega));refine(oH.block q (fU.1 h2).1 fun e=>?_).trans h2;have cL:=HR.out.below g_.out (by omega);rcases cL.2 with⟨e1,_⟩|⟨g9,Xz,XM,e1,_,h9,_⟩
    · rw[e1] at e;cases e
    · rw[e1] at e
      (have:g9=q:=by injection e);subst this;rw[h9] at h2;injection h2 with h2;rw[←h2] at h3;cases h3
  · exact lL.out.keep fun q hq=>Below.heap_setCell _ _ _ _ (fun e=>by
     (have:g'=q:=by injection hq);rcases fj.out with h1|h1
     · have:=jq g' h1;simp only at e;omega
     · simp only at e;omega)
  · exact hT.below (bA.out.trans (aq.mono (by omega))) (aB _) (fun q hq=>by omega)
 case done=>
  rintro xs W hS ⟨v,hv,cL,hB⟩ hK;subst hS;have HV:=hZ hv;have HR:=hZ cL;have bA:=hZ hB;have fR:=hZ hK;have c0:=hv.cell;clear hv cL hB hK
  gi_wp2_with fail
  refine⟨by simp,.inl ⟨_,_,rfl,run_takeDeferred fR.out,?_⟩⟩;refine⟨_,results_tmp rfl _ _ _,_,rfl,?_,?_⟩
  · have:=tC.out
    exact(HR.out.keep fun g hg=>kZ (by have:=(HR.out.lt g hg).1;omega)).base (by omega)
  · have:=tC.out
    exact(aO.putObj (Z:=fun k=>k=w7.heap.size) W _ _ rfl).below bA.out (aB _) (fun k hk=>by omega)
 case stop=>
  rintro c pre W _ h _;exact h.elim
theorem air (b1 b2 N:Nat) (L:List af) (Sp:List af→Prop) (w:ae) (hI:tG ah 127 #[.pointer (some ⟨b1,0,none⟩),.pointer (some ⟨b2,0,none⟩)] tN (fun _=>False) (ej (bV w)) (fun xs=>xs=L) Sp N w) (hN:N≤1000000):
 ax ah 131 #[.func (.func 127) #[] #[.pointer (some ⟨b1,0,none⟩),.pointer (some ⟨b2,0,none⟩)]] w fun e w'=> ∃v,e=.returned v∧OL w' w.heap.size 33 18 af.cells v L∧Below w.heap.size w w':=by
 have HC:=hZ (ahV b1 b2 N L Sp w hI hN);clear hI hN
 go_enter Tryz.func131,Tryz.ntmps131
 go_wp2_with (go_at_call 171;refine HC.out.mono ?_;rintro e w' ⟨v,rfl,ho,hb⟩)
 go_ret;exact⟨v,rfl,ho,hb⟩
end Go.Proofs.YteeifhlhpiimoaaGreatDoor
end
section
namespace Go.Proofs.YteeifhlhpiimoaaGreatDoor
open Go Go.RowKit Go.Shelf Go.Sort
attribute [local go_sem] Oper.semAt_some
def pk (x y:af):Int:=uf (dZ x.az y.az) (dZ x.id y.id)
theorem ZB (x y:af) (W:ae):ax ah 78 #[x.val,y.val] W fun e w'=>e=.returned (.int .i64 (pk x y))∧gW W w':=by
 go_enter Tryz.func78,Tryz.ntmps78
 go_wp2_with (first
  | ((with_reducible refine Im rfl (.tmp 0) rfl x ?hx ?_);(case hx=>rfl);intro w1 aH ep
     obtain⟨b1,aq⟩:=oQ (W.heap.size);rw[aq] at aH;rw[aq];have cW:=hZ aH;have rX:=hZ ep
     clear aH ep aq)
  | ((with_reducible refine Im rfl (.tmp 1) rfl y ?hx ?_);(case hx=>rfl);intro w2 fx f_
     have lO:=hZ (cW.out.below f_.below);obtain⟨b2,aA⟩:=oQ (w1.heap.size);rw[aA] at fx;rw[aA];have cK:=hZ fx;have ye:=hZ (rX.out.trans f_)
     clear fx f_ aA)
  |fail)
 obtain⟨U,hU⟩:=oQ (w2.drew);have G9:Hid (gW W U):=hZ (by rw[←hU];exact ye.out.trans (gW.drew _));have L7:aR U b1 x:=by rw[←hU];exact lO.out
 have Fh:aR U b2 y:=by rw[←hU];exact cK.out
 have aL:Hid (b1<U.heap.size∧b2<U.heap.size):=hZ ⟨(fU.1 L7).1,(fU.1 Fh).1⟩
 have bu:w2.drew.cell? ⟨b1,5,none⟩=some (.int .i64 x.az)∧w2.drew.cell? ⟨b2,5,none⟩=some (.int .i64 y.az)∧w2.drew.cell? ⟨b1,1,none⟩=some (.int .i64 x.id)∧w2.drew.cell? ⟨b2,1,none⟩=some (.int .i64 y.id):=by
  rw[hU];exact⟨L7.cell (i:=5) rfl,Fh.cell (i:=5) rfl,L7.cell (i:=1) rfl,Fh.cell (i:=1) rfl⟩
 clear L7 Fh;refine cJ (fun U=>U.cell? ⟨b1,5,none⟩=some (.int .i64 x.az)∧U.cell? ⟨b2,5,none⟩=some (.int .i64 y.az)∧U.cell? ⟨b1,1,none⟩=some (.int .i64 x.id)∧U.cell? ⟨b2,1,none⟩=some (.int .i64 y.id)) bu fun hHeld=>?_;rw[hU] at hHeld⊢;clear hU;refine bg 0 1 2 3 ?_;refine bg 5 6 7 8 ?_;refine rE 4 fun K hK=>?_;go_simp
 (with_reducible refine(yy _ _ _).mono ?_)
 rintro e7 w7 ⟨rfl,rfl⟩;refine kk hK hHeld fun hHeld=>?_;clear hK K;refine rE 9 fun K hK=>?_;go_simp
 (with_reducible refine(yy _ _ _).mono ?_)
 rintro e8 w8 ⟨rfl,rfl⟩;refine kk hK hHeld fun hHeld=>?_;clear hK K;refine rE 10 fun K hK=>?_;go_simp;obtain⟨bo,lX⟩:=oQ (U.heap.size);obtain⟨U1,lx⟩:=oQ (U.alloc (.cells #[.int .i64 (dZ x.az y.az),.int .i64 (dZ x.id y.id)] 3));have cO:U1.heap[bo]?=some (.cells #[.int .i64 (dZ x.az y.az),.int .i64 (dZ x.id y.id)] 3 (0,0)):=by rw[←lx,←lX];exact bG _ _
 have aq:Below U.heap.size U U1:=by rw[←lx];exact aY _ _
 have ep:gW W U1:=by rw[←lx];exact G9.out.trans (gW.alloc _ _)
 rw[lX,lx];have fF:=hZ cO;have rX:=hZ ep;have qV:Hid (U1.cell? ⟨b1,5,none⟩=some (.int .i64 x.az)∧U1.cell? ⟨b2,5,none⟩=some (.int .i64 y.az)∧U1.cell? ⟨b1,1,none⟩=some (.int .i64 x.id)∧U1.cell? ⟨b2,1,none⟩=some (.int .i64 y.id)):=hZ ⟨(aq.cell aL.out.1).trans hHeld.1,(aq.cell aL.out.2).trans hHeld.2.1,(aq.cell aL.out.1).trans hHeld.2.2.1,(aq.cell aL.out.2).trans hHeld.2.2.2⟩;clear lX lx cO aq ep;refine kk hK (qV.out) fun hHeld=>?_;clear hK K;refine rE 11 fun K hK=>?_;go_simp
 (with_reducible refine(SU bo 2 (dZ x.az y.az) (dZ x.id y.id) U1 (aJ fF.out rfl) (aJ fF.out rfl)).mono ?_)
 rintro e9 w9 ⟨rfl,rfl⟩;refine kk hK (qV.out) fun hHeld=>?_;clear hK K;refine tk 12 ?_;refine dn ?_;clear hHeld bu;go_wp2;go_ret;exact⟨rfl,rX.out⟩
theorem alj (x y:af):ltOf pk x y=dQ af.az af.id x y:=by
 unfold ltOf pk uf dZ dQ
 by_cases h1:x.az<y.az
 · simp[h1]
 · by_cases h2:y.az<x.az
   · have:¬x.az=y.az:=by omega
     simp[h1,h2,this]
   · have h3:x.az=y.az:=by omega
     by_cases h4:x.id<y.id
     · simp[h3,h4]
     · by_cases h5:y.id<x.id<;>simp[h3,h4,h5]
def ajR (l:List af):List af:=(insertionSort (ltOf pk) l.toArray 0 l.length).toList
end Go.Proofs.YteeifhlhpiimoaaGreatDoor
end
section
namespace Go.Proofs.YteeifhlhpiimoaaGreatDoor
open Go Go.RowKit Go.Shelf
attribute [local go_sem] Oper.semAt_some
def fk (l:List af) (p:Int):af:=(l.filter fun e=>decide (e.item=p)).headD aW
theorem ape (B:bP) (p t:Int) (w:ae) (hB:dH w (bV w) B):ax ah 25 #[B.val,.int .i64 p,.int .i64 t] w (cC w ((B.ls 3).any fun e=>decide (e.item=p)&&(decide (e.az≤t)&&decide (t≤e.bj)))):=by
 have HB:=hZ hB;have IE:=fun e:af=>hZ (di (e:=e));clear hB
 go_enter Tryz.func25,Tryz.ntmps25
 go_wp2;have dB:=hZ (At.start w);obtain⟨b0,w0,q1,q2,q3,hf,bU⟩:=dB.out.eX (.cells B.cells.toArray 36);rw[q1,q2];have dB:=hZ hf;have P8:=hZ q3;clear hf q1 q2 q3;clear bU;have HF:=hZ dB.out.drew;clear dB;refine cJ (fun U=>U.cell? ⟨b0,3,none⟩=some (.slice (B.ad 3) (B.ls 3).length (B.cp 3))) (cB B HF) fun hHeld=>?_;obtain⟨U0,en⟩:=oQ (w0.drew);rw[en] at HF hHeld⊢;clear en;refine bg 0 1 2 4 ?_;refine rd [3,12] ?_;refine rc (fun K hK=>?_) ?_
 ·
  go_simp
  (with_reducible refine(uS (p) HF.out).mono ?_)
  rintro e1 V1 ⟨ba,rfl,au⟩;have HF:=hZ au;clear au;refine kk hK (cB B HF) fun hHeld=>?_;clear hK K;refine rd [5,12] ?_;refine rc (fun K hK=>?_) ?_
  ·
   go_simp
   (with_reducible refine(FD (t) HF.out).mono ?_)
   rintro e1 V2 ⟨bh,rfl,au⟩;have HF:=hZ au;clear au;refine kk hK (cB B HF) fun hHeld=>?_;clear hK K;refine rd [6,12] ?_;refine rc (fun K hK=>?_) ?_
   ·
    go_simp;obtain⟨bc,V3,q1,q2,-,au⟩:=HF.out.alloc (.cells #[.func (.func 129) #[] #[.pointer (some ⟨ba,0,none⟩)],.func (.func 130) #[] #[.pointer (some ⟨bh,0,none⟩)]] 45);rw[q1,q2];have HF:=hZ au;clear au q1 q2;refine kk hK (cB B HF) fun hHeld=>?_;clear hK K;refine rd [7,12] ?_;refine rc (fun K hK=>?_) ?_
    ·
     go_simp
     (with_reducible refine(jX (B.ad 3) (B.ls 3).length (B.cp 3) (some ⟨bc,0,none⟩) 2 2 HF.out).mono ?_)
     rintro e1 V4 ⟨b1,b2,rfl,au⟩;have HF:=hZ au;clear au;refine kk hK (cB B HF) fun hHeld=>?_;clear hK K;refine rd [8,12] ?_;refine rc (fun K hK=>?_) ?_
     ·
      go_simp
      (with_reducible refine(jJ B 3 2 bc [⟨129,#[.pointer (some ⟨ba,0,none⟩)],fun e=>decide (e.item=p)⟩,⟨130,#[.pointer (some ⟨bh,0,none⟩)],fun e=>decide (e.az≤t)&&decide (t≤e.bj)⟩] HF HB ?hc (hn:=by simp)).mono ?_)
      case hc=>intro c hc;simp only[dG,gZ,or_false] at hc;rcases hc with rfl|rfl;(exact HF.out.about (by simp));(exact HF.out.holds (by simp))
      rintro e1 V5 ⟨ev,qv,ft,dX,rfl,HF⟩;refine kk hK (cB B HF) fun hHeld=>?_;clear hK K;refine dr 9 10 11 ?_;refine rE 12 fun K hK=>?_;go_simp;obtain⟨bv,V6,q1,q2,HV,HF⟩:=lT HF;rw[q1,q2];clear q1 q2;refine kk hK (cB B HF) fun hHeld=>?_;clear hK K;refine rE 13 fun K hK=>?_;refine me (.tmp 7) (.tmp 19) bv ev (IE _) HF HV ?_;intro V7 bS cF;refine kk hK (aJ (cF.out b0 B.cells.toArray 36 (by simp) (by decide)) (i:=3) rfl) fun hHeld=>?_;clear hK K;refine tk 14 ?_;refine dn ?_;clear hHeld;go_wp2;go_ret;(have hq:qv=(B.ls 3).any fun e=>decide (e.item=p)&&(decide (e.az≤t)&&decide (t≤e.bj)):=by rw[←dX.out,jH];congr 1;funext e;simp[dw]);rw[←hq];exact⟨rfl,bS.out.1⟩
     refine dx fun K hK=>?_;go_simp;obtain⟨bv,V6,q1,q2,HV,HF⟩:=lT HF;rw[q1,q2];clear q1 q2;refine kk hK (cB B HF) fun hHeld=>?_;clear hK K;refine rE 8 fun K hK=>?_;go_simp
     (with_reducible refine(jJ B 3 2 bc [⟨129,#[.pointer (some ⟨ba,0,none⟩)],fun e=>decide (e.item=p)⟩,⟨130,#[.pointer (some ⟨bh,0,none⟩)],fun e=>decide (e.az≤t)&&decide (t≤e.bj)⟩] HF HB ?hc (hn:=by simp)).mono ?_)
     case hc=>intro c hc;simp only[dG,gZ,or_false] at hc;rcases hc with rfl|rfl;(exact HF.out.about (by simp));(exact HF.out.holds (by simp))
     rintro e1 V5 ⟨ev,qv,ft,dX,rfl,HF⟩;refine kk hK (cB B HF) fun hHeld=>?_;clear hK K;refine dr 9 10 11 ?_;refine rE 13 fun K hK=>?_;refine me (.tmp 7) (.tmp 19) bv ev (IE _) HF HV ?_;intro V7 bS cF;refine kk hK (aJ (cF.out b0 B.cells.toArray 36 (by simp) (by decide)) (i:=3) rfl) fun hHeld=>?_;clear hK K;refine tk 14 ?_;refine dn ?_;clear hHeld;go_wp2;go_ret;(have hq:qv=(B.ls 3).any fun e=>decide (e.item=p)&&(decide (e.az≤t)&&decide (t≤e.bj)):=by rw[←dX.out,jH];congr 1;funext e;simp[dw]);rw[←hq];exact⟨rfl,bS.out.1⟩
    refine dx fun K hK=>?_;go_simp;obtain⟨bv,V6,q1,q2,HV,HF⟩:=lT HF;rw[q1,q2];clear q1 q2;refine kk hK (cB B HF) fun hHeld=>?_;clear hK K;refine rE 7 fun K hK=>?_;go_simp
    (with_reducible refine(jX (B.ad 3) (B.ls 3).length (B.cp 3) (some ⟨bc,0,none⟩) 2 2 HF.out).mono ?_)
    rintro e1 V4 ⟨b1,b2,rfl,au⟩;have HF:=hZ au;clear au;refine kk hK (cB B HF) fun hHeld=>?_;clear hK K;refine rE 8 fun K hK=>?_;go_simp
    (with_reducible refine(jJ B 3 2 bc [⟨129,#[.pointer (some ⟨ba,0,none⟩)],fun e=>decide (e.item=p)⟩,⟨130,#[.pointer (some ⟨bh,0,none⟩)],fun e=>decide (e.az≤t)&&decide (t≤e.bj)⟩] HF HB ?hc (hn:=by simp)).mono ?_)
    case hc=>intro c hc;simp only[dG,gZ,or_false] at hc;rcases hc with rfl|rfl;(exact HF.out.about (by simp));(exact HF.out.holds (by simp))
    rintro e1 V5 ⟨ev,qv,ft,dX,rfl,HF⟩;refine kk hK (cB B HF) fun hHeld=>?_;clear hK K;refine dr 9 10 11 ?_;refine rE 13 fun K hK=>?_;refine me (.tmp 7) (.tmp 19) bv ev (IE _) HF HV ?_;intro V7 bS cF;refine kk hK (aJ (cF.out b0 B.cells.toArray 36 (by simp) (by decide)) (i:=3) rfl) fun hHeld=>?_;clear hK K;refine tk 14 ?_;refine dn ?_;clear hHeld;go_wp2;go_ret;(have hq:qv=(B.ls 3).any fun e=>decide (e.item=p)&&(decide (e.az≤t)&&decide (t≤e.bj)):=by rw[←dX.out,jH];congr 1;funext e;simp[dw]);rw[←hq];exact⟨rfl,bS.out.1⟩
   refine dx fun K hK=>?_;go_simp;obtain⟨bv,V6,q1,q2,HV,HF⟩:=lT HF;rw[q1,q2];clear q1 q2;refine kk hK (cB B HF) fun hHeld=>?_;clear hK K;refine rE 6 fun K hK=>?_;go_simp;obtain⟨bc,V3,q1,q2,-,au⟩:=HF.out.alloc (.cells #[.func (.func 129) #[] #[.pointer (some ⟨ba,0,none⟩)],.func (.func 130) #[] #[.pointer (some ⟨bh,0,none⟩)]] 45);rw[q1,q2];have HF:=hZ au;clear au q1 q2;refine kk hK (cB B HF) fun hHeld=>?_;clear hK K;refine rE 7 fun K hK=>?_;go_simp
   (with_reducible refine(jX (B.ad 3) (B.ls 3).length (B.cp 3) (some ⟨bc,0,none⟩) 2 2 HF.out).mono ?_)
   rintro e1 V4 ⟨b1,b2,rfl,au⟩;have HF:=hZ au;clear au;refine kk hK (cB B HF) fun hHeld=>?_;clear hK K;refine rE 8 fun K hK=>?_;go_simp
   (with_reducible refine(jJ B 3 2 bc [⟨129,#[.pointer (some ⟨ba,0,none⟩)],fun e=>decide (e.item=p)⟩,⟨130,#[.pointer (some ⟨bh,0,none⟩)],fun e=>decide (e.az≤t)&&decide (t≤e.bj)⟩] HF HB ?hc (hn:=by simp)).mono ?_)
   case hc=>intro c hc;simp only[dG,gZ,or_false] at hc;rcases hc with rfl|rfl;(exact HF.out.about (by simp));(exact HF.out.holds (by simp))
   rintro e1 V5 ⟨ev,qv,ft,dX,rfl,HF⟩;refine kk hK (cB B HF) fun hHeld=>?_;clear hK K;refine dr 9 10 11 ?_;refine rE 13 fun K hK=>?_;refine me (.tmp 7) (.tmp 19) bv ev (IE _) HF HV ?_;intro V7 bS cF;refine kk hK (aJ (cF.out b0 B.cells.toArray 36 (by simp) (by decide)) (i:=3) rfl) fun hHeld=>?_;clear hK K;refine tk 14 ?_;refine dn ?_;clear hHeld;go_wp2;go_ret;(have hq:qv=(B.ls 3).any fun e=>decide (e.item=p)&&(decide (e.az≤t)&&decide (t≤e.bj)):=by rw[←dX.out,jH];congr 1;funext e;simp[dw]);rw[←hq];exact⟨rfl,bS.out.1⟩
  refine dx fun K hK=>?_;go_simp;obtain⟨bv,V6,q1,q2,HV,HF⟩:=lT HF;rw[q1,q2];clear q1 q2;refine kk hK (cB B HF) fun hHeld=>?_;clear hK K;refine rE 5 fun K hK=>?_;go_simp
  (with_reducible refine(FD (t) HF.out).mono ?_)
  rintro e1 V2 ⟨bh,rfl,au⟩;have HF:=hZ au;clear au;refine kk hK (cB B HF) fun hHeld=>?_;clear hK K;refine rE 6 fun K hK=>?_;go_simp;obtain⟨bc,V3,q1,q2,-,au⟩:=HF.out.alloc (.cells #[.func (.func 129) #[] #[.pointer (some ⟨ba,0,none⟩)],.func (.func 130) #[] #[.pointer (some ⟨bh,0,none⟩)]] 45);rw[q1,q2];have HF:=hZ au;clear au q1 q2;refine kk hK (cB B HF) fun hHeld=>?_;clear hK K;refine rE 7 fun K hK=>?_;go_simp
  (with_reducible refine(jX (B.ad 3) (B.ls 3).length (B.cp 3) (some ⟨bc,0,none⟩) 2 2 HF.out).mono ?_)
  rintro e1 V4 ⟨b1,b2,rfl,au⟩;have HF:=hZ au;clear au;refine kk hK (cB B HF) fun hHeld=>?_;clear hK K;refine rE 8 fun K hK=>?_;go_simp
  (with_reducible refine(jJ B 3 2 bc [⟨129,#[.pointer (some ⟨ba,0,none⟩)],fun e=>decide (e.item=p)⟩,⟨130,#[.pointer (some ⟨bh,0,none⟩)],fun e=>decide (e.az≤t)&&decide (t≤e.bj)⟩] HF HB ?hc (hn:=by simp)).mono ?_)
  case hc=>intro c hc;simp only[dG,gZ,or_false] at hc;rcases hc with rfl|rfl;(exact HF.out.about (by simp));(exact HF.out.holds (by simp))
  rintro e1 V5 ⟨ev,qv,ft,dX,rfl,HF⟩;refine kk hK (cB B HF) fun hHeld=>?_;clear hK K;refine dr 9 10 11 ?_;refine rE 13 fun K hK=>?_;refine me (.tmp 7) (.tmp 19) bv ev (IE _) HF HV ?_;intro V7 bS cF;refine kk hK (aJ (cF.out b0 B.cells.toArray 36 (by simp) (by decide)) (i:=3) rfl) fun hHeld=>?_;clear hK K;refine tk 14 ?_;refine dn ?_;clear hHeld;go_wp2;go_ret;have hq:qv=(B.ls 3).any fun e=>decide (e.item=p)&&(decide (e.az≤t)&&decide (t≤e.bj)):=by rw[←dX.out,jH];congr 1;funext e;simp[dw]
  rw[←hq];exact⟨rfl,bS.out.1⟩
 refine dx fun K hK=>?_;go_simp;obtain⟨bv,V6,q1,q2,HV,HF⟩:=lT HF;rw[q1,q2];clear q1 q2;refine kk hK (cB B HF) fun hHeld=>?_;clear hK K;refine rE 3 fun K hK=>?_;go_simp
 (with_reducible refine(uS (p) HF.out).mono ?_)
 rintro e1 V1 ⟨ba,rfl,au⟩;have HF:=hZ au;clear au;refine kk hK (cB B HF) fun hHeld=>?_;clear hK K;refine rE 5 fun K hK=>?_;go_simp
 (with_reducible refine(FD (t) HF.out).mono ?_)
 rintro e1 V2 ⟨bh,rfl,au⟩;have HF:=hZ au;clear au;refine kk hK (cB B HF) fun hHeld=>?_;clear hK K;refine rE 6 fun K hK=>?_;go_simp;obtain⟨bc,V3,q1,q2,-,au⟩:=HF.out.alloc (.cells #[.func (.func 129) #[] #[.pointer (some ⟨ba,0,none⟩)],.func (.func 130) #[] #[.pointer (some ⟨bh,0,none⟩)]] 45);rw[q1,q2];have HF:=hZ au;clear au q1 q2;refine kk hK (cB B HF) fun hHeld=>?_;clear hK K;refine rE 7 fun K hK=>?_;go_simp
 (with_reducible refine(jX (B.ad 3) (B.ls 3).length (B.cp 3) (some ⟨bc,0,none⟩) 2 2 HF.out).mono ?_)
 rintro e1 V4 ⟨b1,b2,rfl,au⟩;have HF:=hZ au;clear au;refine kk hK (cB B HF) fun hHeld=>?_;clear hK K;refine rE 8 fun K hK=>?_;go_simp
 (with_reducible refine(jJ B 3 2 bc [⟨129,#[.pointer (some ⟨ba,0,none⟩)],fun e=>decide (e.item=p)⟩,⟨130,#[.pointer (some ⟨bh,0,none⟩)],fun e=>decide (e.az≤t)&&decide (t≤e.bj)⟩] HF HB ?hc (hn:=by simp)).mono ?_)
 case hc=>intro c hc;simp only[dG,gZ,or_false] at hc;rcases hc with rfl|rfl;(exact HF.out.about (by simp));(exact HF.out.holds (by simp))
 rintro e1 V5 ⟨ev,qv,ft,dX,rfl,HF⟩;refine kk hK (cB B HF) fun hHeld=>?_;clear hK K;refine dr 9 10 11 ?_;refine rE 13 fun K hK=>?_;refine me (.tmp 7) (.tmp 19) bv ev (IE _) HF HV ?_;intro V7 bS cF;refine kk hK (aJ (cF.out b0 B.cells.toArray 36 (by simp) (by decide)) (i:=3) rfl) fun hHeld=>?_;clear hK K;refine tk 14 ?_;refine dn ?_;clear hHeld;go_wp2;go_ret;have hq:qv=(B.ls 3).any fun e=>decide (e.item=p)&&(decide (e.az≤t)&&decide (t≤e.bj)):=by rw[←dX.out,jH];congr 1;funext e;simp[dw]
 rw[←hq];exact⟨rfl,bS.out.1⟩
theorem Xx (B:bP) (p:Int) (w:ae) (hB:dH w (bV w) B):ax ah 24 #[B.val,.int .i64 p] w (fun e w'=>e=.returned (.tuple #[.agg #[.string (fk (B.ls 7) p).rn,.string (fk (B.ls 7) p).rd],.bool ((B.ls 7).any fun e=>decide (e.item=p))])∧Below w.heap.size w w'):=by
 have HB:=hZ hB;have IE:=fun e:af=>hZ (di (e:=e));clear hB
 go_enter Tryz.func24,Tryz.ntmps24
 go_wp2;have dB:=hZ (At.start w);obtain⟨b0,w0,q1,q2,q3,hf,bU⟩:=dB.out.eX (.cells B.cells.toArray 36);rw[q1,q2];have dB:=hZ hf;have P8:=hZ q3;clear hf q1 q2 q3;obtain⟨b4,w1,q1,q2,q3,hf,aP⟩:=dB.out.eX (.cells #[.string ⟨#[]⟩,.string ⟨#[]⟩] 29);rw[bU] at q1;rw[q1,q2];have dB:=hZ hf;have yq:=hZ q3;clear hf q1 q2 q3 bU;clear aP;have HF:=hZ dB.out.drew;clear dB;refine cJ (fun U=>U.cell? ⟨b0,7,none⟩=some (.slice (B.ad 7) (B.ls 7).length (B.cp 7))) (cB B HF) fun hHeld=>?_;obtain⟨U0,en⟩:=oQ (w1.drew);rw[en] at HF hHeld⊢;clear en;refine dr 0 1 2 ?_;refine rd [3,10] ?_;refine rc (fun K hK=>?_) ?_
 ·
  go_simp
  (with_reducible refine(uS (p) HF.out).mono ?_)
  rintro e1 V1 ⟨ba,rfl,au⟩;have HF:=hZ au;clear au;refine kk hK (cB B HF) fun hHeld=>?_;clear hK K;refine rd [4,10] ?_;refine rc (fun K hK=>?_) ?_
  ·
   go_simp;obtain⟨bc,V3,q1,q2,-,au⟩:=HF.out.alloc (.cells #[.func (.func 129) #[] #[.pointer (some ⟨ba,0,none⟩)]] 45);rw[q1,q2];have HF:=hZ au;clear au q1 q2;refine kk hK (cB B HF) fun hHeld=>?_;clear hK K;refine rd [5,10] ?_;refine rc (fun K hK=>?_) ?_
   ·
    go_simp
    (with_reducible refine(jX (B.ad 7) (B.ls 7).length (B.cp 7) (some ⟨bc,0,none⟩) 1 1 HF.out).mono ?_)
    rintro e1 V4 ⟨b1,b2,rfl,au⟩;have HF:=hZ au;clear au;refine kk hK (cB B HF) fun hHeld=>?_;clear hK K;refine rd [6,10] ?_;refine rc (fun K hK=>?_) ?_
    ·
     go_simp
     (with_reducible refine(jJ B 7 1 bc [⟨129,#[.pointer (some ⟨ba,0,none⟩)],fun e=>decide (e.item=p)⟩] HF HB ?hc (hn:=by simp)).mono ?_)
     case hc=>intro c hc;simp only[dG,gZ,or_false] at hc;obtain rfl:=hc;exact HF.out.about (by simp)
     rintro e1 V5 ⟨ev,qv,ft,dX,rfl,HF⟩;refine kk hK (cB B HF) fun hHeld=>?_;clear hK K;refine dr 7 8 9 ?_;refine rE 10 fun K hK=>?_;go_simp;obtain⟨bv,V6,q1,q2,HV,HF⟩:=lT HF;rw[q1,q2];clear q1 q2;refine kk hK (cB B HF) fun hHeld=>?_;clear hK K;refine rE 11 fun K hK=>?_;refine me (.tmp 6) (.tmp 16) bv ev (IE _) HF HV ?_;intro V7 bS cF;refine kk hK (aJ (cF.out b0 B.cells.toArray 36 (by simp) (by decide)) (i:=7) rfl) fun hHeld=>?_;clear hK K;refine tk 12 ?_;refine dn ?_;have bJ:=hZ (cF.out b4 #[.string ⟨#[]⟩,.string ⟨#[]⟩] 29 (by simp) (by decide));have x1:=bS.out.2.cell (i:=15) rfl;have x2:=bS.out.2.cell (i:=16) rfl;have y1:=aJ (i:=0) bJ.out rfl;have y2:=aJ (i:=1) bJ.out rfl;have f1:=cY bJ.out 0;have f2:=cY bJ.out 1;clear hHeld;go_wp2;(have hq:qv=(B.ls 7).any fun e=>decide (e.item=p):=by rw[←dX.out,jH];congr 1;funext e;simp[dw]);have he:ev=fk (B.ls 7) p:=by rw[←ft.out];unfold fk;congr 2;funext e;simp[dw]
     rw[←hq,←he];have hR:=DV bJ.out (.string ev.rn) (.string ev.rd);refine et (nF rfl _ _ b4 [.string ev.rn,.string ev.rd] _ rfl (bl hR) pM rfl (by kernel_rfl)) rfl ?_;exact⟨rfl,CW bS.out.1 yq.out _ _⟩
    refine dx fun K hK=>?_;go_simp;obtain⟨bv,V6,q1,q2,HV,HF⟩:=lT HF;rw[q1,q2];clear q1 q2;refine kk hK (cB B HF) fun hHeld=>?_;clear hK K;refine rE 6 fun K hK=>?_;go_simp
    (with_reducible refine(jJ B 7 1 bc [⟨129,#[.pointer (some ⟨ba,0,none⟩)],fun e=>decide (e.item=p)⟩] HF HB ?hc (hn:=by simp)).mono ?_)
    case hc=>intro c hc;simp only[dG,gZ,or_false] at hc;obtain rfl:=hc;exact HF.out.about (by simp)
    rintro e1 V5 ⟨ev,qv,ft,dX,rfl,HF⟩;refine kk hK (cB B HF) fun hHeld=>?_;clear hK K;refine dr 7 8 9 ?_;refine rE 11 fun K hK=>?_;refine me (.tmp 6) (.tmp 16) bv ev (IE _) HF HV ?_;intro V7 bS cF;refine kk hK (aJ (cF.out b0 B.cells.toArray 36 (by simp) (by decide)) (i:=7) rfl) fun hHeld=>?_;clear hK K;refine tk 12 ?_;refine dn ?_;have bJ:=hZ (cF.out b4 #[.string ⟨#[]⟩,.string ⟨#[]⟩] 29 (by simp) (by decide));have x1:=bS.out.2.cell (i:=15) rfl;have x2:=bS.out.2.cell (i:=16) rfl;have y1:=aJ (i:=0) bJ.out rfl;have y2:=aJ (i:=1) bJ.out rfl;have f1:=cY bJ.out 0;have f2:=cY bJ.out 1;clear hHeld;go_wp2;(have hq:qv=(B.ls 7).any fun e=>decide (e.item=p):=by rw[←dX.out,jH];congr 1;funext e;simp[dw]);(have he:ev=fk (B.ls 7) p:=by rw[←ft.out];unfold fk;congr 2;funext e;simp[dw]);rw[←hq,←he];have hR:=DV bJ.out (.string ev.rn) (.string ev.rd);refine et (nF rfl _ _ b4 [.string ev.rn,.string ev.rd] _ rfl (bl hR) pM rfl (by kernel_rfl)) rfl ?_;exact⟨rfl,CW bS.out.1 yq.out _ _⟩
   refine dx fun K hK=>?_;go_simp;obtain⟨bv,V6,q1,q2,HV,HF⟩:=lT HF;rw[q1,q2];clear q1 q2;refine kk hK (cB B HF) fun hHeld=>?_;clear hK K;refine rE 5 fun K hK=>?_;go_simp
   (with_reducible refine(jX (B.ad 7) (B.ls 7).length (B.cp 7) (some ⟨bc,0,none⟩) 1 1 HF.out).mono ?_)
   rintro e1 V4 ⟨b1,b2,rfl,au⟩;have HF:=hZ au;clear au;refine kk hK (cB B HF) fun hHeld=>?_;clear hK K;refine rE 6 fun K hK=>?_;go_simp
   (with_reducible refine(jJ B 7 1 bc [⟨129,#[.pointer (some ⟨ba,0,none⟩)],fun e=>decide (e.item=p)⟩] HF HB ?hc (hn:=by simp)).mono ?_)
   case hc=>intro c hc;simp only[dG,gZ,or_false] at hc;obtain rfl:=hc;exact HF.out.about (by simp)
   rintro e1 V5 ⟨ev,qv,ft,dX,rfl,HF⟩;refine kk hK (cB B HF) fun hHeld=>?_;clear hK K;refine dr 7 8 9 ?_;refine rE 11 fun K hK=>?_;refine me (.tmp 6) (.tmp 16) bv ev (IE _) HF HV ?_;intro V7 bS cF;refine kk hK (aJ (cF.out b0 B.cells.toArray 36 (by simp) (by decide)) (i:=7) rfl) fun hHeld=>?_;clear hK K;refine tk 12 ?_;refine dn ?_;have bJ:=hZ (cF.out b4 #[.string ⟨#[]⟩,.string ⟨#[]⟩] 29 (by simp) (by decide));have x1:=bS.out.2.cell (i:=15) rfl;have x2:=bS.out.2.cell (i:=16) rfl;have y1:=aJ (i:=0) bJ.out rfl;have y2:=aJ (i:=1) bJ.out rfl;have f1:=cY bJ.out 0;have f2:=cY bJ.out 1;clear hHeld;go_wp2;(have hq:qv=(B.ls 7).any fun e=>decide (e.item=p):=by rw[←dX.out,jH];congr 1;funext e;simp[dw]);(have he:ev=fk (B.ls 7) p:=by rw[←ft.out];unfold fk;congr 2;funext e;simp[dw]);rw[←hq,←he];have hR:=DV bJ.out (.string ev.rn) (.string ev.rd);refine et (nF rfl _ _ b4 [.string ev.rn,.string ev.rd] _ rfl (bl hR) pM rfl (by kernel_rfl)) rfl ?_;exact⟨rfl,CW bS.out.1 yq.out _ _⟩
  refine dx fun K hK=>?_;go_simp;obtain⟨bv,V6,q1,q2,HV,HF⟩:=lT HF;rw[q1,q2];clear q1 q2;refine kk hK (cB B HF) fun hHeld=>?_;clear hK K;refine rE 4 fun K hK=>?_;go_simp;obtain⟨bc,V3,q1,q2,-,au⟩:=HF.out.alloc (.cells #[.func (.func 129) #[] #[.pointer (some ⟨ba,0,none⟩)]] 45);rw[q1,q2];have HF:=hZ au;clear au q1 q2;refine kk hK (cB B HF) fun hHeld=>?_;clear hK K;refine rE 5 fun K hK=>?_;go_simp
  (with_reducible refine(jX (B.ad 7) (B.ls 7).length (B.cp 7) (some ⟨bc,0,none⟩) 1 1 HF.out).mono ?_)
  rintro e1 V4 ⟨b1,b2,rfl,au⟩;have HF:=hZ au;clear au;refine kk hK (cB B HF) fun hHeld=>?_;clear hK K;refine rE 6 fun K hK=>?_;go_simp
  (with_reducible refine(jJ B 7 1 bc [⟨129,#[.pointer (some ⟨ba,0,none⟩)],fun e=>decide (e.item=p)⟩] HF HB ?hc (hn:=by simp)).mono ?_)
  case hc=>intro c hc;simp only[dG,gZ,or_false] at hc;obtain rfl:=hc;exact HF.out.about (by simp)
  rintro e1 V5 ⟨ev,qv,ft,dX,rfl,HF⟩;refine kk hK (cB B HF) fun hHeld=>?_;clear hK K;refine dr 7 8 9 ?_;refine rE 11 fun K hK=>?_;refine me (.tmp 6) (.tmp 16) bv ev (IE _) HF HV ?_;intro V7 bS cF;refine kk hK (aJ (cF.out b0 B.cells.toArray 36 (by simp) (by decide)) (i:=7) rfl) fun hHeld=>?_;clear hK K;refine tk 12 ?_;refine dn ?_;have bJ:=hZ (cF.out b4 #[.string ⟨#[]⟩,.string ⟨#[]⟩] 29 (by simp) (by decide));have x1:=bS.out.2.cell (i:=15) rfl;have x2:=bS.out.2.cell (i:=16) rfl;have y1:=aJ (i:=0) bJ.out rfl;have y2:=aJ (i:=1) bJ.out rfl;have f1:=cY bJ.out 0;have f2:=cY bJ.out 1;clear hHeld;go_wp2;have hq:qv=(B.ls 7).any fun e=>decide (e.item=p):=by rw[←dX.out,jH];congr 1;funext e;simp[dw]
  have he:ev=fk (B.ls 7) p:=by rw[←ft.out];unfold fk;congr 2;funext e;simp[dw]
  rw[←hq,←he];have hR:=DV bJ.out (.string ev.rn) (.string ev.rd);refine et (nF rfl _ _ b4 [.string ev.rn,.string ev.rd] _ rfl (bl hR) pM rfl (by kernel_rfl)) rfl ?_;exact⟨rfl,CW bS.out.1 yq.out _ _⟩
 refine dx fun K hK=>?_;go_simp;obtain⟨bv,V6,q1,q2,HV,HF⟩:=lT HF;rw[q1,q2];clear q1 q2;refine kk hK (cB B HF) fun hHeld=>?_;clear hK K;refine rE 3 fun K hK=>?_;go_simp
 (with_reducible refine(uS (p) HF.out).mono ?_)
 rintro e1 V1 ⟨ba,rfl,au⟩;have HF:=hZ au;clear au;refine kk hK (cB B HF) fun hHeld=>?_;clear hK K;refine rE 4 fun K hK=>?_;go_simp;obtain⟨bc,V3,q1,q2,-,au⟩:=HF.out.alloc (.cells #[.func (.func 129) #[] #[.pointer (some ⟨ba,0,none⟩)]] 45);rw[q1,q2];have HF:=hZ au;clear au q1 q2;refine kk hK (cB B HF) fun hHeld=>?_;clear hK K;refine rE 5 fun K hK=>?_;go_simp
 (with_reducible refine(jX (B.ad 7) (B.ls 7).length (B.cp 7) (some ⟨bc,0,none⟩) 1 1 HF.out).mono ?_)
 rintro e1 V4 ⟨b1,b2,rfl,au⟩;have HF:=hZ au;clear au;refine kk hK (cB B HF) fun hHeld=>?_;clear hK K;refine rE 6 fun K hK=>?_;go_simp
 (with_reducible refine(jJ B 7 1 bc [⟨129,#[.pointer (some ⟨ba,0,none⟩)],fun e=>decide (e.item=p)⟩] HF HB ?hc (hn:=by simp)).mono ?_)
 case hc=>intro c hc;simp only[dG,gZ,or_false] at hc;obtain rfl:=hc;exact HF.out.about (by simp)
 rintro e1 V5 ⟨ev,qv,ft,dX,rfl,HF⟩;refine kk hK (cB B HF) fun hHeld=>?_;clear hK K;refine dr 7 8 9 ?_;refine rE 11 fun K hK=>?_;refine me (.tmp 6) (.tmp 16) bv ev (IE _) HF HV ?_;intro V7 bS cF;refine kk hK (aJ (cF.out b0 B.cells.toArray 36 (by simp) (by decide)) (i:=7) rfl) fun hHeld=>?_;clear hK K;refine tk 12 ?_;refine dn ?_;have bJ:=hZ (cF.out b4 #[.string ⟨#[]⟩,.string ⟨#[]⟩] 29 (by simp) (by decide));have x1:=bS.out.2.cell (i:=15) rfl;have x2:=bS.out.2.cell (i:=16) rfl;have y1:=aJ (i:=0) bJ.out rfl;have y2:=aJ (i:=1) bJ.out rfl;have f1:=cY bJ.out 0;have f2:=cY bJ.out 1;clear hHeld;go_wp2;have hq:qv=(B.ls 7).any fun e=>decide (e.item=p):=by rw[←dX.out,jH];congr 1;funext e;simp[dw]
 have he:ev=fk (B.ls 7) p:=by rw[←ft.out];unfold fk;congr 2;funext e;simp[dw]
 rw[←hq,←he];have hR:=DV bJ.out (.string ev.rn) (.string ev.rd);refine et (nF rfl _ _ b4 [.string ev.rn,.string ev.rd] _ rfl (bl hR) pM rfl (by kernel_rfl)) rfl ?_;exact⟨rfl,CW bS.out.1 yq.out _ _⟩
theorem anq (B:bP) (n m t:Int) (w:ae) (hB:dH w (bV w) B):ax ah 37 #[B.val,.int .i64 n,.int .i64 m,.int .i64 t] w (cC w ((B.ls 6).any fun e=>(decide (e.az≤t)&&decide (t≤e.bj))&&(decide (e.dj=n)&&decide (e.iJ=m)))):=by
 have HB:=hZ hB;have IE:=fun e:af=>hZ (di (e:=e));clear hB
 go_enter Tryz.func37,Tryz.ntmps37
 go_wp2;have dB:=hZ (At.start w);obtain⟨b0,w0,q1,q2,q3,hf,bU⟩:=dB.out.eX (.cells B.cells.toArray 36);rw[q1,q2];have dB:=hZ hf;have P8:=hZ q3;clear hf q1 q2 q3;obtain⟨b5,w1,q1,q2,q3,hf,aP⟩:=dB.out.eX (.cells #[.int .i64 n] 3);rw[bU] at q1;rw[q1,q2];have dB:=hZ hf;have Hb5:=hZ q3;clear hf q1 q2 q3 bU;obtain⟨b6,w2,q1,q2,q3,hf,eO⟩:=dB.out.eX (.cells #[.int .i64 m] 3);rw[aP] at q1;rw[q1,q2];have dB:=hZ hf;have Hb6:=hZ q3;clear hf q1 q2 q3 aP;clear eO;have HF:=hZ dB.out.drew;clear dB;refine cJ (fun U=>U.cell? ⟨b0,6,none⟩=some (.slice (B.ad 6) (B.ls 6).length (B.cp 6))) (cB B HF) fun hHeld=>?_;obtain⟨U0,en⟩:=oQ (w2.drew);rw[en] at HF hHeld⊢;clear en;refine bg 0 1 2 4 ?_;refine rd [3,11] ?_;refine rc (fun K hK=>?_) ?_
 ·
  go_simp
  (with_reducible refine(FD (t) HF.out).mono ?_)
  rintro e1 V2 ⟨bh,rfl,au⟩;have HF:=hZ au;clear au;refine kk hK (cB B HF) fun hHeld=>?_;clear hK K;refine rd [5,11] ?_;refine rc (fun K hK=>?_) ?_
  ·
   go_simp;obtain⟨bc,V3,q1,q2,-,au⟩:=HF.out.alloc (.cells #[.func (.func 130) #[] #[.pointer (some ⟨bh,0,none⟩)],.func (.func 85) #[] #[.pointer (some ⟨b5,0,none⟩),.pointer (some ⟨b6,0,none⟩)]] 45);rw[q1,q2];have HF:=hZ au;clear au q1 q2;refine kk hK (cB B HF) fun hHeld=>?_;clear hK K;refine rd [6,11] ?_;refine rc (fun K hK=>?_) ?_
   ·
    go_simp
    (with_reducible refine(jX (B.ad 6) (B.ls 6).length (B.cp 6) (some ⟨bc,0,none⟩) 2 2 HF.out).mono ?_)
    rintro e1 V4 ⟨b1,b2,rfl,au⟩;have HF:=hZ au;clear au;refine kk hK (cB B HF) fun hHeld=>?_;clear hK K;refine rd [7,11] ?_;refine rc (fun K hK=>?_) ?_
    ·
     go_simp
     (with_reducible refine(jJ B 6 2 bc [⟨130,#[.pointer (some ⟨bh,0,none⟩)],fun e=>decide (e.az≤t)&&decide (t≤e.bj)⟩,⟨85,#[.pointer (some ⟨b5,0,none⟩),.pointer (some ⟨b6,0,none⟩)],fun e=>decide (e.dj=n)&&decide (e.iJ=m)⟩] HF HB ?hc (hn:=by simp)).mono ?_)
     case hc=>intro c hc;simp only[dG,gZ,or_false] at hc;rcases hc with rfl|rfl;(exact HF.out.holds (by simp));(exact HF.out.Ke (by simp) (by simp))
     rintro e1 V5 ⟨ev,qv,ft,dX,rfl,HF⟩;refine kk hK (cB B HF) fun hHeld=>?_;clear hK K;refine dr 8 9 10 ?_;refine rE 11 fun K hK=>?_;go_simp;obtain⟨bv,V6,q1,q2,HV,HF⟩:=lT HF;rw[q1,q2];clear q1 q2;refine kk hK (cB B HF) fun hHeld=>?_;clear hK K;refine rE 12 fun K hK=>?_;refine me (.tmp 9) (.tmp 20) bv ev (IE _) HF HV ?_;intro V7 bS cF;refine kk hK (aJ (cF.out b0 B.cells.toArray 36 (by simp) (by decide)) (i:=6) rfl) fun hHeld=>?_;clear hK K;refine tk 13 ?_;refine dn ?_;clear hHeld;go_wp2;go_ret;(have hq:qv=(B.ls 6).any fun e=>(decide (e.az≤t)&&decide (t≤e.bj))&&(decide (e.dj=n)&&decide (e.iJ=m)):=by rw[←dX.out,jH];congr 1;funext e;simp[dw]);rw[←hq]
     exact⟨rfl,bS.out.1⟩
    refine dx fun K hK=>?_;go_simp;obtain⟨bv,V6,q1,q2,HV,HF⟩:=lT HF;rw[q1,q2];clear q1 q2;refine kk hK (cB B HF) fun hHeld=>?_;clear hK K;refine rE 7 fun K hK=>?_;go_simp
    (with_reducible refine(jJ B 6 2 bc [⟨130,#[.pointer (some ⟨bh,0,none⟩)],fun e=>decide (e.az≤t)&&decide (t≤e.bj)⟩,⟨85,#[.pointer (some ⟨b5,0,none⟩),.pointer (some ⟨b6,0,none⟩)],fun e=>decide (e.dj=n)&&decide (e.iJ=m)⟩] HF HB ?hc (hn:=by simp)).mono ?_)
    case hc=>intro c hc;simp only[dG,gZ,or_false] at hc;rcases hc with rfl|rfl;(exact HF.out.holds (by simp));(exact HF.out.Ke (by simp) (by simp))
    rintro e1 V5 ⟨ev,qv,ft,dX,rfl,HF⟩;refine kk hK (cB B HF) fun hHeld=>?_;clear hK K;refine dr 8 9 10 ?_;refine rE 12 fun K hK=>?_;refine me (.tmp 9) (.tmp 20) bv ev (IE _) HF HV ?_;intro V7 bS cF;refine kk hK (aJ (cF.out b0 B.cells.toArray 36 (by simp) (by decide)) (i:=6) rfl) fun hHeld=>?_;clear hK K;refine tk 13 ?_;refine dn ?_;clear hHeld;go_wp2;go_ret;(have hq:qv=(B.ls 6).any fun e=>(decide (e.az≤t)&&decide (t≤e.bj))&&(decide (e.dj=n)&&decide (e.iJ=m)):=by rw[←dX.out,jH];congr 1;funext e;simp[dw]);rw[←hq];exact⟨rfl,bS.out.1⟩
   refine dx fun K hK=>?_;go_simp;obtain⟨bv,V6,q1,q2,HV,HF⟩:=lT HF;rw[q1,q2];clear q1 q2;refine kk hK (cB B HF) fun hHeld=>?_;clear hK K;refine rE 6 fun K hK=>?_;go_simp
   (with_reducible refine(jX (B.ad 6) (B.ls 6).length (B.cp 6) (some ⟨bc,0,none⟩) 2 2 HF.out).mono ?_)
   rintro e1 V4 ⟨b1,b2,rfl,au⟩;have HF:=hZ au;clear au;refine kk hK (cB B HF) fun hHeld=>?_;clear hK K;refine rE 7 fun K hK=>?_;go_simp
   (with_reducible refine(jJ B 6 2 bc [⟨130,#[.pointer (some ⟨bh,0,none⟩)],fun e=>decide (e.az≤t)&&decide (t≤e.bj)⟩,⟨85,#[.pointer (some ⟨b5,0,none⟩),.pointer (some ⟨b6,0,none⟩)],fun e=>decide (e.dj=n)&&decide (e.iJ=m)⟩] HF HB ?hc (hn:=by simp)).mono ?_)
   case hc=>intro c hc;simp only[dG,gZ,or_false] at hc;rcases hc with rfl|rfl;(exact HF.out.holds (by simp));(exact HF.out.Ke (by simp) (by simp))
   rintro e1 V5 ⟨ev,qv,ft,dX,rfl,HF⟩;refine kk hK (cB B HF) fun hHeld=>?_;clear hK K;refine dr 8 9 10 ?_;refine rE 12 fun K hK=>?_;refine me (.tmp 9) (.tmp 20) bv ev (IE _) HF HV ?_;intro V7 bS cF;refine kk hK (aJ (cF.out b0 B.cells.toArray 36 (by simp) (by decide)) (i:=6) rfl) fun hHeld=>?_;clear hK K;refine tk 13 ?_;refine dn ?_;clear hHeld;go_wp2;go_ret;(have hq:qv=(B.ls 6).any fun e=>(decide (e.az≤t)&&decide (t≤e.bj))&&(decide (e.dj=n)&&decide (e.iJ=m)):=by rw[←dX.out,jH];congr 1;funext e;simp[dw]);rw[←hq];exact⟨rfl,bS.out.1⟩
  refine dx fun K hK=>?_;go_simp;obtain⟨bv,V6,q1,q2,HV,HF⟩:=lT HF;rw[q1,q2];clear q1 q2;refine kk hK (cB B HF) fun hHeld=>?_;clear hK K;refine rE 5 fun K hK=>?_;go_simp;obtain⟨bc,V3,q1,q2,-,au⟩:=HF.out.alloc (.cells #[.func (.func 130) #[] #[.pointer (some ⟨bh,0,none⟩)],.func (.func 85) #[] #[.pointer (some ⟨b5,0,none⟩),.pointer (some ⟨b6,0,none⟩)]] 45);rw[q1,q2];have HF:=hZ au;clear au q1 q2;refine kk hK (cB B HF) fun hHeld=>?_;clear hK K;refine rE 6 fun K hK=>?_;go_simp
  (with_reducible refine(jX (B.ad 6) (B.ls 6).length (B.cp 6) (some ⟨bc,0,none⟩) 2 2 HF.out).mono ?_)
  rintro e1 V4 ⟨b1,b2,rfl,au⟩;have HF:=hZ au;clear au;refine kk hK (cB B HF) fun hHeld=>?_;clear hK K;refine rE 7 fun K hK=>?_;go_simp
  (with_reducible refine(jJ B 6 2 bc [⟨130,#[.pointer (some ⟨bh,0,none⟩)],fun e=>decide (e.az≤t)&&decide (t≤e.bj)⟩,⟨85,#[.pointer (some ⟨b5,0,none⟩),.pointer (some ⟨b6,0,none⟩)],fun e=>decide (e.dj=n)&&decide (e.iJ=m)⟩] HF HB ?hc (hn:=by simp)).mono ?_)
  case hc=>intro c hc;simp only[dG,gZ,or_false] at hc;rcases hc with rfl|rfl;(exact HF.out.holds (by simp));(exact HF.out.Ke (by simp) (by simp))
  rintro e1 V5 ⟨ev,qv,ft,dX,rfl,HF⟩;refine kk hK (cB B HF) fun hHeld=>?_;clear hK K;refine dr 8 9 10 ?_;refine rE 12 fun K hK=>?_;refine me (.tmp 9) (.tmp 20) bv ev (IE _) HF HV ?_;intro V7 bS cF;refine kk hK (aJ (cF.out b0 B.cells.toArray 36 (by simp) (by decide)) (i:=6) rfl) fun hHeld=>?_;clear hK K;refine tk 13 ?_;refine dn ?_;clear hHeld;go_wp2;go_ret;have hq:qv=(B.ls 6).any fun e=>(decide (e.az≤t)&&decide (t≤e.bj))&&(decide (e.dj=n)&&decide (e.iJ=m)):=by rw[←dX.out,jH];congr 1;funext e;simp[dw]
  rw[←hq];exact⟨rfl,bS.out.1⟩
 refine dx fun K hK=>?_;go_simp;obtain⟨bv,V6,q1,q2,HV,HF⟩:=lT HF;rw[q1,q2];clear q1 q2;refine kk hK (cB B HF) fun hHeld=>?_;clear hK K;refine rE 3 fun K hK=>?_;go_simp
 (with_reducible refine(FD (t) HF.out).mono ?_)
 rintro e1 V2 ⟨bh,rfl,au⟩;have HF:=hZ au;clear au;refine kk hK (cB B HF) fun hHeld=>?_;clear hK K;refine rE 5 fun K hK=>?_;go_simp;obtain⟨bc,V3,q1,q2,-,au⟩:=HF.out.alloc (.cells #[.func (.func 130) #[] #[.pointer (some ⟨bh,0,none⟩)],.func (.func 85) #[] #[.pointer (some ⟨b5,0,none⟩),.pointer (some ⟨b6,0,none⟩)]] 45);rw[q1,q2];have HF:=hZ au;clear au q1 q2;refine kk hK (cB B HF) fun hHeld=>?_;clear hK K;refine rE 6 fun K hK=>?_;go_simp
 (with_reducible refine(jX (B.ad 6) (B.ls 6).length (B.cp 6) (some ⟨bc,0,none⟩) 2 2 HF.out).mono ?_)
 rintro e1 V4 ⟨b1,b2,rfl,au⟩;have HF:=hZ au;clear au;refine kk hK (cB B HF) fun hHeld=>?_;clear hK K;refine rE 7 fun K hK=>?_;go_simp
 (with_reducible refine(jJ B 6 2 bc [⟨130,#[.pointer (some ⟨bh,0,none⟩)],fun e=>decide (e.az≤t)&&decide (t≤e.bj)⟩,⟨85,#[.pointer (some ⟨b5,0,none⟩),.pointer (some ⟨b6,0,none⟩)],fun e=>decide (e.dj=n)&&decide (e.iJ=m)⟩] HF HB ?hc (hn:=by simp)).mono ?_)
 case hc=>intro c hc;simp only[dG,gZ,or_false] at hc;rcases hc with rfl|rfl;(exact HF.out.holds (by simp));(exact HF.out.Ke (by simp) (by simp))
 rintro e1 V5 ⟨ev,qv,ft,dX,rfl,HF⟩;refine kk hK (cB B HF) fun hHeld=>?_;clear hK K;refine dr 8 9 10 ?_;refine rE 12 fun K hK=>?_;refine me (.tmp 9) (.tmp 20) bv ev (IE _) HF HV ?_;intro V7 bS cF;refine kk hK (aJ (cF.out b0 B.cells.toArray 36 (by simp) (by decide)) (i:=6) rfl) fun hHeld=>?_;clear hK K;refine tk 13 ?_;refine dn ?_;clear hHeld;go_wp2;go_ret;have hq:qv=(B.ls 6).any fun e=>(decide (e.az≤t)&&decide (t≤e.bj))&&(decide (e.dj=n)&&decide (e.iJ=m)):=by rw[←dX.out,jH];congr 1;funext e;simp[dw]
 rw[←hq];exact⟨rfl,bS.out.1⟩
theorem wpList_build {P:Program} {ops:Array aZ} {rest:List aZ} {o:aZ} {a:Act} {w:ae} {Q:Exit→Act→ae→Prop} (ct:o.guard=none) (t:TypeId) (parts:Array (Nat×Operand)) (ho:o.op=.build t parts) (cells:Array ai)
 (hb:P.built t (parts.map fun(i,x)=>(i,a.eval x)).toList=some cells) (h:dT P ops Q rest (a.put o.dst (.agg cells)) w):dT P ops Q (o::rest) a w:=
 wpList_plain ct fun _ hK=>by
  have:=hK _ _ h;refine wp_build t parts ho (by rw[hb];rfl) ?_;rw[hb];exact this
structure Pt where
 tm:Int
 ln:ByteArray
 ld:ByteArray
 hn:ByteArray
 hd:ByteArray
def fK (p:Pt):List ai:=[.int .i64 p.tm,.string p.ln,.string p.ld,.string p.hn,.string p.hd]
def fP (e:af):Pt:=⟨e.az,e.ln,e.ld,e.hn,e.hd⟩
theorem QF:gi ah 56 86 5 72:=gi.mk' (z:=.agg #[.int .i64 0,.string ⟨#[]⟩,.string ⟨#[]⟩,.string ⟨#[]⟩,.string ⟨#[]⟩]) afD (by kernel_rfl) rfl (by decide)
def iO (l:List af) (p:Int):List af:=l.filter fun e=>decide (e.item=p)
theorem Xn (l:List af) (p:Int) (b:Nat):l.filter (dw [⟨129,#[.pointer (some ⟨b,0,none⟩)],fun e=>decide (e.item=p)⟩])=iO l p:=by
 unfold iO;congr 1;funext e;simp[dw]
abbrev jc:Array ai:=#[.string ⟨#[]⟩,.string ⟨#[]⟩,.slice none 0 0]
theorem vJ (a b:ByteArray) (v:ai) (hv:v.oneCell'=true):(#[Value.string a,.string b,v]:Array ai).all (·.oneCell')=true:=by
 simp[Value.oneCell'] at hv⊢;exact hv
theorem S4 {W:ae} {r:Nat} {T:TypeId} {a0 a1 a2:ai} (h:W.heap[r]?=some (.cells #[a0,a1,a2] T (0,0))) (v:ai):(W.setCell ⟨r,2,none⟩ v).heap[r]?=some (.cells #[a0,a1,v] T (0,0)):=by
 simp[World.setCell,Array.getElem?_modify,h]
theorem Tr (w:ae) (p:Pt):(Instr.buildSlice 56 1 #[(0,.agg (fK p).toArray)]).run ah w=.ok (.slice (some ⟨w.heap.size,0,none⟩) 1 1) (w.alloc (.cells (fK p).toArray 86)):=by
 obtain⟨i,h1,h2,h3,h4⟩:=info_parts (show(ah.info? 86).map (fun i=>(i.zero,i.size,i.bytes))=some (some (.agg #[.int .i64 0,.string ⟨#[]⟩,.string ⟨#[]⟩,.string ⟨#[]⟩,.string ⟨#[]⟩]),5,72) by kernel_rfl);refine run_buildSlice w 56 86 1 _ (fK p).toArray i _ afD h1 h2 (by rw[h3];decide) (by rw[h3];decide) ?_;rw[h3]
 kernel_rfl
theorem ao8 {ops:Array aZ} {rest:List aZ} {o:aZ} {a:Act} {w:ae} {Q:Exit→Act→ae→Prop} (ct:o.guard=none) (x:Operand) (ho:o.op=.buildSlice 56 1 #[(0,x)]) (p:Pt) (hx:a.eval x=.agg (fK p).toArray)
 (hk:∀b V,w.heap.size=b→Below b w V→V.heap[b]?=some (.cells (fK p).toArray 86 (0,0))→V.heap.size=b+1→dT ah ops Q rest (a.put o.dst (.slice (some ⟨b,0,none⟩) 1 1)) V):dT ah ops Q (o::rest) a w:=by
 refine wpList_plain ct fun K hK=>?_;have h:=hK _ _ (hk _ _ rfl (aY w (.cells (fK p).toArray 86)) (bG w _) (by simp));unfold Oper.wp execOp;have hr:=Tr w p;obtain⟨z,hz⟩:=oQ (Value.agg (fK p).toArray);rw[hz] at hr hx;simp only[ho,KP,nM,xR,hx,Sem.run_bind,hr,Result.andThen_ok];exact h
def RH (B:bP) (p:Int):List Pt:=if (B.ls 1).any fun e=>decide (e.item=p) then(ajR (iO (B.ls 0) p)).map fP else[]
def dA (x n:Int):Int:=Ad (if x<0 then -(x+1) else x) n
theorem kU (x:Int) {n:Int} (h:1≤n):0≤dA x n∧dA x n<n:=by
 unfold dA
 split
 · exact⟨GK n (by omega),GJ _ (by omega)⟩
 · exact⟨GK n (by omega),GJ _ (by omega)⟩
theorem al6 (a b:Nat):dA (a:Int) (b:Int)=((a%b:Nat):Int):=by
 unfold dA;rw[if_neg (by omega)];exact(Int.ofNat_tmod a b).symm▸rfl
theorem al5 (W:ae) (x n:Int) (h1: -9223372036854775808≤x) (h2:x≤9223372036854775807) (hn:1≤n) (cN:n≤9223372036854775807):
 ax ah 13 #[.int .i64 x,.int .i64 n] W fun e W'=>e=.returned (.int .i64 (dA x n))∧W=W':=by
 have e0:(n==0)=false:=by simp;omega
 unfold dA
 by_cases h:x<0
 · have d1:decide (x<0)=true:=by simp[h]
   rw[if_pos h];(have w1:aQ.wrap (x+1)=x+1:=by rw[aS];omega);have w2:aQ.wrap (-(x+1))=-(x+1):=by rw[aS];omega
   have w3:aQ.wrap (Ad (-(x+1)) n)=Ad (-(x+1)) n:=by
    have q1:=GK n (show 0≤ -(x+1) by omega);have q2:=GJ (-(x+1)) (show 0<n by omega);rw[aS];omega
   go_enter adj,aev
   go_wp2_with fail;go_ret;rw[agv];exact⟨rfl,rfl⟩
 · have d1:decide (x<0)=false:=by simp;omega
   rw[if_neg h]
   have w3:aQ.wrap (Ad x n)=Ad x n:=by
    have q1:=GK n (show 0≤x by omega);have q2:=GJ x (show 0<n by omega);rw[aS];omega
   go_enter adj,aev
   go_wp2_with fail;go_ret;rw[agy (by omega)];exact⟨rfl,rfl⟩
theorem S2 (W:ae) (x n:Int) (h1: -9223372036854775808≤x) (h2:x≤9223372036854775807) (hn:1≤n) (cN:n≤9223372036854775807):
 ax ah 51 #[.int .i64 x,.int .i64 n] W fun e W'=>e=.returned (.int .i64 (dA x n))∧W=W':=by
 have e0:(n==0)=false:=by simp;omega
 unfold dA
 by_cases h:x<0
 · have d1:decide (x<0)=true:=by simp[h]
   rw[if_pos h];(have w1:aQ.wrap (x+1)=x+1:=by rw[aS];omega);have w2:aQ.wrap (-(x+1))=-(x+1):=by rw[aS];omega
   have w3:aQ.wrap (Ad (-(x+1)) n)=Ad (-(x+1)) n:=by
    have q1:=GK n (show 0≤ -(x+1) by omega);have q2:=GJ (-(x+1)) (show 0<n by omega);rw[aS];omega
   go_enter ad0,aeR
   go_wp2_with fail;go_ret;rw[agv];exact⟨rfl,rfl⟩
 · have d1:decide (x<0)=false:=by simp;omega
   rw[if_neg h]
   have w3:aQ.wrap (Ad x n)=Ad x n:=by
    have q1:=GK n (show 0≤x by omega);have q2:=GJ x (show 0<n by omega);rw[aS];omega
   go_enter ad0,aeR
   go_wp2_with fail;go_ret;rw[agy (by omega)];exact⟨rfl,rfl⟩
def D6:Array ai:=(jY 32 (Value.int .u8 0)).toArray
theorem abb (W:ae):(Instr.makeSlice 116 (.int .i64 32) (.int .i64 32)).run ah W=.ok (.slice (some ⟨W.heap.size,0,none⟩) 32 32) (W.alloc (.cells D6 5)):=by kernel_rfl
theorem acT:D6.toList=(jY 32 (0:UInt8)).map bv:=by
 unfold D6;rw[List.map_replicate];rfl
def letter (n i:Nat):UInt8:=UInt8.ofNat (97+(n+i)%26)
def Ka (n:Nat):List UInt8:=(dU 32).map (letter n)
def uj (n:Nat):ByteArray:=⟨(Ka n).toArray⟩
def xq (n k:Nat):List UInt8:=(dU k).map (letter n)++jY (32-k) 0
theorem ab3 (n k:Nat) (h:k≤32):(xq n k).length=32:=by unfold xq;simp;omega
theorem amR (n k:Nat) (h:k<32):(xq n k).set k (letter n k)=xq n (k+1):=by
 unfold xq;have h1:((dU k).map (letter n)).length=k:=by simp
 rw[List.set_append_right _ _ (by omega),h1,Nat.sub_self,List.range_succ,List.map_append,List.append_assoc]
 congr 1
 obtain⟨m,hm⟩:∃m,32-k=m+1:=⟨31-k,by omega⟩;rw[hm,show 32-(k+1)=m by omega,List.replicate_succ];rfl
theorem Th (n:Nat) (hn:n≤1000000) (w:ae):ax ah 43 #[.int .i64 (n:Int)] w fun e w'=>e=.returned (.string (uj n))∧Below w.heap.size w w':=by
 have wW:=abb w
 go_enter Tryz.func43,Tryz.ntmps43
 go_wp2;have h0:ew (w.alloc (.cells D6 5)) w.heap.size bv (xq n 0):=ew.Qm w _ _ (by rw[acT];rfl);obtain⟨w1,lD⟩:=oQ (w.alloc (.cells D6 5));have aq:Below w.heap.size w w1:=by rw[←lD];exact aY _ _
 rw[lD] at h0⊢;clear lD wW
 go_loopw [4] (fun i wr=> ∃k:Nat,k≤32∧i=.int .i64 (k:Int)∧ew wr w.heap.size bv (xq n k)∧Below w.heap.size w wr) (fun i _=>match i with|.int _ k=>32-k.toNat|_=>0)
 case atStart=>exact⟨0,by omega,rfl,h0,aq⟩
 case round=>
  obtain⟨k,hk,rfl,hR,hB⟩:=hrel;have HR:=hZ hR;have HB:=hZ hB;clear h0 aq hR hB
  by_cases ar:k<32
  · obtain⟨j,hj⟩:=oQ (n+k)
    obtain⟨m,hm⟩:=oQ (j%26);obtain⟨c,hc⟩:=oQ (97+m);(have ajY:m<26:=by omega);(have d1:decide (k<32)=true:=by simp[ar]);(have d2:decide ((k:Int)<32)=true:=by simp;omega);(have z1:(0:Int)≤(k:Int):=by omega);(have z2:(k:Int)<32:=by omega);(have zL:aQ.wrap ((n:Int)+(k:Int))=(j:Int):=by rw[aS];omega);(have NG:aQ.wrap ((k:Int)+1)=((k+1:Nat):Int):=by rw[aS];omega);(have w3':aQ.wrap (97+(m:Int))=(c:Int):=by rw[aS];omega);(have w4':IntKind.u8.wrap (c:Int)=(c:Int):=by rw[IntKind.wrap_u8];omega);(have hp:dA (j:Int) 26=(m:Int):=by rw[←hm];exact al6 j 26);have hl:=ab3 n k hk;have ri:=HR.out.get (i:=k) (by omega);have Mj:=HR.out.free k (by omega);obtain⟨q,hq⟩:=oQ ((xq n k)[k]'(by omega));rw[hq] at ri;have w_:=HR.out.Tw k (by omega) (letter n k) (.int .u8 (c:Int)) (by unfold letter bv;rw[hj,hm,hc,UInt8.toNat_ofNat'];congr 1;omega);rw[amR n k ar] at w_;have PE:=hZ w_;have HP:=hZ hp;clear w_ hq hl hp
    go_wp2_with (first|(go_at_call 51;(with_reducible refine(S2 _ _ _ (by omega) (by omega) (by omega) (by omega)).mono ?_);rintro e2 w2 ⟨rfl,rfl⟩;rw[HP.out])|fail)
    go_round
    case rel=>exact⟨k+1,by omega,rfl,PE.out,HB.out.setCell (p:=⟨w.heap.size,k,none⟩) (aB _) _⟩
    case measure=>simp;omega
  · have d1:decide (k<32)=false:=by simp;omega
    (obtain rfl:k=32:=by omega);have hcv:=HR.out.convert (P:=ah) (cap:=32) (ab3 n 32 (aB _)) 116 9 5 Tryz.underlying116 Tryz.underlying5 Tryz.underlying9;(have hr:xq n 32=Ka n:=by unfold xq Ka;simp);rw[hr] at hcv;go_wp2;go_ret;exact⟨rfl,HB.out⟩
theorem abd (s:ByteArray) (w:ae):ax ah 50 #[.string s] w fun e w'=>e=.returned (.agg #[.string s,.string ⟨#[49]⟩])∧Below w.heap.size w w':=by
 go_enter Tryz.func50,Tryz.ntmps50
 go_wp2_with (first
  |(refine wpList_build rfl 29 #[(0,.tmp 3),(1,.const (.string ⟨#[49]⟩))] rfl #[.string s,.string ⟨#[49]⟩] (by kernel_rfl) ?_)
  |((with_reducible refine nK rfl 29 (.tmp 2) (.tmp 4) rfl rfl w.heap.size #[.string s,.string ⟨#[49]⟩] #[.string ⟨#[]⟩,.string ⟨#[]⟩] rfl ?hy ?hi (bG _ _) ?ho ?h1 ?_);(case hy=>rfl);(case hi=>kernel_rfl);(case ho=>rfl);(case h1=>simp[Value.oneCell']);intro w9 jl lB)
  |fail)
 have hr:w9.rangeAt w.heap.size 0 [.string s,.string ⟨#[49]⟩]:=fun k u hv=>aJ jl (by simpa using hv);refine et (vM rfl _ _ w.heap.size [.string s,.string ⟨#[49]⟩] _ rfl hr pM rfl (by kernel_rfl)) rfl ?_;exact⟨rfl,lB.below (aY w _) (aB _) (fun k hk=>by omega)⟩
end Go.Proofs.YteeifhlhpiimoaaGreatDoor
end
