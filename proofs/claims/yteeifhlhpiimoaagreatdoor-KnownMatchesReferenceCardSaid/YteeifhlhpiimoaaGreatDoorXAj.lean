/-
  A base that a call builds: nine owned rows apart from each other; what Of's lists are, plainly; the like for what stands beside it. No condition.
-/
import Derived.Test.YteeifhlhpiimoaaGreatDoorXAi
import Derived.Test.YteeifhlhpiimoaaGreatDoorXAa
import Derived.Shelf.SlSortCmp.NoneTotal
import Derived.Laws.StructEq
set_option maxHeartbeats 8000000
set_option maxRecDepth 100000
open And renaming intro→ay
open Array renaming all_eq_true_iff_forall_mem→acV,getElem?_eq_some_iff→fU
open Go renaming Calls→ax,Operand→ef,TypeId→bF,Value→ai,World→ae,maxLen→cH,yielded→gJ
open Go.Act renaming put→sV
open Go.Addr renaming add→jy
open Go.IntKind renaming i64→aQ,wrap_i64→aS
open Go.Proofs.Tryz renaming func56→ad1,ntmps56→aeS,prog→ah,underlying25→afs,underlying33→bk,underlying36→je
open Go.Region renaming wanted→eD
open Go.Result renaming andThen_ok→sX
open Go.Value renaming oneCell'→lH,slice→mi
open Go.World renaming alloc_heap_new→bG,cell?→sZ,rangeAt→k7
open List renaming getElem?_eq_getElem→bp,length_append→eV,length_singleton→uy,mem_cons→dG,mem_filter→Em,mem_range→agW,mem_singleton→fQ,not_mem_nil→gZ,pairwise_iff_forall_sublist→agX,setIfInBounds_toArray→ta,set_cons_succ→tc,set_cons_zero→td,take_add_one→gV,take_of_length_le→eE
open List.Pairwise renaming filter→Vh,imp→apH,nil→KN
open Nat renaming le_refl→aB
section
namespace Go.Proofs.YteeifhlhpiimoaaGreatDoor
open Go Go.RowKit Go.Shelf Go.Maps Wr
attribute [local go_sem] Oper.semAt_some
def oj {α:Type} (f:Nat→α) (j:Nat) (x:α) (i:Nat):α:=if i=j then x else f i
theorem qz {α:Type} (f:Nat→α) (j:Nat) (x:α):oj f j x j=x:=by unfold oj;rw[if_pos rfl]
theorem pK {α:Type} (f:Nat→α) {j i:Nat} (x:α) (h:i≠j):oj f j x i=f i:=by unfold oj;rw[if_neg h]
def nine (vf:Nat→ai):Array ai:=#[vf 0,vf 1,vf 2,vf 3,vf 4,vf 5,vf 6,vf 7,vf 8]
theorem J2 (vf:Nat→ai) {j:Nat} (h:j<9):(nine vf)[j]?=some (vf j):=by
 match j,h with
 |0,_=>rfl
 |1,_=>rfl
 |2,_=>rfl
 |3,_=>rfl
 |4,_=>rfl
 |5,_=>rfl
 |6,_=>rfl
 |7,_=>rfl
 |8,_=>rfl
theorem alB (vf:Nat→ai) {j:Nat} (h:j<9) (v:ai):(nine vf).setIfInBounds j v=nine (oj vf j v):=by
 match j,h with
 |0,_=>rfl
 |1,_=>rfl
 |2,_=>rfl
 |3,_=>rfl
 |4,_=>rfl
 |5,_=>rfl
 |6,_=>rfl
 |7,_=>rfl
 |8,_=>rfl
structure mm (w:ae) (N bB:Nat) (vf:Nat→ai) (lf:Nat→List af):Prop where
 fH:w.heap[bB]?=some (.cells (nine vf) 36 (0,0))
 row:∀j,j<9→OL w N 33 18 af.cells (vf j) (lf j)
 apart:∀i j,i<9→j<9→i≠j→∀g,(vf i).ownBlock=some g→(vf j).ownBlock≠some g
theorem ue {w:ae} {B:Nat} {e t:bF} {size:Nat} {f:af→List ai} {v:ai} {l:List af} (h:OL w B e size f v l) {b:Nat} {cs:Array ai} {fz:Nat×Nat} (hb:w.heap[b]?=some (.cells cs t fz)) (ht:t≠e):v.ownBlock≠some b:=fun q=>by
 rcases h.2 with⟨rfl,_⟩|⟨g,cap,cur,rfl,_,hg,_⟩
 · cases q
 · have:g=b:=by injection q
   subst this;rw[hb] at hg;injection hg with hg;injection hg with h1 h2 h3;exact ht h2
theorem mm.below {w w':ae} {N bB:Nat} {vf:Nat→ai} {lf:Nat→List af} (h:mm w N bB vf lf) (hb:Below w.heap.size w w'):mm w' N bB vf lf:=
 ⟨(hb.block _ (fU.1 h.fH).1).trans h.fH,fun j hj=>(h.row j hj).below hb (aB _),h.apart⟩
theorem mm.put {w w1:ae} {N bB:Nat} {vf:Nat→ai} {lf:Nat→List af} (h:mm w N bB vf lf) {j:Nat} (hj:j<9) {v':ai} {l':List af} (hg:aO (fun q=>(vf j).ownBlock=some q) w w1) (ho:OL w1 N 33 18 af.cells v' l')
 (hv':∀g,v'.ownBlock=some g→(vf j).ownBlock=some g∨w.heap.size≤g):mm (w1.setCell ⟨bB,j,none⟩ v') N bB (oj vf j v') (oj lf j l'):=by
 have ar:bB<w.heap.size:=(fU.1 h.fH).1;have aq:w1.heap[bB]?=some (.cells (nine vf) 36 (0,0)):=(hg.block bB ar (ue (h.row j hj) h.fH (by decide))).trans h.fH
 have aA:(w1.setCell ⟨bB,j,none⟩ v').heap[bB]?=some (.cells (nine (oj vf j v')) 36 (0,0)):=by
  rw[←alB vf hj v'];simp only[World.setCell,Array.getElem?_modify,aq];simp
 have keep:∀{v l},OL w1 N 33 18 af.cells v l→OL (w1.setCell ⟨bB,j,none⟩ v') N 33 18 af.cells v l:=fun{v l} q=>q.keep fun g Dw=>Below.heap_setCell _ _ _ _ fun e=>ue q aq (by decide) (by rw[Dw,e]);refine⟨aA,fun i hi=>?_,fun i k hi hk bf g Fq=>?_⟩
 · by_cases dh:i=j
   · subst dh;rw[qz,qz];exact keep ho
   · rw[pK vf v' dh,pK lf l' dh]
     refine keep ((h.row i hi).keep fun g Dw=>hg.block g ((h.row i hi).lt g Dw).2 fun e=>?_);exact h.apart i j hi hj dh g Dw e
 · by_cases dh:i=j
   · subst dh
     rw[qz] at Fq;rw[pK vf v' (fun e=>bf e.symm)];intro e;rcases hv' g Fq with q|q
     · exact h.apart i k hi hk bf g q e
     · have:=((h.row k hk).lt g e).2;omega
   · rw[pK vf v' dh] at Fq
     by_cases Fu:k=j
     · subst Fu
       rw[qz];intro e;rcases hv' g e with q|q
       · exact h.apart i k hi hk dh g Fq q
       · have:=((h.row i hi).lt g Fq).2;omega
     · rw[pK vf v' Fu]
       exact h.apart i k hi hk bf g Fq
theorem mm.aop {w w1:ae} {N bB:Nat} {vf:Nat→ai} {lf:Nat→List af} (h:mm w N bB vf lf) {j:Nat} (hj:j<9) {l':List af} (hg:aO (fun q=>(vf j).ownBlock=some q) w w1) (ho:OL w1 N 33 18 af.cells (vf j) l'):mm w1 N bB vf (oj lf j l'):=by
 have ar:bB<w.heap.size:=(fU.1 h.fH).1;refine⟨(hg.block bB ar (ue (h.row j hj) h.fH (by decide))).trans h.fH,fun i hi=>?_,h.apart⟩
 by_cases dh:i=j
 · subst dh;rw[qz];exact ho
 · rw[pK lf l' dh]
   exact(h.row i hi).keep fun g Dw=>hg.block g ((h.row i hi).lt g Dw).2 fun e=>h.apart i j hi hj dh g Dw e
def addrOf:ai→Option Addr
 |.slice A _ _=>A
 |_=>none
def yw:ai→Nat
 |.slice _ _ c=>c
 |_=>0
theorem OL.FZ {α:Type} {w:ae} {B n c size:Nat} {T:bF} {f:α→List ai} {A:Option Addr} {l:List α} (h:OL w B T size f (.slice A n c) l):A=none→c=0:=by
 intro e;rcases h.2 with⟨h1,_⟩|⟨g,cap,cur,h1,_⟩
 · injection h1
 · injection h1 with h1 _ _;rw[e] at h1;cases h1
def BH (vf:Nat→ai) (lf:Nat→List af):bP:=⟨lf,fun i=>addrOf (vf i),fun i=>yw (vf i)⟩
theorem mm.eA {w:ae} {N bB:Nat} {vf:Nat→ai} {lf:Nat→List af} (h:mm w N bB vf lf):(BH vf lf).val=.agg (nine vf)∧dH w (bV w) (BH vf lf):=by
 have hv:∀j,j<9→mi (addrOf (vf j)) (lf j).length (yw (vf j))=vf j:=fun j hj=>by
  obtain⟨A,cap,e,_,_⟩:=(h.row j hj).slice;rw[e];rfl
 refine⟨?_,⟨fun i hi=>?_,fun i hi=>?_,fun i hi=>?_⟩⟩
 · unfold bP.val bP.cells BH nine
   simp only[hv 0 (by decide),hv 1 (by decide),hv 2 (by decide),hv 3 (by decide),hv 4 (by decide),hv 5 (by decide),hv 6 (by decide),hv 7 (by decide),hv 8 (by decide)]
 · have hr:=h.row i hi
   obtain⟨A,cap,e,_,_⟩:=hr.slice;show eW w (bV w) (addrOf (vf i)) (lf i);rw[e] at hr⊢;refine eW.iW hr fun b hb=>?_;exact(hr.lt b (by show Value.ownBlock (mi A _ _)=some b;rw[show A=some ⟨b,0,none⟩ from hb];rfl)).2
 · have hr:=h.row i hi
   obtain⟨A,cap,e,h1,h2⟩:=hr.slice;show(lf i).length≤yw (vf i)∧yw (vf i)≤cH;rw[e];exact⟨h1,h2⟩
 · have hr:=h.row i hi
   obtain⟨A,cap,e,_,_⟩:=hr.slice;show addrOf (vf i)=none→yw (vf i)=0;rw[e] at hr⊢;exact hr.FZ
def gB (l:List af) (day:Int) (j:Nat):List af:=dc (dP cD) ((eG l day).filter fun e=>decide (e.kind=((j+1:Nat):Int)))
theorem abj (e:af):cD e=e.num (oW e.kind):=by
 unfold cD oW
 by_cases h:e.kind=2∨e.kind=8∨e.kind=6
 · rw[if_pos h,if_pos (by omega)];rfl
 · rw[if_neg h,if_neg (by omega)];rfl
theorem akN {e f:af} (he:bE e=true) (hf:bE f=true) (hk:e.kind=f.kind) (hn:cD e=cD f):aI e=aI f:=by
 unfold aI;rw[if_pos he,if_pos hf,hk];rw[abj,abj,hk] at hn;rw[hn]
theorem Xp {l:List af} {k:Int} (hd:ib aI l) (hv:∀e∈l,bE e=true∧e.kind=k):ti (dP cD) l:=by
 unfold ti ib at*;refine(agX.2 fun{a b} d_=>?_);have ha:=hv a (d_.subset (by simp));have hb:=hv b (d_.subset (by simp));have bf:=(agX.1 hd) d_;have:cD a≠cD b:=fun e=>bf (akN ha.1 hb.1 (ha.2.trans hb.2.symm) e);unfold dP;simp only[decide_eq_true_eq];omega
theorem QD (l:List af) (day:Int):∀e∈eG l day,e∈l∧bE e=true∧e.day≤day∧e.gone=false:=fun e he=>by
 unfold eG at he;obtain⟨h1,h2⟩:=Em.1 he;obtain⟨h3,h4⟩:=QE (ok:=eT day) (key:=aI) (prev:=dF) l e h1;unfold eT at h4;simp only[Bool.and_eq_true,decide_eq_true_eq] at h4;exact⟨h3,h4.1,h4.2,by simpa using h2⟩
theorem aiU (l:List af) (day:Int):ib aI (eG l day):=Vh _ (Yb l)
theorem akS {l:List af} {day:Int} {j:Nat} {m m':List af} (hd:ib aI m) (hm:∀e,e∈m↔e∈eG l day∧e.kind=((j+1:Nat):Int)) (hp:m'.Perm m) (hu:Up (dP cD) m'):m'=gB l day j:=by
 have a1:ti (dP cD) m:=Xp (k:=((j+1:Nat):Int)) hd fun e he=>⟨(QD l day e ((hm e).1 he).1).2.1,((hm e).1 he).2⟩;rw[aco (E0 cD) hu hp a1];refine anv (E0 cD) a1 ?_ fun x=>?_
 · refine Xp (k:=((j+1:Nat):Int)) (Vh _ (aiU l day)) fun e he=>?_
   obtain⟨h1,h2⟩:=Em.1 he;exact⟨(QD l day e h1).2.1,by simpa using h2⟩
 · rw[hm x,Em];simp
theorem kJ.size_le {w:ae} {b n:Nat} {D:DataW af} (h:w.ownsMap ah 9 qy b n D):Maps.size D≤n:=by
 obtain⟨es,clock,_,_,hs,rfl⟩:=h;show((es.toList.map _).foldr DataW.insert []).length≤n;rw[length_sorted];simpa using hs
theorem mZ:gi ah 25 33 18 200:=gi.mk' (z:=aW.val) afs (by kernel_rfl) rfl (by decide)
def Ie (acc:List af) (left:Lit→Bool) (lf:Nat→List af):Prop:=∀j,j<9→ib aI (lf j)∧∀e,e∈lf j↔e∈acc∧e.kind=((j+1:Nat):Int)∧left (il (aI e))=false
theorem Ie.step {acc:List af} {left:Lit→Bool} {lf:Nat→List af} (h:Ie acc left lf) (hk:ib aI acc) {c:af} (hc:c∈acc) {j:Nat} (hj:c.kind=((j+1:Nat):Int)) (hl:left (il (aI c))=true):
 Ie acc (fun z=>left z&& !z.sameKey (il (aI c))) (oj lf j (lf j++[c])):=by
 have hn:∀i,i<9→∀e∈lf i,aI e≠aI c:=fun i hi e he q=>by
  obtain⟨h1,_,h3⟩:=((h i hi).2 e).1 he;rw[q,hl] at h3;cases h3
 have Jj:∀e∈acc,((left (il (aI e))&& !(il (aI e)).sameKey (il (aI c)))=false↔e=c∨left (il (aI e))=false):=fun e he=>by
  by_cases Rv:aI e=aI c
  · obtain rfl:=hk.one he hc Rv
    rw[acs];simp
  · rw[TB left _ (fun q=>Rv (FT q))]
    constructor
    · exact .inr
    · rintro(q|q)
      · exact(Rv (by rw[q])).elim
      · exact q
 intro i hi
 by_cases dh:i=j
 · subst dh
   rw[qz];refine⟨List.pairwise_append.2 ⟨(h i hi).1,List.pairwise_singleton _ _,fun a ha b hb=>?_⟩,fun e=>?_⟩
   · rw[fQ.1 hb];exact hn i hi a ha
   · rw[List.mem_append,fQ,(h i hi).2 e]
     constructor
     · rintro(⟨h1,h2,h3⟩|rfl)
       · exact⟨h1,h2,(Jj e h1).2 (.inr h3)⟩
       · exact⟨hc,hj,(Jj e hc).2 (.inl rfl)⟩
     · rintro⟨h1,h2,h3⟩
       rcases(Jj e h1).1 h3 with rfl|q
       · exact .inr rfl
       · exact .inl ⟨h1,h2,q⟩
 · rw[pK _ _ dh]
   refine⟨(h i hi).1,fun e=>?_⟩;rw[(h i hi).2 e];constructor
   · rintro⟨h1,h2,h3⟩
     exact⟨h1,h2,(Jj e h1).2 (.inr h3)⟩
   · rintro⟨h1,h2,h3⟩
     refine⟨h1,h2,?_⟩;rcases(Jj e h1).1 h3 with rfl|q
     · rw[hj] at h2;exact(dh (by omega)).elim
     · exact q
theorem zt {w:ae} {b r n:Nat} {D:DataW af} {left:Lit→Bool} {AJ:Nat} (h:w.ranges ah 9 qy b r n D left AJ) {g:Nat} {cs:Array ai} {t:bF} {fz:Nat×Nat} (hg:w.heap[g]?=some (.cells cs t fz)):b≠g∧r≠g:=by
 obtain⟨es,clock,since,seen,c0,h1,_,_,_,h2,_⟩:=h;constructor
 · intro e;subst e;rw[h1] at hg;cases hg
 · intro e;subst e;rw[h2] at hg;cases hg
theorem SZ {w:ae} {N:Nat} {v:ai} {l:List af} (h:OL w N 33 18 af.cells v l) {g:Nat} (hg:v.ownBlock=some g):∃cs,w.heap[g]?=some (.cells cs 33 (0,0)):=by
 rcases h.2 with⟨rfl,_⟩|⟨g',cap,cur,rfl,_,h2,_⟩
 · cases hg
 · have:g'=g:=by injection hg
   subst this;exact⟨_,h2⟩
theorem Fc {w w':ae} {row:Option Nat} (h:w.grownBy w' row):aO (fun q=>row=some q) w w':=⟨h.os,h.tape,h.output,h.size,fun k hk hz=>h.block k hk (fun e=>hz e.symm)⟩
theorem mm.turns {w w':ae} {N bB:Nat} {vf:Nat→ai} {lf:Nat→List af} {Z:Nat→Prop} (h:mm w N bB vf lf) (t:aO Z w w') (hz:∀k cs T fz,w.heap[k]?=some (.cells cs T fz)→¬Z k):mm w' N bB vf lf:=
 ⟨(t.block _ (fU.1 h.fH).1 (hz _ _ _ _ h.fH)).trans h.fH,fun j hj=>(h.row j hj).keep fun g hg=>by
   obtain⟨cs,hc⟩:=SZ (h.row j hj) hg
   exact t.block g ((h.row j hj).lt g hg).2 (hz _ _ _ _ hc),h.apart⟩
theorem ma (e:af):∀u∈e.cells,u.oneCell'=true:=fun u hu=>by
 have:=rC e;rw[acV] at this;exact this u (by simpa using hu)
theorem zx (w:ae) (e:af):(Instr.buildSlice 25 1 #[(0,e.val)]).run ah w=.ok (.slice (some ⟨w.heap.size,0,none⟩) 1 1) (w.alloc (.cells e.cells.toArray 33)):=by
 obtain⟨i,h1,h2,h3,h4⟩:=info_parts (show(ah.info? 33).map (fun i=>(i.zero,i.size,i.bytes))=some (some aW.val,18,200) by kernel_rfl);refine run_buildSlice w 25 33 1 _ e.cells.toArray i aW.val afs h1 h2 (by rw[h3];decide) (by rw[h3];decide) ?_;rw[h3]
 kernel_rfl
theorem acq {ops:Array Oper} {o:Oper} {a:Act} {w:ae} {K:Act→ae→Prop} {Q:Exit→Act→ae→Prop} {D:Prop} (ct:o.guard=none) (x:ef) (ho:o.op=.buildSlice 25 1 #[(0,x)]) (e:af) (hx:a.eval x=e.val)
 (hk:∀b V,w.heap.size=b→Below b w V→V.heap[b]?=some (.cells e.cells.toArray 33 (0,0))→K (a.put o.dst (.slice (some ⟨b,0,none⟩) 1 1)) V):
 if eD o (gJ ops a.tmps)=true then Oper.wp ah o a w K Q else D:=by
 have hw:eD o (gJ ops a.tmps)=true:=by simp[eD,ct]
 rw[if_pos hw];have h:=hk _ _ rfl (aY w (.cells e.cells.toArray 33)) (bG w _);unfold Oper.wp execOp;have hr:=zx w e;obtain⟨z,hz⟩:=oQ (e.val);rw[hz] at hr hx;simp only[ho,List.map_toArray,List.map_cons,List.map_nil,hx,Sem.run_bind,hr,sX];exact h
def sP:Array ai:=nine fun _=>.slice none 0 0
theorem MN (x y:af):ltOf (fun x y:af=>dZ (cD x) (cD y)) x y=dP cD x y:=by
 unfold ltOf dZ dP
 by_cases h1:cD x<cD y
 · simp[h1]
 · by_cases h2:cD y<cD x<;>simp[h1,h2]
theorem anY:Go.Sort.SWO (ltOf fun x y:af=>dZ (cD x) (cD y)) where
 irrefl x:=by rw[MN];simp[dP]
 trans x y z h1 h2:=by rw[MN] at*;simp[dP] at*;omega
 ntrans x y z h1 h2:=by rw[MN] at*;simp[dP] at*;omega
theorem anB {w:ae} {N:Nat} {v:ai} {l:List af} (h:OL w N 33 18 af.cells v l) (hl:l.length≤1000000):
 ax ah 58 #[v,.func (.func 59) #[] #[]] w fun r w'=>r=.returned (.tuple #[])∧∃l',OL w' N 33 18 af.cells v l'∧l'.Perm l∧Up (ltOf fun x y=>dZ (cD x) (cD y)) l'∧aO (fun q=>v.ownBlock=some q) w w':=
 acm Tryz.Nq 18 (by decide) Tryz.isAgg33 Tryz.sizeOf33 af.cells (fun _=>rfl) (fun x u hu=>ma x u hu) (fun x y=>dZ (cD x) (cD y)) anY 59
  (enters_of Tryz.func59 (by kernel_rfl) rfl) (fun x y W=>alE x y W) (fun w=>AnyF.slices_SortFunc_none Tryz.Nq none 0 _ w) h (by omega)
theorem J0 (l:List af) (day:Int) (A:Option Addr) (n c:Nat) (hn:l.length=n) (hm:n≤1000000) (w:ae) (hA:eW w (bV w) A l) (hw:∀e∈l,e.oE) (hp:dY w):
 ax ah 15 #[.slice A n c,.int .i64 day] w fun e w'=> ∃B:bP,e=.returned B.val∧dH w' (bV w') B∧(∀j,j<9→B.ls j=gB l day j)∧Below w.heap.size w w':=by
 have HA:=hZ hA;have CP:=hZ hw;have HP:=hZ hp;have HN:=hZ hn;have HM:=hZ hm;have IE:=fun e:af=>hZ (di (e:=e));clear hA hw hp hn
 go_enter Tryz.func15,Tryz.ntmps15
 go_wp2_with fail;have dB:=hZ (At.start w);obtain⟨b0,w0,q1,q2,q3,hf,bU⟩:=dB.out.eX (.cells sP 36);obtain⟨bB,w1,r1,r2,r3,eZ,aP⟩:=hf.eX (.cells sP 36);rw[bU] at r1;simp only[sP,nine] at q2 r2;rw[q1,q2,r1,r2];have au:=hZ eZ;have bA:Hid (w.heap.size≤bB∧w.heap.size≤b0):=hZ ⟨r3,q3⟩;have eu:Hid (b0≠bB):=hZ (by omega);clear dB q1 q2 q3 hf bU r1 r2 r3 eZ aP
 go_wp2_with (first
  | (go_at_call 55;(with_reducible refine(SJ bB _).mono ?_);rintro e2 w2 ⟨rfl,aA⟩
     have fV:=hZ (au.out.step aA)
     clear aA)
  | ((with_reducible refine nK rfl 96 (.tmp 6) (.tmp 11) rfl rfl w2.heap.size (im bB).toArray _ rfl rfl ?hi (bG w2 _) ?ho ?h1 ?_);(case hi=>kernel_rfl);(case ho=>rfl);(case h1=>simp[im,lH]);intro w3 fh kR
     have aK:Below w2.heap.size w2 w3:=kR.below (aY w2 _) (aB _) (fun k hk=>by omega);have j8:=hZ ((fV.out.step aK).cons fh);obtain⟨b6,eB⟩:=oQ (w2.heap.size);rw[eB] at j8;rw[eB]
     clear fh kR aK eB)
  | (go_at_call 57;(with_reducible refine(aiX l day A n c HN.out HM.out w3 (HA.out.below j8.out.below) CP.out (HP.out.below j8.out.below)).mono ?_);rintro e4 w4 ⟨bm,rfl,-,hm4,cQ⟩
     have j9:=hZ (j8.out.step cQ);obtain⟨D,jq,wZ⟩:=hm4;have CI:=hZ wZ;have gM:=hZ (kJ.size_le jq)
     clear cQ wZ)
  | (at_range;refine wpList_range_own _ rfl _ 100 rfl 9 33 DT Tryz.underlying100 qy bm n _ rfl jq ?_;intro w5 aae mE JF
     have lK:=hZ (j9.out.step (V':=w5) ⟨mE.os,mE.tape,mE.output,mE.size,fun k hk=>mE.block k hk (by simp)⟩);have Ln:=hZ aae
     clear aae mE JF)
  |fail)
 obtain⟨r,hr⟩:=oQ (w4.heap.size);rw[hr] at Ln;have HR:Hid (w.heap.size≤r):=hZ (by rw[←hr];exact j9.out.below.size);rw[hr];clear hr
 go_frame
 have sC:mm w5 w.heap.size bB (fun _=>.slice none 0 0) (fun _=>[]):=⟨lK.out.has (bB,.cells sP 36 (0,0)) (by simp),fun _ _=>OL.nil,fun _ _ _ _ _ g hg=>by cases hg⟩
 have YG:Ie (eG l day) (has D) (fun _=>[]):=fun j hj=>⟨KN,fun e=>by
  constructor
  · intro h;cases h
  · rintro⟨h1,h2,h3⟩
    rw[CI.out.has h1] at h3;cases h3⟩
 have de:=hZ sC;have Po:=hZ YG;obtain⟨C,hC⟩:=oQ (Maps.size D);rw[hC] at Ln gM;have HC:Hid (C≤n):=gM;have uQ:Hid (w5.heap[b6]?=some (.cells (im bB).toArray 96 (0,0))):=hZ (lK.out.has (b6,_) (by simp));have W6:Hid (w5.heap[b0]?=some (.cells sP 36 (0,0))):=hZ (lK.out.has (b0,.cells sP 36 (0,0)) (by simp));have cT:Hid (Below w.heap.size w w5):=hZ lK.out.below;clear sC YG hC au fV j8 j9 lK gM jq
 go_loopw [16] (fun _ wr=> ∃(vf:Nat→ai) (lf:Nat→List af) (left:Lit→Bool) (AJ:Nat),wr.ranges ah 9 qy bm r n D left AJ∧mm wr w.heap.size bB vf lf∧Ie (eG l day) left lf∧(∀j,j<9→(lf j).length+AJ≤C)∧wr.heap[b6]?=some (.cells (im bB).toArray 96 (0,0))∧wr.heap[b0]?=some (.cells sP 36 (0,0))∧Below w.heap.size w wr)
  (fun _ wr=>wr.rangeLeft bm r)
 case atStart=>exact⟨_,_,_,_,Ln.out,de.out,Po.out,fun j hj=>by simp,uQ.out,W6.out,cT.out⟩
 case round=>
  obtain⟨vf,lf,left,AJ,cP,lX,n_,gG,xa,nD,oO⟩:=hrel;have VI:=hZ lX;have Ps:=hZ n_;have dO:=hZ gG;have EI:=hZ xa;have Ax:=hZ nD;have fi:=hZ oO;clear lX n_ gG xa nD oO Ln de Po uQ W6 cT
  go_wp2_with (first
   |(at_next;refine wpList_next_ranges _ rfl _ rfl 9 DT qy Value.string af.val (fun _ _ q=>aaQ q) (fun v y q=>(J5 q).imp fun _ q=>q.1) bm r n _ _ _ rfl cP ?_ ?_)
   |fail)
  · intro _ qn
    have tS:∀j,j<9→ib aI (lf j)∧∀e,e∈lf j↔e∈eG l day∧e.kind=((j+1:Nat):Int):=fun j hj=>⟨(Ps.out j hj).1,fun e=>by rw[(Ps.out j hj).2 e];simp[qn]⟩;(have ZM:∀j,j<9→(lf j).length≤1000000:=fun j hj=>by have:=dO.out j hj;have:=HC.out;have:=HM.out;omega);have VU:=hZ tS;have jR:=hZ ZM;clear tS ZM qn cP;go_wp2_with fail;obtain⟨wo,rfl⟩:∃wo:ae,wo=wr:=⟨_,rfl⟩
    go_loopw [36] (fun v NK=> ∃(i:Nat) (zk:Nat→List af),v=.int .i64 (i:Int)∧i≤9∧mm NK w.heap.size bB vf zk∧(∀j,j<9→zk j=if j<i then gB l day j else lf j)∧NK.heap[b6]?=some (.cells (im bB).toArray 96 (0,0))∧NK.heap[b0]?=some (.cells sP 36 (0,0))∧Below w.heap.size w NK) (fun v _=>match v with|.int _ k=>9-k.toNat|_=>0)
    case atStart=>exact⟨0,lf,rfl,by omega,VI.out,fun j hj=>by rw[if_neg (by omega)],EI.out,Ax.out,fi.out⟩
    case round=>
     obtain⟨i,zk,rfl,hi,lX,heq,xa,nD,oO⟩:=hrel;have rU:=hZ lX;have nS:=hZ heq;have Lt:=hZ xa;have sn:=hZ nD;have rV:=hZ oO;clear lX heq xa nD oO
     by_cases ar:i<9
     · have d1:decide (i<9)=true:=by simp[ar]
       (have z1:(0:Int)≤(i:Int):=by omega);(have z2:(i:Int)<9:=by omega);(have NG:aQ.wrap ((i:Int)+1)=((i+1:Nat):Int):=by rw[aS];omega);(have c1:wr.cell? ⟨b6,1+i,none⟩=some (.pointer (some ⟨bB,i,none⟩)):=by rw[Nat.add_comm];exact aJ Lt.out (by simpa using M2 bB i ar));have c2:=aJ rU.out.fH (J2 vf ar);obtain⟨Ai,ci,JQ,-,-⟩:=(rU.out.row i ar).slice;obtain⟨ni,ZT⟩:=oQ ((zk i).length);rw[ZT] at JQ;rw[JQ] at c2;have HS:Hid (ax ah 58 #[.slice Ai ni ci,.func (.func 59) #[] #[]] wr fun e w'=>e=.returned (.tuple #[])∧∃l',OL w' w.heap.size 33 18 af.cells (.slice Ai ni ci) l'∧l'.Perm (zk i)∧Up (ltOf fun x y=>dZ (cD x) (cD y)) l'∧aO (fun q=>(mi Ai ni ci).ownBlock=some q) wr w'):=hZ (anB (by rw[←JQ];exact rU.out.row i ar) (by rw[nS.out i ar,if_neg (by omega)];have:=jR.out i ar;omega));have WU:=hZ JQ;clear JQ ZT
       go_wp2_with (first
        | (go_at_call 58;(with_reducible refine HS.out.mono ?_);rintro e3 w3 ⟨rfl,l',FC,rm,lC,kR⟩
           have jf:=hZ FC;have Lc:=hZ rm;have HU3:=hZ lC;have sh:=hZ kR
           clear FC rm lC kR)
        |fail)
       have cL:=rU.out.row i ar;(have kR:aO (fun q=>(vf i).ownBlock=some q) wr w3:=by rw[WU.out];exact sh.out);have YZ:=rU.out.aop ar kR (by rw[WU.out];exact jf.out);have aam:=(kR.block b6 (bt Lt.out) (ue cL Lt.out (by decide))).trans Lt.out;have hz3:=(kR.block b0 (bt sn.out) (ue cL sn.out (by decide))).trans sn.out;have aK:=kR.below rV.out (aB _) (fun k hk=>(cL.lt k hk).1)
       have Zl:l'=gB l day i:=by
        (have h0:zk i=lf i:=by rw[nS.out i ar,if_neg (by omega)]);refine akS (VU.out i ar).1 (VU.out i ar).2 (by rw[←h0];exact Lc.out) ?_;exact apH (fun{a b} q=>by rw[MN] at q;exact q) HU3.out
       have kC:=hZ (ay YZ (ay aam (ay hz3 (ay aK Zl))));clear cL kR YZ aam hz3 aK Zl
       go_round
       case rel=>
        refine⟨i+1,_,rfl,by omega,kC.out.1,fun j hj=>?_,kC.out.2.1,kC.out.2.2.1,kC.out.2.2.2.1⟩
        by_cases Dx:j=i
        · subst Dx;rw[qz,if_pos (by omega)];exact kC.out.2.2.2.2
        · rw[pK _ _ Dx,nS.out j hj]
          by_cases pB:j<i
          · rw[if_pos pB,if_pos (by omega)]
          · rw[if_neg pB,if_neg (by omega)]
       case measure=>simp;omega
     · have d1:decide (i<9)=false:=by simp;omega
       (obtain rfl:i=9:=by omega);have Mx:wr.rangeAt bB 0 (nine vf).toList:=fun k v hv=>aJ rU.out.fH (by simpa using hv);have bf:=eu.out
       have Zu:∀u∈(nine vf),u.oneCell'=true:=fun u hu=>by
        have hv:∀j,j<9→(vf j).oneCell'=true:=fun j hj=>by
         obtain⟨A,cap,e,_,_⟩:=(rU.out.row j hj).slice;rw[e];rfl
        simp only[nine,List.mem_toArray,dG,gZ,or_false] at hu;rcases hu with h|h|h|h|h|h|h|h|h
        · rw[h];exact hv 0 (by decide)
        · rw[h];exact hv 1 (by decide)
        · rw[h];exact hv 2 (by decide)
        · rw[h];exact hv 3 (by decide)
        · rw[h];exact hv 4 (by decide)
        · rw[h];exact hv 5 (by decide)
        · rw[h];exact hv 6 (by decide)
        · rw[h];exact hv 7 (by decide)
        · rw[h];exact hv 8 (by decide)
       have Lj:=hZ Mx;have HGD:=hZ Zu;clear Mx Zu
       go_wp2_with (first
        |((with_reducible refine wpList_load_mid rfl 36 (.tmp 5) rfl bB 0 ?hx (nine vf).toList _ Lj.out je rfl ?hi ?_);(case hx=>rfl);(case hi=>kernel_rfl))
        | ((with_reducible refine nK rfl 36 (.tmp 4) (.tmp 45) rfl rfl b0 (nine vf) sP rfl ?hy ?hi sn.out ?ho ?h1 ?_);(case hy=>rfl);(case hi=>kernel_rfl);(case ho=>rfl);(case h1=>rw[acV];exact HGD.out);intro w9 jl lB
           have wb:=hZ jl;have Hw:=hZ lB
           clear jl lB)
        |fail)
       have YY:mm w9 w.heap.size bB vf zk:=⟨(Hw.out.block bB (bt rU.out.fH) (fun e=>eu.out e.symm)).trans rU.out.fH,fun j hj=>(rU.out.row j hj).keep fun g hg=>Hw.out.block g ((rU.out.row j hj).lt g hg).2 (fun e=>ue (rU.out.row j hj) sn.out (by decide) (by rw[hg,e])),rU.out.apart⟩;have cZ:Below w.heap.size w w9:=Hw.out.below rV.out (aB _) (fun k hk=>by have:=bA.out.2;omega);have Se:w9.rangeAt b0 0 (nine vf).toList:=fun k v hv=>aJ wb.out (by simpa using hv);refine bodyPost_ret (vM rfl _ _ b0 (nine vf).toList _ rfl Se je rfl (by kernel_rfl)) rfl ?_;refine⟨BH vf zk,?_,YY.eA.2,fun j hj=>?_,cZ⟩
       · rw[YY.eA.1]
       · show zk j=_
         rw[nS.out j hj,if_pos (by omega)]
  · intro x ce kl yd yp w6 aiq Mr Ms hv mD za ar ep aP Dt
    obtain⟨e,he,rfl,zg⟩:=CI.out.out mD;obtain⟨c2,eo,oV⟩:=J5 hv;obtain rfl:ce=c2:=af.val_inj eo
    have hce:ce=e:=by
     have:=congrArg Prod.fst oV;simp only at this;rw[zg] at this;injection this with this;exact this.symm
    subst hce;have hval:=(QD l day ce he).2.1
    obtain⟨j,Mq,Fu⟩:∃j:Nat,j<9∧ce.kind=((j+1:Nat):Int):=by
     have:=ND hval;exact⟨(ce.kind-1).toNat,by omega,by omega⟩
    have sN:=Fc ep;have zi:∀k cs T fz,wr.heap[k]?=some (.cells cs T fz)→¬(some r=some k):=fun k cs T fz hk e=>(zt cP hk).2 (by injection e);have WA:=hZ za;have KY:=hZ (VI.out.turns sN zi);have WN:Hid (w6.heap[b6]?=some (.cells (im bB).toArray 96 (0,0))):=hZ ((sN.block _ (fU.1 EI.out).1 (zi _ _ _ _ EI.out)).trans EI.out);have W_:Hid (w6.heap[b0]?=some (.cells sP 36 (0,0))):=hZ ((sN.block _ (fU.1 Ax.out).1 (zi _ _ _ _ Ax.out)).trans Ax.out);have VK:=hZ (sN.below fi.out (aB _) (fun k e=>by injection e with e;have:=HR.out;omega));have Wv:=hZ (Ps.out.step CI.out.BE he Fu Ms);have aL:=hZ ar;have Hs:=hZ cP;have HJ:=hZ (ay Mq Fu);clear Mr Ms hv mD za ar ep aP eo oV zg he cP hval sN zi;obtain⟨Aj,cj,Sv,-,-⟩:=(KY.out.row j Mq).slice;obtain⟨nj,RV⟩:=oQ ((lf j).length);rw[RV] at Sv;have kh:=hZ (ay Sv RV);(have Jm:nj<C:=by have:=dO.out j Mq;have:=aL.out;omega);have qQ:Hid (nj+1≤1000000):=hZ (by have:=HC.out;have:=HM.out;omega);obtain⟨kN,Bk⟩:=oQ (j+1);have oA:=hZ Bk;(have z1:(0:Int)≤(kN:Int):=by omega);(have z2:(kN:Int)<10:=by omega);clear Sv RV Jm Bk Mq Fu
    go_wp2_with (first
     | ((with_reducible refine oh rfl (.tmp 8) (.tmp 19) rfl rfl ce rfl rfl ?hi ?ho ?_);(case hi=>exact(IE ce).out);(case ho=>rfl);intro w7 gS dE sM
        have EG:=hZ (WA.out.kept (sz dE) (by simp) (by simp));have VJ:=hZ (KY.out.below dE);have WO:=ak dE WN;have Xa:=ak dE W_;have VL:=aw VK dE;obtain⟨b8,eN⟩:=oQ (w6.heap.size);have pb:Hid (∀i,i<9→∀g,(vf i).ownBlock=some g→g<b8):=hZ (fun i hi g hg=>by have:=((KY.out.row i hi).lt g hg).2;omega);rw[eN] at gS;rw[eN];have tr:=hZ gS
        clear gS dE sM eN)
     |fail)
    obtain⟨U,hU⟩:=oQ (w7.drew);(have Dk:Below w7.heap.size w7 U:=by rw[←hU];exact Below.drew (Below.refl _ _));have cX:=hZ (EG.out.kept (sz Dk) (by simp) (by simp));have iY:=hZ (VJ.out.below Dk);have mV:=ak Dk WO;have wE:=ak Dk Xa;have vZ:=aw VL Dk;have nR:=hZ (tr.out.below Dk)
    have hcell:∀V:ae,aR V b8 ce→V.cell? ⟨b8,0,none⟩=some (.int .i64 (kN:Int)):=fun V q=>by
     have:=q.cell (i:=0) rfl;rw[HJ.out.2,oA.out] at this;exact this
    have JK:∀V:ae,V.heap[b6]?=some (.cells (im bB).toArray 96 (0,0))→V.cell? ⟨b6,kN,none⟩=some (.pointer (some ⟨bB,j,none⟩)):=fun V q=>aJ q (by rw[←oA.out];simpa using M2 bB j HJ.out.1);have Ev:=hZ hcell;have iM:=hZ JK;(have bu:aR w7.drew b8 ce∧w7.drew.cell? ⟨b8,0,none⟩=some (.int .i64 (kN:Int))∧w7.drew.cell? ⟨b6,kN,none⟩=some (.pointer (some ⟨bB,j,none⟩)):=by rw[hU];exact⟨nR.out,hcell _ nR.out,JK _ mV.out⟩);clear WA KY WN W_ VK EG VJ WO Xa VL tr Dk hcell JK;refine cJ (fun V=>aR V b8 ce∧V.cell? ⟨b8,0,none⟩=some (.int .i64 (kN:Int))∧V.cell? ⟨b6,kN,none⟩=some (.pointer (some ⟨bB,j,none⟩))) bu fun hHeld=>?_;rw[hU] at hHeld⊢;clear bu hU;refine bg 0 1 2 3 ?_;refine bg 4 5 6 7 ?_;refine tk 8 ?_;refine tl 10 rfl (yx b8 0 (IE ce).out bk (fun w hw=>bl hw.1)) ?_;refine rd [9,11] ?_;refine rc (fun K hK=>?_) ?_
    ·
     have c9:=aJ iY.out.fH (J2 vf HJ.out.1);rw[kh.out.1] at c9;go_simp;clear c9;refine kk hK hHeld fun hHeld=>?_;clear hK K;refine rE 11 fun K hK=>?_;refine acq (by rfl) (.tmp 30) (by rfl) ce (by rfl) ?_;intro yu Qj oK aC Jk;subst oK;have Pf:=hZ Jk;have cX:=hZ (cX.out.kept (sz aC) (by simp) (by simp));have iY:=hZ (iY.out.below aC);have mV:=ak aC mV;have wE:=ak aC wE;have vZ:=hZ (vZ.out.trans (aC.mono vZ.out.size));have nR:=hZ (nR.out.below aC);clear Jk aC;refine kk hK (⟨nR.out,Ev.out _ nR.out,iM.out _ mV.out⟩) fun hHeld=>?_;clear hK K;refine rE 12 fun K hK=>?_;refine Ns (by rfl) (.tmp 29) (.tmp 31) 25 (by rfl) mZ (.slice Aj nj cj) (lf j) nj kh.out.2 (by rfl) ?gb ce U.heap.size ce.cells.toArray (by rfl) Pf.out (by simp) rfl (ma ce) (by have:=qQ.out;have:=kh.out.2;unfold cH;omega) (by have:=qQ.out;have:=kh.out.2;omega) vZ.out.size ?_
     case gb=>have:=iY.out.row j HJ.out.1;rw[kh.out.1] at this;exact this
     intro g' fI kX Jr vj Js RR uX;have Pj:=hZ Jr;have Cr:=hZ vj;have PX:=hZ Js;have ox:=hZ uX;(have Jo:(mi Aj nj cj).ownBlock≠some b8:=fun e=>by have:=pb.out j HJ.out.1 b8 (by rw[kh.out.1];exact e);omega);(have Jn:(mi Aj nj cj).ownBlock≠some b6:=by rw[←kh.out.1];exact ue (iY.out.row j HJ.out.1) mV.out (by decide));(have Jp:(mi Aj nj cj).ownBlock≠some bB:=by rw[←kh.out.1];exact ue (iY.out.row j HJ.out.1) iY.out.fH (by decide));have Jb:aR kX b8 ce:=(vj.block b8 (bt nR.out) (fun e=>Jo e.symm)).trans nR.out;have I8:kX.heap[b6]?=some (.cells (im bB).toArray 96 (0,0)):=(vj.block b6 (bt mV.out) (fun e=>Jn e.symm)).trans mV.out;have IM:kX.heap[bB]?=some (.cells (nine vf) 36 (0,0)):=(vj.block bB (bt iY.out.fH) (fun e=>Jp e.symm)).trans iY.out.fH;have xZ:=hZ Jb;have Cn:=hZ I8;have xW:=hZ IM;clear Jr vj Js RR uX Jo Jn Jp Jb I8 IM;refine kk hK (⟨xZ.out,Ev.out _ xZ.out,iM.out _ Cn.out⟩) fun hHeld=>?_;clear hK K;refine tk 13 ?_;refine rE 14 fun K hK=>?_;have CX:=aJ xW.out (J2 vf HJ.out.1);have f14:=cY xW.out j;go_simp;clear CX f14;obtain⟨sS,ze⟩:=oQ (kX.setCell ⟨bB,j,none⟩ (.slice (some ⟨g',0,none⟩) (nj+1) fI));have uL:Hid (mm sS w.heap.size bB (oj vf j (.slice (some ⟨g',0,none⟩) (nj+1) fI)) (oj lf j (lf j++[ce]))):=hZ (by rw[←ze];exact iY.out.put HJ.out.1 (by rw[kh.out.1];exact Fc Cr.out) Pj.out (fun g hg=>by injection hg with hg;subst hg;rw[kh.out.1];rcases PX.out with q|q;exact .inl q;exact .inr (by rw[q];exact aB _)));(have yK:aO (fun k=>k=bB) kX sS:=by rw[←ze];exact aO.setCell _ _ _ rfl);have pX:=hZ yK
     rw[ze];(have I3:b6≠bB:=fun e=>by have q:=mV.out;rw[e,iY.out.fH] at q;injection q with q;injection q with q1 q2 q3;exact absurd q2 (by decide));(have I4:b8≠bB:=fun e=>by have q:=nR.out;unfold aR at q;rw[e,iY.out.fH] at q;injection q with q;injection q with q1 q2 q3;exact absurd q2 (by decide));have G3:Hid (sS.heap[b6]?=some (.cells (im bB).toArray 96 (0,0))):=hZ ((yK.block b6 (bt Cn.out) I3).trans Cn.out);have G6:Hid (aR sS b8 ce):=hZ ((yK.block b8 (bt xZ.out) I4).trans xZ.out);clear ze yK I3 I4;refine kk hK (⟨G6.out,Ev.out _ G6.out,iM.out _ G3.out⟩) fun hHeld=>?_;clear hK K;refine dn ?_;clear hHeld;go_wp2;have DJ:∀g,(mi Aj nj cj).ownBlock=some g→∃cs,Qj.heap[g]?=some (.cells cs 33 (0,0)):=fun g hg=>SZ (iY.out.row j HJ.out.1) (by rw[kh.out.1];exact hg);have zb:=cX.out.kept Cr.out (fun e=>by obtain⟨cs,hcs⟩:=DJ bm e.symm;exact(zt cX.out hcs).1 rfl) (fun e=>by obtain⟨cs,hcs⟩:=DJ r e.symm;exact(zt cX.out hcs).2 rfl);have Jf:kX.grownBy sS (some bB):=⟨pX.out.os,pX.out.tape,pX.out.output,pX.out.size,fun k hk hz=>pX.out.block k hk (fun e=>hz (by rw[e]))⟩;have JD:=zb.kept Jf (fun e=>(zt zb xW.out).1 (by injection e)) (fun e=>(zt zb xW.out).2 (by injection e));have DS:=(Cr.out.block b0 (bt wE.out) (fun e=>(by rw[←kh.out.1];exact ue (iY.out.row j HJ.out.1) wE.out (by decide):(mi Aj nj cj).ownBlock≠some b0) e.symm)).trans wE.out;have JV:=(pX.out.block b0 (bt DS) eu.out).trans DS;have I1:Below w.heap.size w sS:=pX.out.below (vZ.out.trans ox.out) (aB _) (fun k hk=>by have:=bA.out.1;omega);have kC:=hZ (ay JD (ay JV I1));clear DJ zb Jf JD DS JV I1
     go_roundw
     case rel=>
      refine⟨_,_,_,_,kC.out.1,uL.out,Wv.out,fun i hi=>?_,G3.out,kC.out.2.1,kC.out.2.2⟩;have h1:=dO.out i hi;have h2:=aL.out
      by_cases dh:i=j
      · subst dh;rw[qz,eV,uy];omega
      · rw[pK _ _ dh];omega
     case measure=>rw[kC.out.1.left_eq,Hs.out.left_eq];exact aL.out
    refine dx fun K hK=>?_;refine acq (by rfl) (.tmp 30) (by rfl) ce (by rfl) ?_;intro yu Qj oK aC Jk;subst oK;have Pf:=hZ Jk;have cX:=hZ (cX.out.kept (sz aC) (by simp) (by simp));have iY:=hZ (iY.out.below aC);have mV:=ak aC mV;have wE:=ak aC wE;have vZ:=hZ (vZ.out.trans (aC.mono vZ.out.size));have nR:=hZ (nR.out.below aC);clear Jk aC;refine kk hK (⟨nR.out,Ev.out _ nR.out,iM.out _ mV.out⟩) fun hHeld=>?_;clear hK K;refine rE 9 fun K hK=>?_;have c9:=aJ iY.out.fH (J2 vf HJ.out.1);rw[kh.out.1] at c9;go_simp;clear c9;refine kk hK hHeld fun hHeld=>?_;clear hK K;refine rE 12 fun K hK=>?_;refine Ns (by rfl) (.tmp 29) (.tmp 31) 25 (by rfl) mZ (.slice Aj nj cj) (lf j) nj kh.out.2 (by rfl) ?gb ce U.heap.size ce.cells.toArray (by rfl) Pf.out (by simp) rfl (ma ce) (by have:=qQ.out;have:=kh.out.2;unfold cH;omega) (by have:=qQ.out;have:=kh.out.2;omega) vZ.out.size ?_
    case gb=>have:=iY.out.row j HJ.out.1;rw[kh.out.1] at this;exact this
    intro g' fI kX Jr vj Js RR uX;have Pj:=hZ Jr;have Cr:=hZ vj;have PX:=hZ Js;have ox:=hZ uX;(have Jo:(mi Aj nj cj).ownBlock≠some b8:=fun e=>by have:=pb.out j HJ.out.1 b8 (by rw[kh.out.1];exact e);omega);(have Jn:(mi Aj nj cj).ownBlock≠some b6:=by rw[←kh.out.1];exact ue (iY.out.row j HJ.out.1) mV.out (by decide));(have Jp:(mi Aj nj cj).ownBlock≠some bB:=by rw[←kh.out.1];exact ue (iY.out.row j HJ.out.1) iY.out.fH (by decide));have Jb:aR kX b8 ce:=(vj.block b8 (bt nR.out) (fun e=>Jo e.symm)).trans nR.out;have I8:kX.heap[b6]?=some (.cells (im bB).toArray 96 (0,0)):=(vj.block b6 (bt mV.out) (fun e=>Jn e.symm)).trans mV.out;have IM:kX.heap[bB]?=some (.cells (nine vf) 36 (0,0)):=(vj.block bB (bt iY.out.fH) (fun e=>Jp e.symm)).trans iY.out.fH;have xZ:=hZ Jb;have Cn:=hZ I8;have xW:=hZ IM;clear Jr vj Js RR uX Jo Jn Jp Jb I8 IM;refine kk hK (⟨xZ.out,Ev.out _ xZ.out,iM.out _ Cn.out⟩) fun hHeld=>?_;clear hK K;refine tk 13 ?_;refine rE 14 fun K hK=>?_;have CX:=aJ xW.out (J2 vf HJ.out.1);have f14:=cY xW.out j;go_simp;clear CX f14;obtain⟨sS,ze⟩:=oQ (kX.setCell ⟨bB,j,none⟩ (.slice (some ⟨g',0,none⟩) (nj+1) fI));have uL:Hid (mm sS w.heap.size bB (oj vf j (.slice (some ⟨g',0,none⟩) (nj+1) fI)) (oj lf j (lf j++[ce]))):=hZ (by rw[←ze];exact iY.out.put HJ.out.1 (by rw[kh.out.1];exact Fc Cr.out) Pj.out (fun g hg=>by injection hg with hg;subst hg;rw[kh.out.1];rcases PX.out with q|q;exact .inl q;exact .inr (by rw[q];exact aB _)));(have yK:aO (fun k=>k=bB) kX sS:=by rw[←ze];exact aO.setCell _ _ _ rfl);have pX:=hZ yK
    rw[ze];(have I3:b6≠bB:=fun e=>by have q:=mV.out;rw[e,iY.out.fH] at q;injection q with q;injection q with q1 q2 q3;exact absurd q2 (by decide));(have I4:b8≠bB:=fun e=>by have q:=nR.out;unfold aR at q;rw[e,iY.out.fH] at q;injection q with q;injection q with q1 q2 q3;exact absurd q2 (by decide));have G3:Hid (sS.heap[b6]?=some (.cells (im bB).toArray 96 (0,0))):=hZ ((yK.block b6 (bt Cn.out) I3).trans Cn.out);have G6:Hid (aR sS b8 ce):=hZ ((yK.block b8 (bt xZ.out) I4).trans xZ.out);clear ze yK I3 I4;refine kk hK (⟨G6.out,Ev.out _ G6.out,iM.out _ G3.out⟩) fun hHeld=>?_;clear hK K;refine dn ?_;clear hHeld;go_wp2;have DJ:∀g,(mi Aj nj cj).ownBlock=some g→∃cs,Qj.heap[g]?=some (.cells cs 33 (0,0)):=fun g hg=>SZ (iY.out.row j HJ.out.1) (by rw[kh.out.1];exact hg);have zb:=cX.out.kept Cr.out (fun e=>by obtain⟨cs,hcs⟩:=DJ bm e.symm;exact(zt cX.out hcs).1 rfl) (fun e=>by obtain⟨cs,hcs⟩:=DJ r e.symm;exact(zt cX.out hcs).2 rfl);have Jf:kX.grownBy sS (some bB):=⟨pX.out.os,pX.out.tape,pX.out.output,pX.out.size,fun k hk hz=>pX.out.block k hk (fun e=>hz (by rw[e]))⟩;have JD:=zb.kept Jf (fun e=>(zt zb xW.out).1 (by injection e)) (fun e=>(zt zb xW.out).2 (by injection e));have DS:=(Cr.out.block b0 (bt wE.out) (fun e=>(by rw[←kh.out.1];exact ue (iY.out.row j HJ.out.1) wE.out (by decide):(mi Aj nj cj).ownBlock≠some b0) e.symm)).trans wE.out;have JV:=(pX.out.block b0 (bt DS) eu.out).trans DS;have I1:Below w.heap.size w sS:=pX.out.below (vZ.out.trans ox.out) (aB _) (fun k hk=>by have:=bA.out.1;omega);have kC:=hZ (ay JD (ay JV I1));clear DJ zb Jf JD DS JV I1
    go_roundw
    case rel=>
     refine⟨_,_,_,_,kC.out.1,uL.out,Wv.out,fun i hi=>?_,G3.out,kC.out.2.1,kC.out.2.2⟩;have h1:=dO.out i hi;have h2:=aL.out
     by_cases dh:i=j
     · subst dh;rw[qz,eV,uy];omega
     · rw[pK _ _ dh];omega
    case measure=>rw[kC.out.1.left_eq,Hs.out.left_eq];exact aL.out
def C_ (e f:af):Bool:=decide (e.kind=f.kind∧e.id=f.id∧e.bR=f.bR∧e.day=f.day∧e.gone=f.gone∧e.az=f.az∧e.bj=f.bj∧e.bQ=f.bQ∧e.item=f.item∧e.dj=f.dj∧e.iJ=f.iJ∧e.ln.toList=f.ln.toList∧e.ld.toList=f.ld.toList∧e.hn.toList=f.hn.toList∧e.hd.toList=f.hd.toList∧e.rn.toList=f.rn.toList∧e.rd.toList=f.rd.toList∧e.text.toList=f.text.toList)
theorem toList_inj {a b:ByteArray} (h:a.toList=b.toList):a=b:=by
 rw[ByteArray.toList_eq,ByteArray.toList_eq] at h;exact ah8 (Array.toList_inj.1 h)
theorem Iz (e f:af):C_ e f=true↔e=f:=by
 unfold C_;rw[decide_eq_true_eq];constructor
 · rintro⟨h0,h1,h2,h3,h4,h5,h6,h7,h8,h9,uT,yE,yF,yG,ID,IG,II,L6⟩
   cases e;cases f;simp only[af.mk.injEq];exact⟨h0,h1,h2,h3,h4,h5,h6,h7,h8,h9,uT,toList_inj yE,toList_inj yF,toList_inj yG,toList_inj ID,toList_inj IG,toList_inj II,toList_inj L6⟩
 · rintro rfl
   simp
theorem abf (e f:af) (W:ae):(binOp .neq 33 (.agg e.cells.toArray) (.agg f.cells.toArray)).run ah W=.ok (.bool (!C_ e f)) W:=by
 obtain⟨a0,a1,a2,a3,a4,a5,a6,a7,a8,a9,a10,a11,a12,a13,a14,a15,a16,a17⟩:=e;obtain⟨b0,b1,b2,b3,b4,b5,b6,b7,b8,b9,iP,yu,b12,jS,b14,gO,b16,b17⟩:=f;unfold af.cells C_;simp only[];go_simp
 by_cases h0:a0=b0
 case neg=>simp[h0]
 rw[if_pos h0]
 by_cases h1:a1=b1
 case neg=>simp[h1]
 rw[if_pos h1]
 by_cases h2:a2=b2
 case neg=>simp[h2]
 rw[if_pos h2]
 by_cases h3:a3=b3
 case neg=>simp[h3]
 rw[if_pos h3]
 by_cases h4:a4=b4
 case neg=>simp[h4]
 rw[if_pos h4]
 by_cases h5:a5=b5
 case neg=>simp[h5]
 rw[if_pos h5]
 by_cases h6:a6=b6
 case neg=>simp[h6]
 rw[if_pos h6]
 by_cases h7:a7=b7
 case neg=>simp[h7]
 rw[if_pos h7]
 by_cases h8:a8=b8
 case neg=>simp[h8]
 rw[if_pos h8]
 by_cases h9:a9=b9
 case neg=>simp[h9]
 rw[if_pos h9]
 by_cases uT:a10=iP
 case neg=>simp[uT]
 rw[if_pos uT]
 by_cases yE:a11.toList=yu.toList
 case neg=>simp[yE]
 rw[if_pos yE]
 by_cases yF:a12.toList=b12.toList
 case neg=>simp[yF]
 rw[if_pos yF]
 by_cases yG:a13.toList=jS.toList
 case neg=>simp[yG]
 rw[if_pos yG]
 by_cases ID:a14.toList=b14.toList
 case neg=>simp[ID]
 rw[if_pos ID]
 by_cases IG:a15.toList=gO.toList
 case neg=>simp[IG]
 rw[if_pos IG]
 by_cases II:a16.toList=b16.toList
 case neg=>simp[II]
 rw[if_pos II]
 by_cases L6:a17.toList=b17.toList
 case neg=>simp[L6]
 simp[h0,h1,h2,h3,h4,h5,h6,h7,h8,h9,uT,yE,yF,yG,ID,IG,II,L6]
instance apR:DecidableEq af:=fun a b=>decidable_of_iff (C_ a b=true) (Iz a b)
theorem ajA (x y:ef) (cs ds:Array ai) (W:ae):(eqGuard .neq 33 x y (.agg cs) (.agg ds)).run ah W=.ok () W:=by kernel_rfl
theorem Gq {P:Program} {ops:Array Oper} {S:ae→Prop} {o:Oper} {a:Act} (hw:eD o (gJ ops a.tmps)=true) (t t':bF) (x y:ef) (ho:o.op=.binOp .neq t x y t') (u v:ai) (hx:a.eval x=u) (hy:a.eval y=v) (b:Bool)
 (n0:∀w,(eqGuard .neq t x y u v).run P w=.ok () w) (hr:∀w,(binOp .neq t u v).run P w=.ok (.bool b) w):YieldsIf P ops S o (.bool b) a:=
 .inl ⟨hw,fun w _=>by
  unfold execOp;simp only[ho,hx,hy]
  simp only[Sem.run_bind,Sem.run_pure,n0,hr,sX]⟩
theorem NL {P:Program} {ops:Array Oper} {S:ae→Prop} {o:Oper} {a:Act} (hw:eD o (gJ ops a.tmps)=true) (t t':bF) (x y:ef) (ho:o.op=.binOp .eql t x y t') (u v:ai) (hx:a.eval x=u) (hy:a.eval y=v) (b:Bool)
 (n0:∀w,(eqGuard .eql t x y u v).run P w=.ok () w) (hr:∀w,(binOp .eql t u v).run P w=.ok (.bool b) w):YieldsIf P ops S o (.bool b) a:=
 .inl ⟨hw,fun w _=>by
  unfold execOp;simp only[ho,hx,hy]
  simp only[Sem.run_bind,Sem.run_pure,n0,hr,sX]⟩
theorem ai8 (l m:List af) (A A2:Option Addr) (n c n2 c2:Nat) (hn:l.length=n) (cN:m.length=n2) (hm:n≤cH) (w:ae) (hA:eW w (bV w) A l) (mC:eW w (bV w) A2 m):
 ax ah 56 #[.slice A n c,.slice A2 n2 c2] w (cC w (decide (l=m))):=by
 have Mt:n≤9223372036854775807:=by unfold cH at hm;omega
 have HA:=hZ hA;have uE:=hZ mC;have HN:=hZ hn;have iz:=hZ cN;have IE:=fun e:af=>hZ (di (e:=e));clear hA mC hm
 by_cases rk:n=n2
 · subst rk
   clear hn cN;have d0:((n:Int) !=(n:Int))=false:=by simp
   go_enter ad1,aeS
   go_wp2_with fail
   go_loopw [5,13] (fun _ v wr=> ∃i:Nat,v=.int .i64 (i:Int)∧i≤n∧Hid (l.take i=m.take i)∧Below w.heap.size w wr) (fun _ v _=>match v with|.int _ k=>n-k.toNat|_=>0)
   case atStart=>exact⟨0,rfl,Nat.zero_le _,hZ rfl,Below.refl _ _⟩
   case round=>
    obtain⟨i,rfl,hi,HT,hB⟩:=hrel;have HB:=hZ hB;clear hB
    by_cases ar:i<n
    · obtain⟨e,he⟩:∃e,l[i]?=some e:=⟨_,bp (by rw[HN.out];exact ar)⟩
      obtain⟨f,hf⟩:∃f,m[i]?=some f:=⟨_,bp (by rw[iz.out];exact ar)⟩;obtain⟨b,sB,-,cP⟩:=(HA.out.below HB.out) i e he;obtain⟨b',De,-,vz⟩:=(uE.out.below HB.out) i f hf;subst sB De;have HE:=hZ (ay he hf);(have d1:decide (i<n)=true:=by simp[ar]);(have z1:(0:Int)≤(i:Int):=by omega);(have z2:(i:Int)<(n:Int):=by omega);(have w1:aQ.wrap ((i:Int)+1)=((i+1:Nat):Int):=by rw[aS];omega);obtain⟨q,hq⟩:=oQ (C_ e f);have HQ:=hZ hq;have eu:Hid (∀W,(binOp .neq 33 (.agg e.cells.toArray) (.agg f.cells.toArray)).run ah W=.ok (.bool (!q)) W):=hZ (fun W=>by rw[←hq];exact abf e f W);have bu:k7 wr.drew b (i*18) e.cells∧k7 wr.drew b' (i*18) f.cells:=⟨cP,vz⟩;clear he hf cP vz hq;go_wp2_with fail;refine cJ (fun U=>k7 U b (i*18) e.cells∧k7 U b' (i*18) f.cells) bu fun hHeld=>?_;refine dr 0 1 2 ?_;refine tl 3 rfl (yx b (i*18) (IE e).out bk (fun w hw=>hw.1)) ?_;refine dr 4 5 6 ?_;refine tl 7 rfl (yx b' (i*18) (IE f).out bk (fun w hw=>hw.2)) ?_;refine tl 8 rfl (Gq (by rfl) 33 33 (.tmp 19) (.tmp 23) (by rfl) (.agg e.cells.toArray) (.agg f.cells.toArray) (by rfl) (by rfl) (!q) (fun w=>ajA _ _ _ _ w) eu.out) ?_;refine dn ?_;have fC:Hid (Below w.heap.size w wr.drew):=hZ (Below.drew HB.out);clear hHeld bu;cases q
      · go_wp2
        go_ret
        have bf:l≠m:=fun h=>by
         have h1:=HE.out.1;rw[h,HE.out.2] at h1;have h2:f=e:=Option.some.inj h1;have h3:=HQ.out;rw[h2,(Iz e e).2 rfl] at h3;cases h3
        rw[decide_eq_false bf];exact⟨rfl,fC.out⟩
      · go_wp2
        have A_:=(Iz e f).1 HQ.out;(have ht:l.take (i+1)=m.take (i+1):=by rw[gV,gV,HT.out,HE.out.1,HE.out.2,A_]);have iM:=hZ ht;clear ht A_
        go_round
        case rel=>exact⟨i+1,rfl,by omega,iM,fC.out⟩
        case measure=>simp;omega
    · have d1:decide (i<n)=false:=by simp;omega
      obtain rfl:i=n:=by omega
      have jn:l=m:=by
       have:=HT.out
       rwa[eE (by rw[HN.out];omega),eE (by rw[iz.out];omega)] at this
      have dC:=hZ jn;clear jn;go_wp2_with fail;go_ret;rw[decide_eq_true dC.out];exact⟨rfl,HB.out⟩
 · have d0:((n:Int) !=(n2:Int))=true:=by simp;omega
   have jn:l≠m:=fun h=>rk (by rw[←hn,←cN,h]);rw[decide_eq_false jn];clear hn cN jn
   go_enter ad1,aeS
   go_wp2;go_ret;exact⟨rfl,Below.refl _ _⟩
def sQ (A B:bP):Bool:=(List.range 9).all fun j=>decide (A.ls j=B.ls j)
theorem BN (A B:bP):sQ A B=true↔ ∀j,j<9→A.ls j=B.ls j:=by
 unfold sQ;rw[List.all_eq_true];constructor
 · intro h j hj;simpa using h j (agW.2 hj)
 · intro h j hj;simpa using h j (agW.1 hj)
theorem Xu (B:bP) {j:Nat} (h:j<9):B.cells.toArray[j]?=some (.slice (B.ad j) (B.ls j).length (B.cp j)):=by
 match j,h with
 |0,_=>rfl
 |1,_=>rfl
 |2,_=>rfl
 |3,_=>rfl
 |4,_=>rfl
 |5,_=>rfl
 |6,_=>rfl
 |7,_=>rfl
 |8,_=>rfl
def BI:Array ai:=#[.pointer none,.pointer none,.pointer none,.pointer none,.pointer none,.pointer none,.pointer none,.pointer none,.pointer none,.pointer none]
theorem Kc (A B:bP) (w:ae) (hA:dH w (bV w) A) (hB:dH w (bV w) B):ax ah 14 #[A.val,B.val] w (cC w (sQ A B)):=by
 have HA:=hZ hA;have HB:=hZ hB;clear hA hB
 go_enter Tryz.func14,Tryz.ntmps14
 go_wp2_with fail;have dB:=hZ (At.start w);obtain⟨b0,w0,q1,q2,q3,hf,bU⟩:=dB.out.eX (.cells A.cells.toArray 36);obtain⟨b1,w1,r1,r2,r3,eZ,aP⟩:=hf.eX (.cells B.cells.toArray 36);rw[bU] at r1;rw[q1,q2,r1,r2];have au:=hZ eZ;clear dB q1 q2 q3 hf bU r1 r2 r3 eZ aP
 go_wp2_with (first
  | (go_at_call 55;(with_reducible refine(SJ b0 _).mono ?_);rintro e2 w2 ⟨rfl,aA⟩
     have fV:=hZ (au.out.step aA)
     clear aA)
  | (go_at_call 55;(with_reducible refine(SJ b1 _).mono ?_);rintro e3 w3 ⟨rfl,aK⟩
     have j8:=hZ (fV.out.step aK)
     clear aK)
  | ((with_reducible refine nK rfl 96 (.tmp 5) (.tmp 8) rfl rfl w3.heap.size (im b0).toArray BI rfl rfl ?hi ?hh ?ho ?h1 ?_);(case hi=>kernel_rfl);(case hh=>exact((aY (w3.alloc (.cells BI 96)) (.cells BI 96)).block _ (by simp)).trans (bG w3 _));(case ho=>rfl);(case h1=>simp[im,lH]);intro w4 Y5 FI
     have cQ:Below w3.heap.size w3 w4:=FI.below ((aY w3 _).trans ((aY (w3.alloc (.cells BI 96)) _).mono (by simp))) (aB _) (fun k hk=>by omega);have ie:w4.heap[w3.heap.size+1]?=some (.cells BI 96 (0,0)):=(FI.block _ (by simp) (by omega)).trans (by have:=bG (w3.alloc (.cells BI 96)) (.cells BI 96);rwa[World.size_alloc] at this);have j9:=hZ ((j8.out.step cQ).cons Y5);have Cw:=hZ ie;have nC:w.heap.size≤w3.heap.size:=j8.out.below.size;obtain⟨b5,cn⟩:=oQ (w3.heap.size);rw[cn] at j9 Cw nC;have gE:=hZ nC;rw[cn]
     clear Y5 FI cQ ie cn nC)
  | ((with_reducible refine nK rfl 96 (.tmp 6) (.tmp 9) rfl rfl (b5+1) (im b1).toArray BI rfl rfl ?hi Cw.out ?ho ?h1 ?_);(case hi=>kernel_rfl);(case ho=>rfl);(case h1=>simp[im,lH]);intro w5 Y6 ht5
     have G4:=hZ Y6;have uQ:=hZ ht5
     clear Y6 ht5)
  |fail)
 obtain⟨b6,eB⟩:=oQ (b5+1);rw[eB] at G4 uQ Cw;rw[eB]
 have Be:At w w5 [(b6,.cells (im b1).toArray 96 (0,0)),(b5,.cells (im b0).toArray 96 (0,0)),(b1,.cells B.cells.toArray 36 (0,0)),(b0,.cells A.cells.toArray 36 (0,0))]:=by
  have bf:∀k cs,(k,Obj.cells cs 36 (0,0))∈[(b5,Obj.cells (im b0).toArray 96 (0,0)),(b1,.cells B.cells.toArray 36 (0,0)),(b0,.cells A.cells.toArray 36 (0,0))]→w5.heap[k]?=some (Obj.cells cs 36 (0,0)):=fun k cs hm=>by
   have h4:=j9.out.has _ hm;refine(uQ.out.block k (j9.out.lt hm) (fun e=>?_)).trans h4;rw[e] at h4;have:=Cw.out;rw[h4] at this;injection this with this;injection this with _ q2 _;exact absurd q2 (by decide)
  refine⟨uQ.out.below j9.out.below (aB _) (fun k hk=>by have:=gE.out;omega),fun p hp=>?_⟩;simp only[dG,gZ,or_false] at hp;rcases hp with rfl|rfl|rfl|rfl
  · exact G4.out
  · exact(uQ.out.block b5 (j9.out.lt (o:=.cells (im b0).toArray 96 (0,0)) (by simp)) (by omega)).trans (j9.out.has (b5,.cells (im b0).toArray 96 (0,0)) (by simp))
  · exact bf _ _ (by simp)
  · exact bf _ _ (by simp)
 have lK:=hZ Be;clear Be eB au fV j8 j9 Cw G4 uQ
 go_loopw [7] (fun v wr=> ∃k:Nat,v=.int .i64 (k:Int)∧1≤k∧k≤10∧Hid (∀j,j+1<k→A.ls j=B.ls j)∧At w wr [(b6,.cells (im b1).toArray 96 (0,0)),(b5,.cells (im b0).toArray 96 (0,0)),(b1,.cells B.cells.toArray 36 (0,0)),(b0,.cells A.cells.toArray 36 (0,0))]) (fun v _=>match v with|.int _ k=>10-k.toNat|_=>0)
 case atStart=>exact⟨1,rfl,by omega,by omega,hZ (fun j hj=>by omega),lK.out⟩
 case round=>
  obtain⟨k,rfl,fJ,kt,HT,mD⟩:=hrel;have pS:=hZ mD;clear mD lK
  by_cases ar:k<10
  · obtain⟨j,rfl⟩:∃j,k=j+1:=⟨k-1,by omega⟩
    (have hj:j<9:=by omega);obtain⟨kN,Bk⟩:=oQ (j+1);have oA:=hZ (ay Bk hj)
    have bu:sZ wr.drew ⟨b5,kN,none⟩=some (.pointer (some ⟨b0,j,none⟩))∧sZ wr.drew ⟨b0,j,none⟩=some (.slice (A.ad j) (A.ls j).length (A.cp j))∧sZ wr.drew ⟨b6,kN,none⟩=some (.pointer (some ⟨b1,j,none⟩))∧sZ wr.drew ⟨b1,j,none⟩=some (.slice (B.ad j) (B.ls j).length (B.cp j)):=by
     refine⟨pS.out.cell (cs:=(im b0).toArray) (t:=96) (by simp) (by rw[←Bk];simpa using M2 b0 j hj),pS.out.cell (cs:=A.cells.toArray) (t:=36) (by simp) (Xu A hj),pS.out.cell (cs:=(im b1).toArray) (t:=96) (by simp) (by rw[←Bk];simpa using M2 b1 j hj),pS.out.cell (cs:=B.cells.toArray) (t:=36) (by simp) (Xu B hj)⟩
    obtain⟨na,Mu⟩:=oQ ((A.ls j).length);obtain⟨nb,Jm⟩:=oQ ((B.ls j).length);have YB:=fun V (hV:Below w.heap.size w V)=>ai8 (A.ls j) (B.ls j) (A.ad j) (B.ad j) na (A.cp j) nb (B.cp j) Mu Jm (by rw[←Mu];exact Nat.le_trans (HA.out.cap j hj).1 (HA.out.cap j hj).2) V ((HA.out.below hV).at_ j hj) ((HB.out.below hV).at_ j hj);have nS:=hZ YB;obtain⟨q,hq⟩:=oQ (decide (A.ls j=B.ls j));rw[hq] at nS;have HQ:=hZ hq;rw[Mu,Jm] at bu;(have z1:(0:Int)≤(kN:Int):=by omega);(have z2:(kN:Int)<10:=by omega);(have d1:decide (kN<10)=true:=by simp;omega);(have zL:aQ.wrap ((kN:Int)+1)=((kN+1:Nat):Int):=by rw[aS];omega);have kH:=hZ bu;rw[Bk];clear Bk hj Mu Jm YB hq fJ kt ar;go_wp2_with fail;have Er:Hid (At w wr.drew _):=hZ pS.out.drew;refine cJ (fun U=>sZ U ⟨b5,kN,none⟩=some (.pointer (some ⟨b0,j,none⟩))∧sZ U ⟨b0,j,none⟩=some (.slice (A.ad j) na (A.cp j))∧sZ U ⟨b6,kN,none⟩=some (.pointer (some ⟨b1,j,none⟩))∧sZ U ⟨b1,j,none⟩=some (.slice (B.ad j) nb (B.cp j))) bu fun hHeld=>?_;refine bg 0 1 2 3 ?_;refine bg 4 5 6 7 ?_;refine eC 8 9 ?_;refine rE 10 fun K hK=>?_;go_simp
    (with_reducible refine(nS.out _ Er.out.below).mono ?_)
    rintro e8 w8 ⟨rfl,eN⟩;have VE:=hZ (Er.out.step eN);have gj:=hZ eN;clear eN;refine kk hK (⟨(gj.out.cell (Er.out.lt (b:=b5) (o:=.cells (im b0).toArray 96 (0,0)) (by simp))).trans hHeld.1,(gj.out.cell (Er.out.lt (b:=b0) (o:=.cells A.cells.toArray 36 (0,0)) (by simp))).trans hHeld.2.1,(gj.out.cell (Er.out.lt (b:=b6) (o:=.cells (im b1).toArray 96 (0,0)) (by simp))).trans hHeld.2.2.1,(gj.out.cell (Er.out.lt (b:=b1) (o:=.cells B.cells.toArray 36 (0,0)) (by simp))).trans hHeld.2.2.2⟩) fun hHeld=>?_;clear hK K;refine tk 11 ?_;refine dn ?_;clear hHeld bu;cases q
    · go_wp2
      go_ret
      have hs:sQ A B=false:=by
       cases hs:sQ A B with
       |false=>rfl
       | true=>
         have:=(BN A B).1 hs j oA.out.2;have hq:=HQ.out;rw[decide_eq_true this] at hq;cases hq
      rw[hs];exact⟨rfl,VE.out.below⟩
    · go_wp2
      have ht:∀i,i+1<kN+1→A.ls i=B.ls i:=fun i hi=>by
       by_cases dh:i=j
       · subst dh;simpa using HQ.out
       · exact HT.out i (by have:=oA.out.1;omega)
      have iM:=hZ ht;clear ht;have iR:=oA.out
      go_roundw
      case rel=>exact⟨kN+1,rfl,by omega,by omega,iM,VE.out⟩
      case measure=>simp;omega
  · have d1:decide (k<10)=false:=by simp;omega
    have hs:sQ A B=true:=(BN A B).2 fun j hj=>HT.out j (by omega);have HS:=hZ hs;clear hs;go_wp2_with fail;go_ret;rw[HS.out];exact⟨rfl,pS.out.below⟩
end Go.Proofs.YteeifhlhpiimoaaGreatDoor
end
