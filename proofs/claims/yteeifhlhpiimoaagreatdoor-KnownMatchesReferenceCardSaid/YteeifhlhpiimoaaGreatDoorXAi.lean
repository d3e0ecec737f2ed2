/-
  Contract of entry.Encode; the like for what stands beside it. Conditions: the texts have at most 65536 bytes; the table of powers stands.
-/
import Derived.Test.YteeifhlhpiimoaaGreatDoorXAh
import Derived.Test.YteeifhlhpiimoaaGreatDoorXAa
import Derived.Test.YteeifhlhpiimoaaGreatDoorXAf
import Derived.Maps.Ext
import Derived.Maps.RangeWalk
import Derived.Maps.OwnSet
import Derived.Laws.IdiomRangeMap
import Derived.Deep.LoopGhost
import Derived.Carry
import Derived.Shelf.SlSortCmp.WholeK
import Derived.Shelf.SlicesQ.Equal
import Derived.Ground.NamesProg
import Derived.Ground.SlsfProg
import Derived.Ground.SlgqProg
import Derived.Test.YteeifhlhpiimoaaGreatDoorProg
set_option maxHeartbeats 8000000
set_option maxRecDepth 100000
open Array renaming getElem?_append_left→T_,getElem?_eq_some_iff→fU,getElem?_modify→qB
open Bool renaming and_eq_true→sU
open Go renaming Act→cu,Calls→ax,DataW→oq,Oper→aZ,Operand→ef,Program→eI,TypeDesc→U3,TypeId→bF,Value→ai,World→ae,callFunc→xM,maxLen→cH,wpList→dT,yielded→gJ
open Go.Act renaming put→sV
open Go.Addr renaming add→jy
open Go.Proofs.SlLaysF0 renaming n6→Un
open Go.Proofs.Tryz renaming func101→Uq,func103→adg,func164→adp,func165→Kv,func22→adD,func225→adE,func226→adF,isAgg0→zQ,isAgg130→aec,isAgg163→D_,isAgg193→aef,isAgg194→aeg,isAgg198→aeh,isAgg201→Gt,isAgg203→Gu,isAgg255→aem,isAgg276→aen,isAgg277→aeo,isAgg3→rM,isAgg4→ur,isAgg5→zR,isAgg9→xE,ntmps22→aeL,prog→ah,sizeOf0→zS,sizeOf130→aeY,sizeOf163→Eb,sizeOf193→ae1,sizeOf194→ae2,sizeOf198→ae3,sizeOf201→Gv,sizeOf203→Gw,sizeOf255→ae7,sizeOf276→ae8,sizeOf277→ae9,sizeOf3→vR,sizeOf4→xG,sizeOf5→zT,sizeOf9→xH,underlying0→zU,underlying100→N_,underlying130→afi,underlying163→Ec,underlying193→afm,underlying194→afn,underlying198→afo,underlying201→Gx,underlying203→Gy,underlying255→aft,underlying276→afv,underlying277→afw,underlying3→nL,underlying33→bk,underlying4→xJ,underlying5→zV,underlying9→qE,zeroValue0→zW,zeroValue130→afI,zeroValue163→Ed,zeroValue193→afL,zeroValue194→afM,zeroValue198→afN,zeroValue201→Gz,zeroValue203→GA,zeroValue255→afR,zeroValue276→afS,zeroValue277→afT,zeroValue3→vT,zeroValue4→xK,zeroValue5→zX,zeroValue9→xL
open Go.Region renaming wanted→eD
open Go.Sort renaming grow→GC
open Go.World renaming alloc_heap_new→bG,drewN→Od,setRow→qH
open List renaming filter_congr→agF,getElem?_eq_getElem→bp,getElem?_eq_none→jz,getElem?_eq_some_iff→dL,mem_cons→dG,mem_filter→Em,mem_flatMap→agV,mem_singleton→fQ,setIfInBounds_toArray→ta,set_cons_succ→tc,set_cons_zero→td
open List.Pairwise renaming filter→Vh,map→agz,nil→KN
open Nat renaming le_refl→aB,mod_lt→rQ,zero_add→uA,zero_le→ei
section
namespace Go.Proofs.YteeifhlhpiimoaaGreatDoor
open Go Go.RowKit Go.Shelf Wr
attribute [local go_sem] Oper.semAt_some
theorem lx {P:eI} {ops:Array aZ} {rest:List aZ} {op:aZ} {a:cu} {w:ae} {Q:Exit→cu→ae→Prop} {ty:bF} {cs:List ai} {d:U3} (x:ef) (b o:Nat) (hc:w.rangeAt b o cs) (hi:(P.info? ty).map (·.size)=some cs.length) (hu:P.underlying ty=some d)
 (h:dT P ops Q rest (a.put op.dst (.agg cs.toArray)) w) (ct:op.guard=none:=by with_unfolding_all rfl) (ho:op.op=.load ty x:=by with_unfolding_all rfl) (hx:a.eval x=.pointer (some ⟨b,o,none⟩):=by with_unfolding_all first|rfl|simp[jy]) (hd:d.isRow=true:=by with_unfolding_all rfl):dT P ops Q (op::rest) a w:=wpList_load_mid ct ty x ho b o hx cs d hc hu hd hi h
theorem yx {P:eI} {ops:Array aZ} {S:ae→Prop} {op:aZ} {a:cu} {ty:bF} {x:ef} {cs:List ai} {d:U3} (b o:Nat) (hi:(P.info? ty).map (·.size)=some cs.length) (hu:P.underlying ty=some d) (hS:∀w,S w→w.rangeAt b o cs)
 (hw:eD op (gJ ops a.tmps)=true:=by rfl) (ho:op.op=.load ty x:=by rfl) (hx:a.eval x=.pointer (some ⟨b,o,none⟩):=by first|rfl|simp[jy]) (hd:d.isRow=true:=by rfl):YieldsIf P ops S op (.agg cs.toArray) a:=yieldsIf_load_mid hw ty x ho b o hx cs d hS hu hd hi
def kL (e:af):List UInt8:=pA e++((gC e.kind).getD []).flatMap (po e)
structure af.oE (e:af):Prop where
 ln:e.ln.size≤65536
 ld:e.ld.size≤65536
 hn:e.hn.size≤65536
 hd:e.hd.size≤65536
 rn:e.rn.size≤65536
 rd:e.rd.size≤65536
 text:e.text.size≤65536
theorem af.oE.small {e:af} (h:e.oE):e.Small:=⟨by have:=h.ln;omega,by have:=h.ld;omega,by have:=h.hn;omega,by have:=h.hd;omega,by have:=h.rn;omega,by have:=h.rd;omega,by have:=h.text;omega⟩
theorem ao1 {e:af} (h:e.oE) (i:Nat):(e.str i).size≤65536:=by
 unfold af.str
 split
 · exact h.ln
 · exact h.ld
 · exact h.hn
 · exact h.hd
 · exact h.rn
 · exact h.rd
 · exact h.text
theorem abn (e:af) (i j:Nat) (h:i≠j):(e.ji i).num j=e.num j:=by
 unfold af.ji
 split<;>(unfold af.num;split<;>first|rfl|(exact absurd rfl h))
theorem alD (l:List Nat) (j:Nat):∀e:af,j∉l→(l.foldl af.ji e).num j=e.num j:=by
 induction l with
 |nil=>intro e _;rfl
 |cons i l ih=>intro e h;rw[List.foldl_cons,ih _ (fun q=>h (by simp[q])),abn _ _ _ (fun q=>h (by simp[q]))]
def FQ:mW→List Nat
 |.num i _=>[i]
 |.txt l=>l
theorem aid:∀(qs:List mW) (e:af),fW qs e=true→(∀q∈qs,∀i l,q=.num i l→0≤l)→(qs.flatMap FQ).Nodup→∀i l,mW.num i l∈qs→0≤e.num i∧e.num i≤1000000:=by
 intro qs
 induction qs with
 |nil=>intro e _ _ _ i l h;cases h
 | cons q qs ih=>
   intro e hc h0 hd i l hm;rw[List.flatMap_cons,List.nodup_append] at hd
   cases q with
   | num j m=>
     rw[fW,sU,sU,decide_eq_true_eq,decide_eq_true_eq] at hc;rcases dG.1 hm with e1|e1
     · cases e1;have:=h0 _ (by simp) i l rfl;omega
     · have dh:j≠i:=fun q=>(hd.2.2 j (by simp[FQ]) i (agV.2 ⟨_,e1,by simp[FQ]⟩)) q
       have:=ih (e.ji j) hc.2.2 (fun q hq=>h0 q (by simp[hq])) hd.2.1 i l e1
       rwa[abn _ _ _ dh] at this
   | txt is=>
     rw[fW] at hc;rcases dG.1 hm with e1|e1
     · cases e1
     · have dh:i∉is:=fun q=>(hd.2.2 i (by simpa[FQ] using q) i (agV.2 ⟨_,e1,by simp[FQ]⟩)) rfl
       have:=ih (is.foldl af.ji e) hc (fun q hq=>h0 q (by simp[hq])) hd.2.1 i l e1
       rwa[alD _ _ _ dh] at this
theorem zM {e:af} (hw:e.oE) {qs:List mW} (hc:fW qs e=true) (h0:∀q∈qs,∀i l,q=.num i l→0≤l) (hd:(qs.flatMap FQ).Nodup) (hl:∀q∈qs,∀l,q=.txt l→l.length≤10):∀q∈qs,Qk e q:=by
 intro q hq
 cases q with
 |num i l=>have:=aid qs e hc h0 hd i l hq;show gN _;unfold gN;omega
 |txt l=>exact⟨hl _ hq l rfl,fun i _=>ao1 hw i⟩
theorem zJ {e:af} {qs:List mW} (h:bE e=true) (hq:gC e.kind=some qs):fZ e=true∧fW qs e=true:=by
 unfold bE at h;rw[hq] at h;simp only[sU] at h;exact⟨h.1,h.2.2⟩
def o9 (w:ae) (e0:af) (e:Ending) (w':ae):Prop:=if bE e0 then xV w (kL e0) e w' else e=.returned (.tuple #[.string ⟨#[]⟩,.int .i64 180])∧Below w.heap.size w w'
theorem E9 (e:af) (hw:e.oE) (w:ae) (hp:dY w):ax ah 69 #[e.val] w (o9 w e):=by
 unfold o9
 by_cases hv:bE e=true
 · simp only[hv,if_true]
   have hk:=ND hv
   have yT:gN e.kind∧gN e.bR∧gN e.day:=by
    have h2:fZ e=true:=by
     unfold bE at hv
     split at hv
     · cases hv
     · simp only[sU] at hv;exact hv.1
    unfold fZ at h2;simp only[sU,decide_eq_true_eq] at h2;unfold gN;omega
   unfold kL;rcases(by omega:e.kind=1∨e.kind=2∨e.kind=3∨e.kind=4∨e.kind=5∨e.kind=6∨e.kind=7∨e.kind=8∨e.kind=9) with q|q|q|q|q|q|q|q|q
   · have hq:gC e.kind=some [.num 1 1,.num 5 0,.num 7 1,.num 8 1,.txt [11,12,13,14]]:=by rw[q];rfl
     have hc:=zJ hv hq;rw[hq];exact yC e hw.small ⟨[.num 106 1,.num 110 0,.num 111 1,.num 107 1,.txt 112],106,[113]⟩ [.num 1 1,.num 5 0,.num 7 1,.num 8 1,.txt [11,12,13,14]] w hp (fun W=>by rw[q];exact Nf W) rfl (by decide) (df (nY 1) (df (tO 0) (df (LW 1) (df (oF 1) (df (Ym) nZ))))) hv yT (zM hw hc.2 (by intro q hq i l he;subst he;simp at hq;omega) (by decide) (by intro q hq l he;subst he;first|(simp at hq;done)|(simp at hq;subst hq;decide)))
   · have hq:gC e.kind=some [.num 8 1,.txt [15,16]]:=by rw[q];rfl
     have hc:=zJ hv hq;rw[hq];exact yC e hw.small ⟨[.num 107 1,.txt 114],107,[115]⟩ [.num 8 1,.txt [15,16]] w hp (fun W=>by rw[q];exact Ng W) rfl (by decide) (df (oF 1) (df (LY) nZ)) hv yT (zM hw hc.2 (by intro q hq i l he;subst he;simp at hq;omega) (by decide) (by intro q hq l he;subst he;first|(simp at hq;done)|(simp at hq;subst hq;decide)))
   · have hq:gC e.kind=some [.num 1 1,.num 5 0,.num 6 0,.num 8 1]:=by rw[q];rfl
     have hc:=zJ hv hq;rw[hq];exact yC e hw.small ⟨[.num 106 1,.num 110 0,.num 116 0,.num 107 1],106,[117]⟩ [.num 1 1,.num 5 0,.num 6 0,.num 8 1] w hp (fun W=>by rw[q];exact Nh W) rfl (by decide) (df (nY 1) (df (tO 0) (df (AT 0) (df (oF 1) nZ)))) hv yT (zM hw hc.2 (by intro q hq i l he;subst he;simp at hq;omega) (by decide) (by intro q hq l he;subst he;first|(simp at hq;done)|(simp at hq;subst hq;decide)))
   · have hq:gC e.kind=some [.num 1 1,.num 5 0,.num 6 0,.num 8 1]:=by rw[q];rfl
     have hc:=zJ hv hq;rw[hq];exact yC e hw.small ⟨[.num 106 1,.num 110 0,.num 116 0,.num 107 1],106,[117]⟩ [.num 1 1,.num 5 0,.num 6 0,.num 8 1] w hp (fun W=>by rw[q];exact Ni W) rfl (by decide) (df (nY 1) (df (tO 0) (df (AT 0) (df (oF 1) nZ)))) hv yT (zM hw hc.2 (by intro q hq i l he;subst he;simp at hq;omega) (by decide) (by intro q hq l he;subst he;first|(simp at hq;done)|(simp at hq;subst hq;decide)))
   · have hq:gC e.kind=some [.num 1 1,.num 5 0,.num 6 0,.num 7 1,.txt [17]]:=by rw[q];rfl
     have hc:=zJ hv hq;rw[hq];exact yC e hw.small ⟨[.num 106 1,.num 110 0,.num 116 0,.num 111 1,.txt 118],106,[117,119]⟩ [.num 1 1,.num 5 0,.num 6 0,.num 7 1,.txt [17]] w hp (fun W=>by rw[q];exact Nj W) rfl (by decide) (df (nY 1) (df (tO 0) (df (AT 0) (df (LW 1) (df (Yl) nZ))))) hv yT (zM hw hc.2 (by intro q hq i l he;subst he;simp at hq;omega) (by decide) (by intro q hq l he;subst he;first|(simp at hq;done)|(simp at hq;subst hq;decide)))
   · have hq:gC e.kind=some [.num 8 1,.num 5 0]:=by rw[q];rfl
     have hc:=zJ hv hq;rw[hq];exact yC e hw.small ⟨[.num 107 1,.num 110 0],107,[]⟩ [.num 8 1,.num 5 0] w hp (fun W=>by rw[q];exact Nk W) rfl (by decide) (df (oF 1) (df (tO 0) nZ)) hv yT (zM hw hc.2 (by intro q hq i l he;subst he;simp at hq;omega) (by decide) (by intro q hq l he;subst he;first|(simp at hq;done)|(simp at hq;subst hq;decide)))
   · have hq:gC e.kind=some [.num 1 1,.num 5 0,.num 6 0,.num 9 1,.num 10 1]:=by rw[q];rfl
     have hc:=zJ hv hq;rw[hq];exact yC e hw.small ⟨[.num 106 1,.num 110 0,.num 116 0,.num 120 1,.num 121 1],106,[117]⟩ [.num 1 1,.num 5 0,.num 6 0,.num 9 1,.num 10 1] w hp (fun W=>by rw[q];exact Nl W) rfl (by decide) (df (nY 1) (df (tO 0) (df (AT 0) (df (LX 1) (df (Yk 1) nZ))))) hv yT (zM hw hc.2 (by intro q hq i l he;subst he;simp at hq;omega) (by decide) (by intro q hq l he;subst he;first|(simp at hq;done)|(simp at hq;subst hq;decide)))
   · have hq:gC e.kind=some [.num 8 1,.txt [15,16]]:=by rw[q];rfl
     have hc:=zJ hv hq;rw[hq];exact yC e hw.small ⟨[.num 107 1,.txt 114],107,[115]⟩ [.num 8 1,.txt [15,16]] w hp (fun W=>by rw[q];exact Nn W) rfl (by decide) (df (oF 1) (df (LY) nZ)) hv yT (zM hw hc.2 (by intro q hq i l he;subst he;simp at hq;omega) (by decide) (by intro q hq l he;subst he;first|(simp at hq;done)|(simp at hq;subst hq;decide)))
   · have hq:gC e.kind=some [.num 1 1,.num 8 1,.num 9 1]:=by rw[q];rfl
     have hc:=zJ hv hq;rw[hq];exact yC e hw.small ⟨[.num 106 1,.num 107 1,.num 120 1],106,[]⟩ [.num 1 1,.num 8 1,.num 9 1] w hp (fun W=>by rw[q];exact Np W) rfl (by decide) (df (nY 1) (df (oF 1) (df (LX 1) nZ))) hv yT (zM hw hc.2 (by intro q hq i l he;subst he;simp at hq;omega) (by decide) (by intro q hq l he;subst he;first|(simp at hq;done)|(simp at hq;subst hq;decide)))
 · simp only[hv]
   have HV:=hZ (fun W (h:Below w.heap.size w W)=>zK e hw.small W (hp.below h));rw[show bE e=false by simpa using hv] at HV;have IE:=hZ (di (e:=e));clear hw hp hv
   go_enter Tryz.func69,Tryz.ntmps69
   go_wp2_with (first
    | ((with_reducible refine ff rfl (.tmp 0) rfl e ?hx ?_);(case hx=>rfl);intro w1 aH aq aP
       have aF:=hZ aq;have cX:=hZ (bl (cs:=e.cells) aH)
       clear aH aq aP)
    |(with_reducible refine lx (.tmp 1) w.heap.size 0 cX.out IE.out bk ?_)
    | (go_at_call 20;(with_reducible refine(HV.out _ aF.out).mono ?_);rintro e2 w2 ⟨rfl,aA⟩
       have aG:=aw aF aA
       clear aA)
    |fail)
   have tS:(.returned (.tuple #[.string ⟨#[]⟩,.int .i64 180]):Ending)=.returned (.tuple #[.string ⟨#[]⟩,.int .i64 180])∧Below w.heap.size w w2:=⟨rfl,aG.out⟩;refine bodyPost_ret (v:=.tuple #[.string ⟨#[]⟩,.int .i64 180]) (by simp[results]) rfl ?_;simpa using tS
def bs (l:List UInt8):ByteArray:=⟨l.toArray⟩
def DX (a b:List UInt8):Bool:= !(Op.bytesLess (bs a).toList (bs b).toList||(bs a).toList==(bs b).toList)
def sameKey (e f:af):Bool:=(bs (aI e)).toList==(bs (aI f)).toList
def dF (e f:af):Bool:=bE e&&(bE f&&(sameKey e f&&(decide (f.bR<e.bR)||(decide (e.bR=f.bR)&&DX (kL e) (kL f)))))
theorem al9 (e f:af) (he:e.oE) (hf:f.oE) (w:ae) (hp:dY w) (hv:bE e=true) (hu:bE f=true):ax ah 22 #[e.val,f.val] w (cC w (dF e f)):=by
 have yY:dF e f=(sameKey e f&&(decide (f.bR<e.bR)||(decide (e.bR=f.bR)&&DX (kL e) (kL f)))):=by unfold dF;rw[hv,hu];rfl
 rw[yY];have HE:Hid (∀W,Below w.heap.size w W→ax ah 69 #[e.val] W (xV W (kL e))):=hZ (fun W h=>(E9 e he W (hp.below h)).mono fun _ _ q=>by unfold o9 at q;rw[if_pos hv] at q;exact q);have HF:Hid (∀W,Below w.heap.size w W→ax ah 69 #[f.val] W (xV W (kL f))):=hZ (fun W h=>(E9 f hf W (hp.below h)).mono fun _ _ q=>by unfold o9 at q;rw[if_pos hu] at q;exact q);have Ey:=hZ (fun W (h:Below w.heap.size w W)=>JY e he.small W (hp.below h));have Ez:=hZ (fun W (h:Below w.heap.size w W)=>JY f hf.small W (hp.below h));have IE:=hZ (di (e:=e));have IF:=hZ (di (e:=f));obtain⟨se,tX⟩:=oQ (bs (kL e));obtain⟨sf,zc⟩:=oQ (bs (kL f));obtain⟨ke,yR⟩:=oQ (bs (aI e));obtain⟨kf,yS⟩:=oQ (bs (aI f));have hG:DX (kL e) (kL f)= !(Op.bytesLess se.toList sf.toList||se.toList==sf.toList):=by unfold DX;rw[tX,zc]
 have hS:sameKey e f=(ke.toList==kf.toList):=by unfold sameKey;rw[yR,yS]
 rw[hG,hS];unfold bs at tX zc yR yS;have jh:=hZ tX;have PF:=hZ zc;have O9:=hZ yR;have O':=hZ yS;clear he hf hp hv hu yY hG hS tX zc yR yS
 go_enter adD,aeL
 go_wp2_with (first
  | ((with_reducible refine ff rfl (.tmp 0) rfl e ?hx ?_);(case hx=>rfl);intro w1 aH aq aP
     have cW:=hZ aH;have aF:=hZ aq;obtain⟨b1,oL⟩:=oQ (w.heap.size);have fF:=hZ oL;have Cp:Hid (aR w1 b1 e):=hZ (by rw[←oL];exact aH);rw[oL]
     clear aH aq aP oL)
  | ((with_reducible refine ff rfl (.tmp 1) rfl f ?hx ?_);(case hx=>rfl);intro w2 fx aA eO
     have aG:=aw aF aA;have cK:=hZ (Cp.out.below aA);obtain⟨b2,qi⟩:=oQ (w1.heap.size);have fV:Hid (aR w2 b2 f):=hZ (by rw[←qi];exact fx);rw[qi];have kG:=hZ (bl (cs:=e.cells) cK.out)
     clear fx aA eO qi)
  |(with_reducible refine lx (.tmp 2) b1 0 kG.out IE.out bk ?_)
  | (go_at_call 69;(with_reducible refine(HE.out _ aG.out).mono ?_);rintro e3 w3 ⟨rfl,aK⟩
     have a_:=aw aG aK;have jE:=hZ (cK.out.below aK);have j8:=hZ (fV.out.below aK);have CJ:=hZ (bl (cs:=f.cells) j8.out);rw[jh.out]
     clear aK)
  |(with_reducible refine lx (.tmp 3) b2 0 CJ.out IF.out bk ?_)
  | (go_at_call 69;(with_reducible refine(HF.out _ a_.out).mono ?_);rintro e4 w4 ⟨rfl,cQ⟩
     have bJ:=aw a_ cQ;have mS:=hZ (jE.out.below cQ);have j9:=hZ (j8.out.below cQ);rw[PF.out]
     clear cQ)
  |fail)
 have bu:aR w4.drew b1 e∧aR w4.drew b2 f:=⟨mS.out,j9.out⟩;refine cJ (fun U=>aR U b1 e∧aR U b2 f) bu fun hHeld=>?_;refine bg 0 1 2 3 ?_;refine dr 4 5 6 ?_;refine tl 7 rfl (yx b1 0 IE.out bk (fun w hw=>bl hw.1)) ?_;refine tl 9 rfl (yx b2 0 IF.out bk (fun w hw=>bl hw.2)) ?_;refine rE 8 fun K hK=>?_;go_simp;have rS:Hid (Below w.heap.size w w4.drew):=hZ (Below.drew bJ.out)
 (with_reducible refine(Ey.out _ rS.out).mono ?_)
 rintro e5 w5 ⟨rfl,cn⟩;have cT:=hZ (rS.out.trans (cn.mono rS.out.size));have nP:=hZ (bu.1.below cn);have lK:=hZ (bu.2.below cn);rw[O9.out];clear cn;refine kk hK (⟨nP.out,lK.out⟩) fun hHeld=>?_;clear hK K;refine rE 10 fun K hK=>?_;go_simp
 (with_reducible refine(Ez.out _ cT.out).mono ?_)
 rintro e6 w6 ⟨rfl,eB⟩;have dM:=aw cT eB;have pT:=hZ (nP.out.below eB);have Ah:=hZ (lK.out.below eB);rw[O'.out];clear eB;refine kk hK (⟨pT.out,Ah.out⟩) fun hHeld=>?_;clear hK K;refine eC 11 12 ?_;refine dn ?_;have v1:=pT.out.cell (i:=2) rfl;have v2:=Ah.out.cell (i:=2) rfl;clear hHeld;obtain⟨sk,JH⟩:=oQ ((ke.toList==kf.toList));obtain⟨c1,fX⟩:=oQ (decide (f.bR<e.bR));obtain⟨c2,eo⟩:=oQ (decide (e.bR=f.bR))
 cases sk<;>cases c1<;>cases c2<;>
 · rw[JH]
   have fh:(e.bR==f.bR)=decide (e.bR=f.bR):=rfl;rw[eo] at fh;go_wp2;go_ret;refine⟨?_,dM.out⟩;rw[JH,fX,eo]
   first|rfl|simp
theorem abC (e f:af) (he:e.oE) (hf:f.oE) (w:ae) (hp:dY w) (ve vf:Bool) (hv:bE e=ve) (hu:bE f=vf) (hb:(ve&&vf)=false):ax ah 22 #[e.val,f.val] w (cC w false):=by
 obtain⟨se,ce,HE⟩:∃(se:ByteArray) (ce:Int),Hid (∀W,Below w.heap.size w W→ax ah 69 #[e.val] W (fun r w'=>r=.returned (.tuple #[.string se,.int .i64 ce])∧Below W.heap.size W w'))∧Hid ((ce !=0)= !ve):=by
  cases ve
  · exact⟨⟨#[]⟩,180,hZ (fun W h=>(E9 e he W (hp.below h)).mono fun _ _ q=>by unfold o9 at q;rw[if_neg (by rw[hv];decide)] at q;exact q),hZ rfl⟩
  · exact⟨_,0,hZ (fun W h=>(E9 e he W (hp.below h)).mono fun _ _ q=>by unfold o9 at q;rw[if_pos hv] at q;exact q),hZ rfl⟩
 obtain⟨sf,cf,HF⟩:∃(sf:ByteArray) (cf:Int),Hid (∀W,Below w.heap.size w W→ax ah 69 #[f.val] W (fun r w'=>r=.returned (.tuple #[.string sf,.int .i64 cf])∧Below W.heap.size W w'))∧Hid ((cf !=0)= !vf):=by
  cases vf
  · exact⟨⟨#[]⟩,180,hZ (fun W h=>(E9 f hf W (hp.below h)).mono fun _ _ q=>by unfold o9 at q;rw[if_neg (by rw[hu];decide)] at q;exact q),hZ rfl⟩
  · exact⟨_,0,hZ (fun W h=>(E9 f hf W (hp.below h)).mono fun _ _ q=>by unfold o9 at q;rw[if_pos hu] at q;exact q),hZ rfl⟩
 obtain⟨HE,hce⟩:=HE;obtain⟨HF,yM⟩:=HF;have IE:=hZ (di (e:=e));have IF:=hZ (di (e:=f));have hce:=hce.out;have yM:=yM.out
 have Dm:(ce !=0)=true∨((ce !=0)=false∧(cf !=0)=true):=by
  rw[hce,yM];cases ve<;>cases vf<;>simp at hb⊢
 have OU:=hZ Dm;clear he hf hp hv hu hb hce yM Dm
 go_enter adD,aeL
 go_wp2_with (first
  | ((with_reducible refine ff rfl (.tmp 0) rfl e ?hx ?_);(case hx=>rfl);intro w1 aH aq aP
     have aF:=hZ aq;obtain⟨b1,oL⟩:=oQ (w.heap.size);have Cp:Hid (aR w1 b1 e):=hZ (by rw[←oL];exact aH);rw[oL]
     clear aH aq aP oL)
  | ((with_reducible refine ff rfl (.tmp 1) rfl f ?hx ?_);(case hx=>rfl);intro w2 fx aA eO
     have aG:=aw aF aA;have cK:=hZ (Cp.out.below aA);obtain⟨b2,qi⟩:=oQ (w1.heap.size);have fV:Hid (aR w2 b2 f):=hZ (by rw[←qi];exact fx);rw[qi];have kG:=hZ (bl (cs:=e.cells) cK.out)
     clear fx aA eO qi)
  |(with_reducible refine lx (.tmp 2) b1 0 kG.out IE.out bk ?_)
  | (go_at_call 69;(with_reducible refine(HE.out _ aG.out).mono ?_);rintro e3 w3 ⟨rfl,aK⟩
     have a_:=aw aG aK;have j8:=hZ (fV.out.below aK);have CJ:=hZ (bl (cs:=f.cells) j8.out)
     clear aK)
  |(with_reducible refine lx (.tmp 3) b2 0 CJ.out IF.out bk ?_)
  | (go_at_call 69;(with_reducible refine(HF.out _ a_.out).mono ?_);rintro e4 w4 ⟨rfl,cQ⟩
     have bJ:=aw a_ cQ
     clear cQ)
  |fail)
 have rS:Hid (Below w.heap.size w w4.drew):=hZ (Below.drew bJ.out);have bu:True:=trivial;rcases OU.out with z1|⟨z1,z2⟩
 ·
  refine cJ (fun _=>True) bu fun hHeld=>?_;refine dr 0 1 2 ?_;refine tn 3 ?_;refine tn 4 ?_;refine eC 5 6 ?_;refine tn 7 ?_;refine tn 8 ?_;refine tn 9 ?_;refine tn 10 ?_;refine tn 11 ?_;refine tk 12 ?_;refine dn ?_;go_wp2;go_ret;exact⟨rfl,rS.out⟩
 ·
  refine cJ (fun _=>True) bu fun hHeld=>?_;refine bg 0 1 2 3 ?_;refine dr 4 5 6 ?_;refine tn 7 ?_;refine tn 8 ?_;refine tn 9 ?_;refine tn 10 ?_;refine tn 11 ?_;refine tk 12 ?_;refine dn ?_;go_wp2;go_ret;exact⟨rfl,rS.out⟩
theorem abD (e f:af) (he:e.oE) (hf:f.oE) (w:ae) (hp:dY w):ax ah 22 #[e.val,f.val] w (cC w (dF e f)):=by
 cases hv:bE e with
 | false=>
   (have:dF e f=false:=by unfold dF;rw[hv];rfl);rw[this]
   exact abC e f he hf w hp false _ hv rfl rfl
 | true=>
   cases hu:bE f with
   | false=>
     (have:dF e f=false:=by unfold dF;rw[hv,hu];rfl);rw[this]
     exact abC e f he hf w hp true false hv hu rfl
   |true=>exact al9 e f he hf w hp hv hu
end Go.Proofs.YteeifhlhpiimoaaGreatDoor
end
section
namespace Go.Proofs.YteeifhlhpiimoaaGreatDoor
open Go Go.RowKit Go.Shelf Go.Maps Wr
attribute [local go_sem] Oper.semAt_some
theorem ah8 {a b:ByteArray} (h:a.data=b.data):a=b:=by cases a;cases b;cases h;rfl
theorem af.val_inj {e f:af} (h:e.val=f.val):e=f:=by
 cases e;cases f;simp[af.val,af.cells] at h;simp[h]
noncomputable def qy (v:ai):Option (oq af×List MemPlace):=open Classical in if h:∃e:af,v=e.val then some (.held h.choose,[]) else none
theorem abN (e:af):qy e.val=some (.held e,[]):=by
 unfold qy;have h:∃x:af,e.val=x.val:=⟨e,rfl⟩;rw[dif_pos h];rw[←af.val_inj h.choose_spec]
theorem J5 {v:ai} {y:oq af×List MemPlace} (h:qy v=some y):∃e:af,v=e.val∧y=(.held e,[]):=by
 unfold qy at h
 split at h
 · rename_i hx
   exact⟨_,hx.choose_spec,(Option.some.inj h).symm⟩
 · cases h
def il (k:List UInt8):Lit:=.string k
theorem FT {a b:List UInt8} (h:il a=il b):a=b:=by injection h
theorem aaS (k:List UInt8):WideAt.IsKeyLit (il k):=trivial
structure ph (D:oq af) (acc:List af):Prop where
 isMap:IsMap D
 BE:ib aI acc
 at_:∀e∈acc,∀z,D.atKey (il (aI e)) z=.held e
 no:∀kl,(∀e∈acc,il (aI e)≠kl)→has D kl=false
theorem ph.nil:ph (.map []) []:=⟨isMap_empty,KN,fun e h=>(by cases h),fun kl _=>rfl⟩
theorem ph.has {D:oq af} {acc:List af} (h:ph D acc) {e:af} (he:e∈acc):Maps.has D (il (aI e))=true:=has_true_of_atKey (h.at_ e he)
theorem ph.put {D:oq af} {acc CV:List af} (h:ph D acc) (e:af) (hk:ib aI CV) (hm:∀x,x∈CV↔x=e∨(x∈acc∧aI x≠aI e)):ph (D.put (il (aI e)) (.held e)) CV:=by
 refine⟨h.isMap.put _ _,hk,fun x hx z=>?_,fun kl ic=>?_⟩
 · rcases(hm x).1 hx with rfl|⟨h1,h2⟩
   · exact atKey_put_same h.isMap (aaS _) _ _
   · rw[atKey_put_other (fun q=>h2 (FT q))];exact h.at_ x h1 z
 · rw[has_put_other (fun q=>ic e ((hm e).2 (.inl rfl)) q.symm)]
   refine h.no kl fun x hx q=>?_
   by_cases sO:aI x=aI e
   · exact ic e ((hm e).2 (.inl rfl)) (by rw[←sO];exact q)
   · exact ic x ((hm x).2 (.inr ⟨hx,sO⟩)) q
theorem ph.del {D:oq af} {acc CV:List af} (h:ph D acc) (k:List UInt8) (hk:ib aI CV) (hm:∀x,x∈CV↔x∈acc∧aI x≠k):ph (D.del (il k)) CV:=by
 refine⟨h.isMap.del _,hk,fun x hx z=>?_,fun kl ic=>?_⟩
 · obtain⟨h1,h2⟩:=(hm x).1 hx
   rw[atKey_del_other (fun q=>h2 (FT q))];exact h.at_ x h1 z
 · by_cases iR:kl=il k
   · subst iR;exact has_del_same
   · rw[has_del_other iR]
     refine h.no kl fun x hx q=>?_
     by_cases sO:aI x=k
     · exact iR (by rw[←q,sO])
     · exact ic x ((hm x).2 ⟨hx,sO⟩) q
theorem ph.out {D:oq af} {acc:List af} (h:ph D acc) {kl:Lit} {y:oq af} (mD:∀z,D.atKey kl z=y):∃e∈acc,kl=il (aI e)∧y=.held e:=by
 have hh:=has_true_of_atKey mD;apply Classical.byContradiction;intro hn;have:=h.no kl fun e he q=>hn ⟨e,he,q.symm,by rw[←mD .nil,←q];exact h.at_ e he _⟩;rw[hh] at this;cases this
theorem DT:Keyed ah 9:=string_keyed qE
theorem aaR (k:List UInt8) (h:k.length≤cH):keyOf ah 9 (.string (bs k))=some (il k):=WideMaps.keyOf_string_mk qE (by show k.toArray.size≤_;simpa using h)
theorem MI (e:af):(aI e).length≤cH:=by
 unfold aI
 split
 · have h1:=ug e.kind
   have h2:=ug (e.num (oW e.kind));rw[List.length_append];unfold cH;omega
 · simp
theorem apv (w:ae):(zeroValue 33).run ah w=.ok aW.val w:=by kernel_rfl
def kJ (w:ae) (b n:Nat) (acc:List af):Prop:=∃D:oq af,w.ownsMap ah 9 qy b n D∧ph D acc
theorem kJ.mono {w:ae} {b n m:Nat} {acc:List af} (h:kJ w b n acc) (hn:n≤m):kJ w b m acc:=by
 obtain⟨D,h1,h2⟩:=h;exact⟨D,h1.mono hn,h2⟩
theorem kJ.lt {w:ae} {b n:Nat} {acc:List af} (h:kJ w b n acc):b<w.heap.size:=by
 obtain⟨D,h1,_⟩:=h;exact h1.lt
theorem sz {w w':ae} (h:Below w.heap.size w w'):w.grownBy w' none:=⟨h.os,h.tape,h.output,h.size,fun k hk _=>h.block k hk⟩
theorem kJ.below {w w':ae} {b n:Nat} {acc:List af} (h:kJ w b n acc) (hb:Below w.heap.size w w'):kJ w' b n acc:=by
 obtain⟨D,h1,h2⟩:=h;exact⟨D,h1.kept (sz hb) (by simp),h2⟩
theorem kJ.made (w:ae):kJ (w.alloc (.map #[] 0)) w.heap.size 0 []:=⟨_,World.ownsMap_made w _ _ _,ph.nil⟩
theorem kJ.look {w:ae} {b n:Nat} {acc:List af} (h:kJ w b n acc) (k:List UInt8) (hk:k.length≤cH):
 (Instr.lookup 100 (.map (some b)) (.string (bs k)) true).run ah w=.ok (.tuple #[((acc.find? fun x=>decide (aI x=k)).getD aW).val,.bool (acc.find? fun x=>decide (aI x=k)).isSome]) w:=by
 obtain⟨D,h1,h2⟩:=h;obtain⟨v,ps,hr,hv⟩:=h1.look_ok DT N_ (apv w) (abN aW) (aaR k hk);rw[hr];obtain⟨e,rfl,he⟩:=J5 hv
 cases hf:acc.find? (fun x=>decide (aI x=k)) with
 | none=>
   have hn:has D (il k)=false:=h2.no _ fun x hx q=>by
    have:=List.find?_eq_none.1 hf x hx;exact this (by simp[FT q])
   rw[hn]
   have:(DataW.held e:oq af)=.held aW:=by
    have:=congrArg Prod.fst he;simp only at this;rw[←this];exact atKey_of_not_has hn _
   have fx:e=aW:=by injection this
   rw[fx,Option.getD_none,Option.isSome_none]
 | some x=>
   obtain⟨hx,nt⟩:=LU hf;subst nt;rw[h2.has hx]
   have:(DataW.held e:oq af)=.held x:=by
    have:=congrArg Prod.fst he;simp only at this;rw[←this];exact h2.at_ x hx _
   (have fx:e=x:=by injection this);rw[fx,Option.getD_some,Option.isSome_some]
def zq (acc:List af) (e:af):List af:=match acc.find? (fun x=>decide (aI x=aI e)) with
 |none=>acc++[e]
 |some _=>acc.map (fun x=>if aI x=aI e then e else x)
theorem amb {acc:List af} (_h:ib aI acc) (e x:af):x∈zq acc e↔x=e∨(x∈acc∧aI x≠aI e):=by
 unfold zq
 cases hf:acc.find? (fun x=>decide (aI x=aI e)) with
 | none=>
   have:=LV hf;simp only[List.mem_append,fQ];constructor
   · rintro(q|q)
     · exact .inr ⟨q,this x q⟩
     · exact .inl q
   · rintro(q|q)
     · exact .inr q
     · exact .inl q.1
 | some old=>
   obtain⟨ho,hk⟩:=LU hf;simp only[List.mem_map];constructor
   · rintro⟨y,hy,q⟩
     split at q
     · exact .inl q.symm
     · subst q;rename_i bf;exact .inr ⟨hy,bf⟩
   · rintro(q|⟨q1,q2⟩)
     · exact⟨old,ho,by rw[if_pos hk,q]⟩
     · exact⟨x,q1,by rw[if_neg q2]⟩
theorem ama {acc:List af} (h:ib aI acc) (e:af):ib aI (zq acc e):=by
 unfold zq
 split
 · rename_i hf
   refine List.pairwise_append.2 ⟨h,List.pairwise_singleton _ _,fun a ha b hb=>?_⟩;rw[fQ.1 hb];exact LV hf a ha
 · refine agz _ (fun a b d_=>?_) h
   by_cases ha:aI a=aI e
   · by_cases hb:aI b=aI e
     · exact(d_ (ha.trans hb.symm)).elim
     · rw[if_pos ha,if_neg hb];exact fun q=>hb q.symm
   · by_cases hb:aI b=aI e
     · rw[if_neg ha,if_pos hb];exact ha
     · rw[if_neg ha,if_neg hb];exact d_
theorem kJ.BE {w:ae} {b n:Nat} {acc:List af} (h:kJ w b n acc):ib aI acc:=by
 obtain⟨D,_,h2⟩:=h;exact h2.BE
theorem acN {ops:Array aZ} {rest:List aZ} {o:aZ} {a:cu} {w:ae} {Q:Exit→cu→ae→Prop} (hg:o.guard=none) (m x v:ef) (FE:o.op=Op.mapUpdate 100 m x v) (hd:o.dst=none)
 (b n:Nat) (acc:List af) (h:kJ w b n acc) (hn:n<cH) (e:af) (hm:a.eval m=.map (some b)) (hx:a.eval x=.string (bs (aI e))) (hv:a.eval v=e.val)
 (hK:∀w',kJ w' b (n+1) (zq acc e)→w.grownBy w' (some b)→dT ah ops Q rest a w'):dT ah ops Q (o::rest) a w:=by
 obtain⟨D,h1,h2⟩:=h;refine wpList_mapUpdate_own w hg m x v 100 FE 9 33 DT N_ qy b n D hm h1 hn _ _ (il (aI e)) hx hv (aaR _ (MI e)) (.held e) [] (abN e) ?_;intro w' r1 r2;rw[hd];exact hK w' ⟨_,r1,h2.put e (ama h2.BE e) fun y=>amb h2.BE e y⟩ r2
theorem Yc (k:ai) (e:af) (w:ae):ax ah 101 #[k,e.val] w (cC w e.gone):=by
 go_enter Uq,Tryz.ntmps101
 go_wp2_with (first
  | ((with_reducible refine ff rfl (.tmp 1) rfl e ?hx ?_);(case hx=>rfl);intro w1 aH aq aP
     have x1:=aH.cell (i:=4) rfl;have aF:=hZ aq
     clear aH aq aP)
  |fail)
 go_ret;exact⟨rfl,aF.out⟩
theorem aaQ {key:ai} {kl:Lit} (h:keyOf ah 9 key=some kl):∃s:ByteArray,key=.string s:=by
 cases key<;>simp[keyOf,mapKey,qE] at h;exact⟨_,rfl⟩
def rz (acc:List af) (left:Lit→Bool):List af:=acc.filter fun e=> !e.gone||left (il (aI e))
theorem ald {acc:List af} (h:ib aI acc) (left:Lit→Bool):ib aI (rz acc left):=Vh _ h
theorem TB (left:Lit→Bool) (kl:Lit) {e:af} (h:il (aI e)≠kl):(left (il (aI e))&& !(il (aI e)).sameKey kl)=left (il (aI e)):=by
 rw[sameKey_ne h];simp
theorem acs (left:Lit→Bool) (k:List UInt8):(left (il k)&& !(il k).sameKey (il k))=false:=by
 rw[WideAt.sameKey_self (aaS k)];simp
theorem ale {acc:List af} (hk:ib aI acc) {left:Lit→Bool} {e:af} (he:e∈acc) (hg:e.gone=false):rz acc (fun z=>left z&& !z.sameKey (il (aI e)))=rz acc left:=by
 unfold rz;refine agF fun x hx=>?_
 by_cases sO:aI x=aI e
 · rw[hk.one hx he sO,hg];simp
 · have:=TB left (il (aI e)) (fun q=>sO (FT q))
   simp only[this]
theorem alf {acc:List af} (hk:ib aI acc) {left:Lit→Bool} {e:af} (he:e∈acc) (hg:e.gone=true) (x:af):x∈rz acc (fun z=>left z&& !z.sameKey (il (aI e)))↔x∈rz acc left∧aI x≠aI e:=by
 unfold rz;simp only[Em]
 by_cases sO:aI x=aI e
 · constructor
   · rintro⟨hx,q⟩
     obtain rfl:=hk.one hx he sO;rw[hg,acs] at q;simp at q
   · rintro⟨_,q⟩;exact(q sO).elim
 · rw[TB left _ (fun q=>sO (FT q))]
   simp[sO]
theorem aiH (b n:Nat) (acc:List af) (w:ae) (h:kJ w b n acc):
 ax ah 100 #[.map (some b),.func (.func 101) #[] #[]] w fun e w'=>e=.returned (.tuple #[])∧kJ w' b n (acc.filter fun e=> !e.gone)∧w.grownBy w' (some b):=by
 obtain⟨D,jq,wZ⟩:=h;have CI:=hZ wZ;have IE:=fun e:af=>hZ (di (e:=e))
 have aak:ph D (rz acc (has D)):=by
  have:rz acc (has D)=acc:=by
   unfold rz;rw[List.filter_eq_self];intro x hx;rw[wZ.has hx];simp
  rw[this];exact wZ
 have bS:=hZ aak;have aiT:∀args W,(xM 101 args).run ah W=.ok (.enter 101 args) W:=enters_of Uq (by kernel_rfl) rfl;clear wZ aak
 go_enter Tryz.func100,Tryz.ntmps100
 go_wp2_with (first
  |(at_range;refine wpList_range_own _ rfl _ 100 rfl 9 33 DT N_ qy b n _ rfl jq ?_;intro w0 aac tU bU)
  |fail)
 go_frame
 go_loopw [8] (fun _ wr=> ∃(D':oq af) (left:Lit→Bool) (AJ:Nat),wr.ranges ah 9 qy b w.heap.size n D' left AJ∧ph D' (rz acc left)∧w.grownBy wr (some b))
  (fun _ wr=>wr.rangeLeft b w.heap.size)
 case atStart=>exact⟨_,_,_,aac,bS.out,tU.but _⟩
 case round=>
  obtain⟨D',left,AJ,cP,wZ,Zw⟩:=hrel;have Lk:=hZ wZ;have VX:=hZ Zw;clear aac tU bU wZ Zw
  go_wp2_with (first
   |(at_next;refine wpList_next_ranges _ rfl _ rfl 9 DT qy Value.string af.val (fun _ _ q=>aaQ q) (fun v y q=>(J5 q).imp fun _ q=>q.1) b w.heap.size n _ _ _ rfl cP ?_ ?_)
   |fail)
  · intro _ qn
    go_wp2
    go_end0
    refine⟨rfl,⟨D',cP.owns,?_⟩,VX.out⟩
    have:rz acc left=acc.filter fun e=> !e.gone:=by
     unfold rz;refine agF fun x _=>?_;rw[qn];simp
    rw[←this];exact Lk.out
  · intro x c kl yd yp w1 aiq Mr Ms hv mD za ar ep aP Dt
    obtain⟨e,he,rfl,zg⟩:=Lk.out.out mD;obtain⟨c2,eo,oV⟩:=J5 hv;obtain rfl:c=c2:=af.val_inj eo
    have hce:c=e:=by
     have:=congrArg Prod.fst oV;simp only at this;rw[zg] at this;injection this with this;exact this.symm
    subst hce;have Wz:=hZ za;have VY:=hZ (VX.out.andThen ep (fun j hj=>by cases hj;exact Or.inl (aB _)));have HX:=hZ (And.intro Mr he);have aL:=hZ ar;have Hs:=hZ cP;have EC:Hid (c∈acc):=hZ (by unfold rz at he;exact(Em.1 he).1);clear Mr Ms hv mD za ar ep aP eo oV zg he cP;cases Ml:c.gone
    · go_wp2_with (first
       | ((with_reducible refine oh rfl (.tmp 5) (.tmp 12) rfl rfl c rfl rfl ?hi ?ho ?_);(case hi=>exact(IE c).out);(case ho=>rfl);intro w2 fx aA eO
          have Ht:=hZ (Wz.out.kept (sz aA) (by simp) (by simp));have O4:=hZ (VY.out.andThen (sz aA) (fun j hj=>by cases hj));have HC:=hZ (Yc (.string x) c w2);have HR:=hZ (bl (cs:=c.cells) fx);rw[Ml] at HC
          clear fx aA eO)
       |(with_reducible refine lx (.tmp 5) w1.heap.size 0 HR.out (IE c).out bk ?_)
       | (go_at_fn 101;refine HC.out.mono ?_;rintro e3 w3 ⟨rfl,aK⟩
          have Ll:=hZ (Ht.out.kept (sz aK) (by simp) (by simp));have O5:=hZ (O4.out.andThen (sz aK) (fun j hj=>by cases hj))
          clear aK)
       |fail)
      go_roundw
      case rel=>
       refine⟨_,_,_,Ll.out,?_,O5.out⟩;rw[ale CI.out.BE EC.out Ml];exact Lk.out
      case measure=>rw[Ll.out.left_eq,Hs.out.left_eq];exact aL.out
    · go_wp2_with (first
       | ((with_reducible refine oh rfl (.tmp 5) (.tmp 12) rfl rfl c rfl rfl ?hi ?ho ?_);(case hi=>exact(IE c).out);(case ho=>rfl);intro w2 fx aA eO
          have Ht:=hZ (Wz.out.kept (sz aA) (by simp) (by simp));have O4:=hZ (VY.out.andThen (sz aA) (fun j hj=>by cases hj));have HC:=hZ (Yc (.string x) c w2);have HR:=hZ (bl (cs:=c.cells) fx);rw[Ml] at HC
          clear fx aA eO)
       |(with_reducible refine lx (.tmp 5) w1.heap.size 0 HR.out (IE c).out bk ?_)
       | (go_at_fn 101;refine HC.out.mono ?_;rintro e3 w3 ⟨rfl,aK⟩
          have Ll:=hZ (Ht.out.kept (sz aK) (by simp) (by simp));have O5:=hZ (O4.out.andThen (sz aK) (fun j hj=>by cases hj))
          clear aK)
       | (at_delete;refine wpList_delete_ranges _ rfl _ _ 100 9 rfl 33 DT N_ qy b w.heap.size n _ _ _ rfl Ll.out _ _ rfl HX.out.1 ?_
          intro w4 apP Sf hle aao;rw[strike_twice] at Sf;have Lm:=hZ Sf;have ahm:=hZ (O5.out.andThen aao.grown (fun j hj=>by cases hj;exact Or.inr rfl));have jR:=hZ hle;clear Sf hle aao
          go_frame)
       |fail)
      go_roundw
      case rel=>
       exact⟨_,_,_,Lm.out,Lk.out.del (aI c) (ald CI.out.BE _) (fun z=>alf CI.out.BE EC.out Ml z),ahm.out⟩
      case measure=>rw[Lm.out.left_eq,Hs.out.left_eq];exact Nat.lt_of_le_of_lt jR.out aL.out
theorem xy {P:eI} {ops:Array aZ} {Q:Exit→cu→ae→Prop} {a:cu} {w:ae} {rest:List aZ} {o:aZ} (hw:eD o (gJ ops a.tmps)=true) (ty:bF) (x:ef) (ho:o.op=.load ty x)
 (b k:Nat) (hx:a.eval x=.pointer (some ⟨b,k,none⟩)) (cs:List ai) (d:U3) (hc:w.rangeAt b k cs)
 (hu:P.underlying ty=some d) (hd:d.isRow=true) (hi:(P.info? ty).map (·.size)=some cs.length)
 (h:dT P ops Q rest (a.put o.dst (.agg cs.toArray)) w):dT P ops Q (o::rest) a w:=by
 refine wpList_step fun K hK=>?_;rw[if_pos hw];exact wp_load_mid ty x ho b k hx cs d hc hu hd hi (hK _ _ h)
def eT (day:Int) (e:af):Bool:=bE e&&decide (e.day≤day)
def eG (l:List af) (day:Int):List af:=(tL (eT day) aI dF l).filter fun e=> !e.gone
theorem aiX (l:List af) (day:Int) (A:Option Addr) (n c:Nat) (hn:l.length=n) (hm:n≤1000000) (w:ae) (hA:eW w (bV w) A l) (hw:∀e∈l,e.oE) (hp:dY w):
 ax ah 57 #[.slice A n c,.int .i64 day] w fun e w'=> ∃b,e=.returned (.map (some b))∧w.heap.size≤b∧kJ w' b n (eG l day)∧Below w.heap.size w w':=by
 have HA:=hZ hA;have CP:=hZ hw;have HP:=hZ hp;have HN:=hZ hn;have IE:=fun e:af=>hZ (di (e:=e));have Bp:= @run_makeMap ah;have aiT:∀args W,(xM 101 args).run ah W=.ok (.enter 101 args) W:=enters_of Uq (by kernel_rfl) rfl;clear hA hw hp hn
 go_enter Tryz.func57,Tryz.ntmps57
 go_wp2_with fail;have r8:=hZ (kJ.made w);obtain⟨wm,MA⟩:=oQ (w.alloc (.map #[] 0));obtain⟨bm,Rg⟩:=oQ (w.heap.size);have de:Hid (Below w.heap.size w wm):=hZ (by rw[←MA];exact aY _ _);rw[MA,Rg] at r8;rw[MA,Rg];have j7:Hid (w.heap.size≤bm):=hZ (by omega);clear MA Rg Bp
 go_loopw [14] (fun v wr=> ∃i:Nat,v=.int .i64 (i:Int)∧i≤n∧kJ wr bm i ((l.take i).foldl (eQ (eT day) aI dF) [])∧Below w.heap.size w wr) (fun v _=>match v with|.int _ k=>n-k.toNat|_=>0)
 case atStart=>exact⟨0,rfl,ei _,r8.out,de.out⟩
 case round=>
 obtain⟨i,rfl,hi,hM,hB⟩:=hrel;have HM:=hZ hM;have HB:=hZ hB;clear hM hB
 by_cases ar:i<n
 · obtain ⟨e,he⟩:∃e,l[i]?=some e:=⟨_,bp (by rw[HN.out];exact ar)⟩
   obtain⟨b,sB,-,cP⟩:=(HA.out.below HB.out) i e he;subst sB;have cX:=hZ cP;have HW:=hZ (CP.out e (List.mem_of_getElem? he));have Lx:Hid (∀x∈(l.take i).foldl (eQ (eT day) aI dF) [],x.oE):=hZ fun x hx=>CP.out x (List.mem_of_mem_take (QE (ok:=eT day) (key:=aI) (prev:=dF) (l.take i) x hx).1)
   have eP:(l.take (i+1)).foldl (eQ (eT day) aI dF) []=eQ (eT day) aI dF ((l.take i).foldl (eQ (eT day) aI dF) []) e:=by
    rw[List.take_add_one,he,List.foldl_append];rfl
   obtain⟨acc,YO⟩:=oQ ((l.take i).foldl (eQ (eT day) aI dF) []);rw[YO] at eP HM Lx;have HT:=hZ eP;(have z1:(0:Int)≤(i:Int):=by omega);(have z2:(i:Int)<(n:Int):=by omega);(have d1:decide (i<n)=true:=by simp[ar]);(have w2:IntKind.i64.wrap ((i:Int)+1)=((i+1:Nat):Int):=by rw[IntKind.wrap_i64];omega);obtain⟨ve,fO⟩:=oQ (bE e);clear he cP eP YO
   cases ve with
   | false=>
     (have eP:(l.take (i+1)).foldl (eQ (eT day) aI dF) []=acc:=by rw[HT.out];unfold eQ;rw[if_neg (by unfold eT;rw[fO];simp)]);have kI:=hZ eP;clear eP
     go_wp2_with (first
      |(with_reducible refine lx (.tmp 16) b (i*18) cX.out (IE e).out bk ?_)
      | ((with_reducible refine oh rfl (.tmp 7) (.tmp 17) rfl rfl e rfl rfl ?hi ?ho ?_);(case hi=>exact(IE e).out);(case ho=>rfl);intro w1 aH aq aP
         have k9:=hZ (HM.out.below aq);have aF:=aw HB aq;have cW:=hZ aH;obtain⟨b7,dE⟩:=oQ (wr.heap.size);rw[dE] at cW;rw[dE];have kF:=hZ (bl (cs:=e.cells) cW.out);have HV:=hZ (zK e HW.out.small w1 (HP.out.below aF.out));rw[fO] at HV
         clear aH aq aP dE)
      |(with_reducible refine lx (.tmp 7) b7 0 kF.out (IE e).out bk ?_)
      | (go_at_call 20;(with_reducible refine HV.out.mono ?_);rintro e2 w2 ⟨rfl,aA⟩
         have h_:=hZ (k9.out.below aA);have aG:=aw aF aA;have cK:=hZ (cW.out.below aA);have j_:=hZ (bl (cs:=e.cells) cK.out);have x3:=cK.out.cell (i:=3) rfl
         clear aA)
      |fail)
     go_round
     case rel=>exact⟨i+1,rfl,by omega,by rw[kI.out];exact h_.out.mono (by omega),aG.out⟩
     case measure=>simp;omega
   | true =>
     by_cases hd:e.day≤day
     · have d2 :decide (day<e.day)=false:=by simp;omega
       (have DK:eT day e=true:=by unfold eT;rw[fO];simp[hd]);have lM:=hZ DK;clear DK hd;obtain⟨fo,Zq⟩:=oQ (acc.find? (fun x=>decide (aI x=aI e)));have HF:=hZ Zq;clear Zq
       cases fo with
       | none=>
         (have eP:(l.take (i+1)).foldl (eQ (eT day) aI dF) []=zq acc e:=by rw[HT.out];unfold eQ zq;rw[if_pos lM.out,HF.out]);have kI:=hZ eP;clear eP
         go_wp2_with (first
          |(with_reducible refine lx (.tmp 16) b (i*18) cX.out (IE e).out bk ?_)
          | ((with_reducible refine oh rfl (.tmp 7) (.tmp 17) rfl rfl e rfl rfl ?hi ?ho ?_);(case hi=>exact(IE e).out);(case ho=>rfl);intro w1 aH aq aP
             have k9:=hZ (HM.out.below aq);have aF:=aw HB aq;have cW:=hZ aH;obtain⟨b7,dE⟩:=oQ (wr.heap.size);rw[dE] at cW;rw[dE];have kF:=hZ (bl (cs:=e.cells) cW.out);have HV:=hZ (zK e HW.out.small w1 (HP.out.below aF.out));rw[fO] at HV
             clear aH aq aP dE)
          |(with_reducible refine lx (.tmp 7) b7 0 kF.out (IE e).out bk ?_)
          | (go_at_call 20;(with_reducible refine HV.out.mono ?_);rintro e2 w2 ⟨rfl,aA⟩
             have h_:=hZ (k9.out.below aA);have aG:=aw aF aA;have cK:=hZ (cW.out.below aA);have j_:=hZ (bl (cs:=e.cells) cK.out);have x3:=cK.out.cell (i:=3) rfl
             clear aA)
          |(with_reducible refine lx (.tmp 7) b7 0 j_.out (IE e).out bk ?_)
          | (go_at_call 17;(with_reducible refine(JY e HW.out.small w2 (HP.out.below aG.out)).mono ?_);rintro e3 w3 ⟨rfl,aK⟩
             have wA:=hZ (h_.out.below aK);have a_:=aw aG aK;have jE:=hZ (cK.out.below aK);have vo:=wA.out.look (aI e) (MI e);rw[HF.out] at vo;unfold bs at vo
             clear aK)
          | ((with_reducible refine oh rfl (.tmp 9) (.tmp 33) rfl rfl aW rfl ?hy ?hi ?ho ?_);(case hy=>rfl);(case hi=>exact(IE aW).out);(case ho=>rfl);intro w4 u' cQ gy
             have Hf:=hZ (wA.out.below cQ);have bJ:=aw a_ cQ;have mS:=hZ (jE.out.below cQ);have k_:=hZ (bl (cs:=e.cells) mS.out);have nU:=hZ (bl (cs:=aW.cells) u');obtain⟨b9,cZ⟩:=oQ (w3.heap.size);rw[cZ] at nU;rw[cZ]
             clear u' cQ gy cZ vo)
          |(with_reducible refine lx (.tmp 7) b7 0 k_.out (IE e).out bk ?_)
          | (at_mapUpdate;refine acN rfl (.tmp 42) (.tmp 43) (.tmp 44) rfl rfl bm i _ Hf.out (by unfold cH;omega) e rfl rfl rfl ?_;intro w6 Fx yO
             have Pc:=hZ Fx;have dM:=hZ (bJ.out.grown yO bJ.out.size (fun j hj=>by cases hj;exact j7.out))
             clear Fx yO)
          |fail)
         go_round
         case rel=>exact⟨i+1,rfl,by omega,by rw[kI.out];exact Pc.out.mono (by omega),dM.out⟩
         case measure=>simp;omega
       | some old=>
         have Ws:=hZ (Lx.out old (LU HF.out).1);obtain⟨pv,Z5⟩:=oQ (dF e old);have CD:=hZ Z5;clear Z5
         cases pv with
         | true=>
           (have eP:(l.take (i+1)).foldl (eQ (eT day) aI dF) []=zq acc e:=by rw[HT.out];unfold eQ zq;rw[if_pos lM.out,HF.out];simp only[CD.out,if_true]);have kI:=hZ eP;clear eP
           go_wp2_with (first
            |(with_reducible refine lx (.tmp 16) b (i*18) cX.out (IE e).out bk ?_)
            | ((with_reducible refine oh rfl (.tmp 7) (.tmp 17) rfl rfl e rfl rfl ?hi ?ho ?_);(case hi=>exact(IE e).out);(case ho=>rfl);intro w1 aH aq aP
               have k9:=hZ (HM.out.below aq);have aF:=aw HB aq;have cW:=hZ aH;obtain⟨b7,dE⟩:=oQ (wr.heap.size);rw[dE] at cW;rw[dE];have kF:=hZ (bl (cs:=e.cells) cW.out);have HV:=hZ (zK e HW.out.small w1 (HP.out.below aF.out));rw[fO] at HV
               clear aH aq aP dE)
            |(with_reducible refine lx (.tmp 7) b7 0 kF.out (IE e).out bk ?_)
            | (go_at_call 20;(with_reducible refine HV.out.mono ?_);rintro e2 w2 ⟨rfl,aA⟩
               have h_:=hZ (k9.out.below aA);have aG:=aw aF aA;have cK:=hZ (cW.out.below aA);have j_:=hZ (bl (cs:=e.cells) cK.out);have x3:=cK.out.cell (i:=3) rfl
               clear aA)
            |(with_reducible refine lx (.tmp 7) b7 0 j_.out (IE e).out bk ?_)
            | (go_at_call 17;(with_reducible refine(JY e HW.out.small w2 (HP.out.below aG.out)).mono ?_);rintro e3 w3 ⟨rfl,aK⟩
               have wA:=hZ (h_.out.below aK);have a_:=aw aG aK;have jE:=hZ (cK.out.below aK);have vo:=wA.out.look (aI e) (MI e);rw[HF.out] at vo;unfold bs at vo
               clear aK)
            | ((with_reducible refine oh rfl (.tmp 9) (.tmp 33) rfl rfl old rfl ?hy ?hi ?ho ?_);(case hy=>rfl);(case hi=>exact(IE old).out);(case ho=>rfl);intro w4 u' cQ gy
               have Hf:=hZ (wA.out.below cQ);have bJ:=aw a_ cQ;have mS:=hZ (jE.out.below cQ);have k_:=hZ (bl (cs:=e.cells) mS.out);have nU:=hZ (bl (cs:=old.cells) u');obtain⟨b9,cZ⟩:=oQ (w3.heap.size);rw[cZ] at nU;rw[cZ]
               clear u' cQ gy cZ vo)
            |((with_reducible refine xy ?hw 33 (.tmp 7) rfl b7 0 ?hx e.cells _ k_.out bk rfl (IE e).out ?_);(case hw=>rfl);(case hx=>rfl))
            |((with_reducible refine xy ?hw 33 (.tmp 9) rfl b9 0 ?hx old.cells _ nU.out bk rfl (IE old).out ?_);(case hw=>rfl);(case hx=>rfl))
            | (go_at_call 22;(with_reducible refine(abD e old HW.out Ws.out w4 (HP.out.below bJ.out)).mono ?_);rintro e5 w5 ⟨rfl,cn⟩
               have Pb:=hZ (Hf.out.below cn);have cT:=aw bJ cn;have Lh:=hZ (bl (cs:=e.cells) (mS.out.below cn));rw[CD.out]
               clear cn)
            |(with_reducible refine lx (.tmp 7) b7 0 Lh.out (IE e).out bk ?_)
            | (at_mapUpdate;refine acN rfl (.tmp 42) (.tmp 43) (.tmp 44) rfl rfl bm i _ Pb.out (by unfold cH;omega) e rfl rfl rfl ?_;intro w6 Fx yO
               have Pc:=hZ Fx;have dM:=hZ (cT.out.grown yO cT.out.size (fun j hj=>by cases hj;exact j7.out))
               clear Fx yO)
            |fail)
           go_round
           case rel=>exact⟨i+1,rfl,by omega,by rw[kI.out];exact Pc.out.mono (by omega),dM.out⟩
           case measure=>simp;omega
         | false=>
           (have eP:(l.take (i+1)).foldl (eQ (eT day) aI dF) []=acc:=by rw[HT.out];unfold eQ;rw[if_pos lM.out,HF.out];simp only[CD.out];rfl);have kI:=hZ eP;clear eP
           go_wp2_with (first
            |(with_reducible refine lx (.tmp 16) b (i*18) cX.out (IE e).out bk ?_)
            | ((with_reducible refine oh rfl (.tmp 7) (.tmp 17) rfl rfl e rfl rfl ?hi ?ho ?_);(case hi=>exact(IE e).out);(case ho=>rfl);intro w1 aH aq aP
               have k9:=hZ (HM.out.below aq);have aF:=aw HB aq;have cW:=hZ aH;obtain⟨b7,dE⟩:=oQ (wr.heap.size);rw[dE] at cW;rw[dE];have kF:=hZ (bl (cs:=e.cells) cW.out);have HV:=hZ (zK e HW.out.small w1 (HP.out.below aF.out));rw[fO] at HV
               clear aH aq aP dE)
            |(with_reducible refine lx (.tmp 7) b7 0 kF.out (IE e).out bk ?_)
            | (go_at_call 20;(with_reducible refine HV.out.mono ?_);rintro e2 w2 ⟨rfl,aA⟩
               have h_:=hZ (k9.out.below aA);have aG:=aw aF aA;have cK:=hZ (cW.out.below aA);have j_:=hZ (bl (cs:=e.cells) cK.out);have x3:=cK.out.cell (i:=3) rfl
               clear aA)
            |(with_reducible refine lx (.tmp 7) b7 0 j_.out (IE e).out bk ?_)
            | (go_at_call 17;(with_reducible refine(JY e HW.out.small w2 (HP.out.below aG.out)).mono ?_);rintro e3 w3 ⟨rfl,aK⟩
               have wA:=hZ (h_.out.below aK);have a_:=aw aG aK;have jE:=hZ (cK.out.below aK);have vo:=wA.out.look (aI e) (MI e);rw[HF.out] at vo;unfold bs at vo
               clear aK)
            | ((with_reducible refine oh rfl (.tmp 9) (.tmp 33) rfl rfl old rfl ?hy ?hi ?ho ?_);(case hy=>rfl);(case hi=>exact(IE old).out);(case ho=>rfl);intro w4 u' cQ gy
               have Hf:=hZ (wA.out.below cQ);have bJ:=aw a_ cQ;have mS:=hZ (jE.out.below cQ);have k_:=hZ (bl (cs:=e.cells) mS.out);have nU:=hZ (bl (cs:=old.cells) u');obtain⟨b9,cZ⟩:=oQ (w3.heap.size);rw[cZ] at nU;rw[cZ]
               clear u' cQ gy cZ vo)
            |((with_reducible refine xy ?hw 33 (.tmp 7) rfl b7 0 ?hx e.cells _ k_.out bk rfl (IE e).out ?_);(case hw=>rfl);(case hx=>rfl))
            |((with_reducible refine xy ?hw 33 (.tmp 9) rfl b9 0 ?hx old.cells _ nU.out bk rfl (IE old).out ?_);(case hw=>rfl);(case hx=>rfl))
            | (go_at_call 22;(with_reducible refine(abD e old HW.out Ws.out w4 (HP.out.below bJ.out)).mono ?_);rintro e5 w5 ⟨rfl,cn⟩
               have Pb:=hZ (Hf.out.below cn);have cT:=aw bJ cn;have Lh:=hZ (bl (cs:=e.cells) (mS.out.below cn));rw[CD.out]
               clear cn)
            |fail)
           go_round
           case rel=>exact⟨i+1,rfl,by omega,by rw[kI.out];exact Pb.out.mono (by omega),cT.out⟩
           case measure=>simp;omega
     · have d2:decide (day<e.day)=true:=by simp;omega
       (have eP:(l.take (i+1)).foldl (eQ (eT day) aI dF) []=acc:=by rw[HT.out];unfold eQ;rw[if_neg (by unfold eT;simp[hd])]);have kI:=hZ eP;clear eP hd
       go_wp2_with (first
        |(with_reducible refine lx (.tmp 16) b (i*18) cX.out (IE e).out bk ?_)
        | ((with_reducible refine oh rfl (.tmp 7) (.tmp 17) rfl rfl e rfl rfl ?hi ?ho ?_);(case hi=>exact(IE e).out);(case ho=>rfl);intro w1 aH aq aP
           have k9:=hZ (HM.out.below aq);have aF:=aw HB aq;have cW:=hZ aH;obtain⟨b7,dE⟩:=oQ (wr.heap.size);rw[dE] at cW;rw[dE];have kF:=hZ (bl (cs:=e.cells) cW.out);have HV:=hZ (zK e HW.out.small w1 (HP.out.below aF.out));rw[fO] at HV
           clear aH aq aP dE)
        |(with_reducible refine lx (.tmp 7) b7 0 kF.out (IE e).out bk ?_)
        | (go_at_call 20;(with_reducible refine HV.out.mono ?_);rintro e2 w2 ⟨rfl,aA⟩
           have h_:=hZ (k9.out.below aA);have aG:=aw aF aA;have cK:=hZ (cW.out.below aA);have j_:=hZ (bl (cs:=e.cells) cK.out);have x3:=cK.out.cell (i:=3) rfl
           clear aA)
        |fail)
       go_round
       case rel=>exact⟨i+1,rfl,by omega,by rw[kI.out];exact h_.out.mono (by omega),aG.out⟩
       case measure=>simp;omega
 · have d1:decide (i<n)=false:=by simp;omega
   (obtain rfl:i=n:=by omega);(have eP:(l.take i).foldl (eQ (eT day) aI dF) []=tL (eT day) aI dF l:=by rw[List.take_of_length_le (by rw[HN.out];omega)];rfl);rw[eP] at HM;clear eP
   go_wp2_with (first
    | (go_at_call 100;(with_reducible refine(aiH bm _ _ wr HM.out).mono ?_);rintro e3 w3 ⟨rfl,ZO,tV⟩
       have wA:=hZ ZO;have a_:=hZ (HB.out.grown tV HB.out.size (fun j hj=>by cases hj;exact j7.out))
       clear ZO tV)
    |fail)
   go_ret;exact⟨bm,rfl,j7.out,wA.out,a_.out⟩
end Go.Proofs.YteeifhlhpiimoaaGreatDoor
end
section
namespace Go.Proofs
open Go.Shelf
def Tryz.anw:Go.Shelf.Ren:=⟨fun|6=>58|15=>103|14=>102|28=>164|29=>165|20=>156|21=>157|22=>158|23=>159|24=>160|25=>161|26=>162|27=>163|46=>224|47=>225|48=>226|49=>227|50=>228|57=>258|n=>n,fun|22=>25|24=>33|25=>104|3=>3|39=>163|0=>0|53=>201|55=>203|4=>4|46=>194|45=>193|50=>198|5=>5|9=>9|66=>255|70=>130|76=>276|77=>277|n=>n,fun|n=>n⟩
theorem Tryz.Nq:Un ah Tryz.anw:={
 mixed:=by kernel_rfl
 f6:=⟨Tryz.f58.name,by decide,Tryz.func58.trans (congrArg some (by kernel_rfl))⟩
 f14:=⟨Tryz.f102.name,by decide,Tryz.func102.trans (congrArg some (by kernel_rfl))⟩
 f15:=adg.trans (congrArg some (by kernel_rfl))
 f20:=⟨Tryz.f156.name,by decide,Tryz.func156.trans (congrArg some (by kernel_rfl))⟩
 f21:=⟨Tryz.f157.name,by decide,Tryz.func157.trans (congrArg some (by kernel_rfl))⟩
 f22:=⟨Tryz.f158.name,by decide,Tryz.func158.trans (congrArg some (by kernel_rfl))⟩
 f23:=⟨Tryz.f159.name,by decide,Tryz.func159.trans (congrArg some (by kernel_rfl))⟩
 f24:=⟨Tryz.f160.name,by decide,Tryz.func160.trans (congrArg some (by kernel_rfl))⟩
 f25:=⟨Tryz.f161.name,by decide,Tryz.func161.trans (congrArg some (by kernel_rfl))⟩
 f26:=⟨Tryz.f162.name,by decide,Tryz.func162.trans (congrArg some (by kernel_rfl))⟩
 f27:=⟨Tryz.f163.name,by decide,Tryz.func163.trans (congrArg some (by kernel_rfl))⟩
 f28:=adp.trans (congrArg some (by kernel_rfl))
 f29:=Kv.trans (congrArg some (by kernel_rfl))
 f46:=⟨Tryz.f224.name,by decide,Tryz.func224.trans (congrArg some (by kernel_rfl))⟩
 f47:=adE.trans (congrArg some (by kernel_rfl))
 f48:=adF.trans (congrArg some (by kernel_rfl))
 f49:=⟨Tryz.f227.name,by decide,Tryz.func227.trans (congrArg some (by kernel_rfl))⟩
 f50:=⟨Tryz.f228.name,by decide,Tryz.func228.trans (congrArg some (by kernel_rfl))⟩
 f57:=⟨Tryz.f258.name,by decide,Tryz.func258.trans (congrArg some (by kernel_rfl))⟩
 t0:=zU
 a0:=zQ
 z0:=zS
 v0:=zW
 t3:=nL
 a3:=rM
 z3:=vR
 v3:=vT
 t4:=xJ
 a4:=ur
 z4:=xG
 v4:=xK
 t5:=zV
 a5:=zR
 z5:=zT
 v5:=zX
 t9:=qE
 a9:=xE
 z9:=xH
 v9:=xL
 t22:=Tryz.underlying25
 a22:=Tryz.isAgg25
 z22:=Tryz.sizeOf25
 v22:=Tryz.zeroValue25
 t25:=Tryz.underlying104
 a25:=Tryz.isAgg104
 z25:=Tryz.sizeOf104
 v25:=Tryz.zeroValue104
 t39:=Ec
 a39:=D_
 z39:=Eb
 v39:=Ed
 t45:=afm
 a45:=aef
 z45:=ae1
 v45:=afL
 t46:=afn
 a46:=aeg
 z46:=ae2
 v46:=afM
 t50:=afo
 a50:=aeh
 z50:=ae3
 v50:=afN
 t53:=Gx
 a53:=Gt
 z53:=Gv
 v53:=Gz
 t55:=Gy
 a55:=Gu
 z55:=Gw
 v55:=GA
 t66:=aft
 a66:=aem
 z66:=ae7
 v66:=afR
 t70:=afi
 a70:=aec
 z70:=aeY
 v70:=afI
 t76:=afv
 a76:=aen
 z76:=ae8
 v76:=afS
 t77:=afw
 a77:=aeo
 z77:=ae9
 v77:=afT}
def Tryz.anA:Go.Shelf.Ren:=⟨fun|6=>79|15=>103|14=>133|28=>164|29=>165|20=>173|21=>174|22=>175|23=>176|24=>177|25=>178|26=>179|27=>180|46=>233|47=>225|48=>226|49=>234|50=>235|57=>260|n=>n,fun|22=>61|24=>75|25=>142|3=>3|39=>163|0=>0|53=>201|55=>203|4=>4|46=>194|45=>193|50=>198|5=>5|9=>9|66=>255|70=>130|76=>276|77=>277|n=>n,fun|n=>n⟩
theorem Tryz.ack:Un ah Tryz.anA:={
 mixed:=by kernel_rfl
 f6:=⟨Tryz.f79.name,by decide,Tryz.func79.trans (congrArg some (by kernel_rfl))⟩
 f14:=⟨Tryz.f133.name,by decide,Tryz.func133.trans (congrArg some (by kernel_rfl))⟩
 f15:=adg.trans (congrArg some (by kernel_rfl))
 f20:=⟨Tryz.f173.name,by decide,Tryz.func173.trans (congrArg some (by kernel_rfl))⟩
 f21:=⟨Tryz.f174.name,by decide,Tryz.func174.trans (congrArg some (by kernel_rfl))⟩
 f22:=⟨Tryz.f175.name,by decide,Tryz.func175.trans (congrArg some (by kernel_rfl))⟩
 f23:=⟨Tryz.f176.name,by decide,Tryz.func176.trans (congrArg some (by kernel_rfl))⟩
 f24:=⟨Tryz.f177.name,by decide,Tryz.func177.trans (congrArg some (by kernel_rfl))⟩
 f25:=⟨Tryz.f178.name,by decide,Tryz.func178.trans (congrArg some (by kernel_rfl))⟩
 f26:=⟨Tryz.f179.name,by decide,Tryz.func179.trans (congrArg some (by kernel_rfl))⟩
 f27:=⟨Tryz.f180.name,by decide,Tryz.func180.trans (congrArg some (by kernel_rfl))⟩
 f28:=adp.trans (congrArg some (by kernel_rfl))
 f29:=Kv.trans (congrArg some (by kernel_rfl))
 f46:=⟨Tryz.f233.name,by decide,Tryz.func233.trans (congrArg some (by kernel_rfl))⟩
 f47:=adE.trans (congrArg some (by kernel_rfl))
 f48:=adF.trans (congrArg some (by kernel_rfl))
 f49:=⟨Tryz.f234.name,by decide,Tryz.func234.trans (congrArg some (by kernel_rfl))⟩
 f50:=⟨Tryz.f235.name,by decide,Tryz.func235.trans (congrArg some (by kernel_rfl))⟩
 f57:=⟨Tryz.f260.name,by decide,Tryz.func260.trans (congrArg some (by kernel_rfl))⟩
 t0:=zU
 a0:=zQ
 z0:=zS
 v0:=zW
 t3:=nL
 a3:=rM
 z3:=vR
 v3:=vT
 t4:=xJ
 a4:=ur
 z4:=xG
 v4:=xK
 t5:=zV
 a5:=zR
 z5:=zT
 v5:=zX
 t9:=qE
 a9:=xE
 z9:=xH
 v9:=xL
 t22:=Tryz.underlying61
 a22:=Tryz.isAgg61
 z22:=Tryz.sizeOf61
 v22:=Tryz.zeroValue61
 t25:=Tryz.underlying142
 a25:=Tryz.isAgg142
 z25:=Tryz.sizeOf142
 v25:=Tryz.zeroValue142
 t39:=Ec
 a39:=D_
 z39:=Eb
 v39:=Ed
 t45:=afm
 a45:=aef
 z45:=ae1
 v45:=afL
 t46:=afn
 a46:=aeg
 z46:=ae2
 v46:=afM
 t50:=afo
 a50:=aeh
 z50:=ae3
 v50:=afN
 t53:=Gx
 a53:=Gt
 z53:=Gv
 v53:=Gz
 t55:=Gy
 a55:=Gu
 z55:=Gw
 v55:=GA
 t66:=aft
 a66:=aem
 z66:=ae7
 v66:=afR
 t70:=afi
 a70:=aec
 z70:=aeY
 v70:=afI
 t76:=afv
 a76:=aen
 z76:=ae8
 v76:=afS
 t77:=afw
 a77:=aeo
 z77:=ae9
 v77:=afT}
end Go.Proofs
end
section
namespace Go.Proofs.YteeifhlhpiimoaaGreatDoor
open Go Go.RowKit Go.Shelf Go.Maps Wr
attribute [local go_sem] Oper.semAt_some
def cD (e:af):Int:=if e.kind=2∨e.kind=8∨e.kind=6 then e.item else e.id
def gW (W w':ae):Prop:=∃(q:Nat) (os:Array Obj),w'=GC (W.drewN q) os
theorem gW.refl (W:ae):gW W W:=⟨0,#[],by simp[GC,Od]⟩
theorem gW.trans {A B C:ae} (h:gW A B) (k:gW B C):gW A C:=by
 obtain⟨q,os,rfl⟩:=h;obtain⟨q',os',rfl⟩:=k;exact⟨q+q',os++os',by simp[GC,Od,Nat.add_assoc]⟩
theorem gW.alloc (W:ae) (o:Obj):gW W (W.alloc o):=⟨0,#[o],by rw[Go.Sort.alloc_eq_grow];rfl⟩
theorem gW.drew (W:ae):gW W W.drew:=⟨1,#[],by rw[Go.Sort.grow_empty];rfl⟩
theorem gW.below {W V:ae} (h:gW W V):Below W.heap.size W V:=by
 obtain⟨q,os,rfl⟩:=h;refine⟨rfl,rfl,rfl,by simp[GC,Od],fun k hk=>?_⟩;simp[GC,Od,T_ hk]
theorem Im {P:eI} {ops:Array aZ} {rest:List aZ} {op:aZ} {a:cu} {w:ae} {Q:Exit→cu→ae→Prop} (ct:op.guard=none) (x:ef) (ho:op.op=.box 33 x) (e:af) (hx:a.eval x=.agg e.cells.toArray)
 (h:∀w',aR w' w.heap.size e→gW w w'→dT P ops Q rest (a.put op.dst (.pointer (some ⟨w.heap.size,0,none⟩))) w'):dT P ops Q (op::rest) a w:=
 wpList_plain ct fun _ hK=>by
  have h2:=hK _ _ (h (w.alloc (.cells e.cells.toArray 33)) (bG w _) (gW.alloc _ _));obtain⟨cs,hcs⟩:=oQ (e.cells.toArray);rw[hcs] at hx h2;unfold Oper.wp execOp;simp only[ho,hx,Instr.box,Sem.run_bind,Sem.run_pure,newVar,newRow,Value.cells];simpa[go_sem] using h2
theorem abp (e:af) (w:ae):ax ah 61 #[e.val] w fun r w'=>r=.returned (.int .i64 (cD e))∧gW w w':=by
 obtain⟨a,ha⟩:=oQ ((e.kind==2));obtain⟨b,hb⟩:=oQ ((e.kind==8));obtain⟨c,hc⟩:=oQ ((e.kind==6))
 have hn:cD e=if a=true∨b=true∨c=true then e.item else e.id:=by
  unfold cD;rw[←ha,←hb,←hc];simp
 rw[hn];clear hn
 cases a<;>cases b<;>cases c<;>
 · simp only[Bool.false_eq_true,or_self,or_true,true_or,if_true,if_false]
   go_enter Tryz.func61,Tryz.ntmps61
   go_wp2_with (first
    | ((with_reducible refine Im rfl (.tmp 0) rfl e ?hx ?_);(case hx=>rfl);intro w1 aH ep
       have x0:=aH.cell (i:=0) rfl;have x1:=aH.cell (i:=1) rfl;have x8:=aH.cell (i:=8) rfl;have HG:=hZ ep
       clear aH ep)
    |fail)
   go_ret;exact⟨rfl,HG.out⟩
theorem alE (x y:af) (w:ae):ax ah 59 #[x.val,y.val] w fun r w'=>r=.returned (.int .i64 (dZ (cD x) (cD y)))∧gW w w':=by
 have IE:=fun e:af=>hZ (di (e:=e));obtain⟨p,hp⟩:=oQ (cD x);obtain⟨q,hq⟩:=oQ (cD y);have HP:=hZ hp;have HQ:=hZ hq;rw[hp,hq];clear hp hq
 go_enter Tryz.func59,Tryz.ntmps59
 go_wp2_with (first
  | ((with_reducible refine Im rfl (.tmp 0) rfl x ?hx ?_);(case hx=>rfl);intro w1 aH ep
     obtain⟨b1,aq⟩:=oQ (w.heap.size);rw[aq] at aH;rw[aq];have cW:=hZ aH;have rX:=hZ ep
     clear aH ep aq)
  | ((with_reducible refine Im rfl (.tmp 1) rfl y ?hx ?_);(case hx=>rfl);intro w2 fx f_
     have lO:=hZ (cW.out.below f_.below);obtain⟨b2,aA⟩:=oQ (w1.heap.size);rw[aA] at fx;rw[aA];have cK:=hZ fx;have ye:=hZ (rX.out.trans f_)
     clear fx f_ aA)
  |fail)
 have bu:aR w2.drew b1 x∧aR w2.drew b2 y:=⟨lO.out,cK.out⟩;have HG3:Hid (gW w w2.drew):=hZ (ye.out.trans (gW.drew _));refine cJ (fun U=>aR U b1 x∧aR U b2 y) bu fun hHeld=>?_;refine tl 0 rfl (yx b1 0 (IE x).out bk (fun w hw=>bl hw.1)) ?_;refine tl 2 rfl (yx b2 0 (IE y).out bk (fun w hw=>bl hw.2)) ?_;refine rE 1 fun K hK=>?_;go_simp
 (with_reducible refine(abp x _).mono ?_)
 rintro e5 w5 ⟨rfl,mE⟩;have O0:=hZ (HG3.out.trans mE);have cT:=hZ mE.below;rw[HP.out];clear mE;refine kk hK (⟨bu.1.below cT.out,bu.2.below cT.out⟩) fun hHeld=>?_;clear hK K;refine rE 3 fun K hK=>?_;go_simp
 (with_reducible refine(abp y _).mono ?_)
 rintro e6 w6 ⟨rfl,yO⟩;have HG6:=hZ (O0.out.trans yO);have dM:=hZ yO.below;rw[HQ.out];clear yO;refine kk hK (⟨(bu.1.below cT.out).below dM.out,(bu.2.below cT.out).below dM.out⟩) fun hHeld=>?_;clear hK K;refine rE 4 fun K hK=>?_;go_simp
 (with_reducible refine(yy _ _ _).mono ?_)
 rintro e7 w7 ⟨rfl,rfl⟩;refine kk hK (⟨(bu.1.below cT.out).below dM.out,(bu.2.below cT.out).below dM.out⟩) fun hHeld=>?_;clear hK K;refine tk 5 ?_;refine dn ?_;clear hHeld;go_wp2;go_ret;exact⟨rfl,HG6.out⟩
end Go.Proofs.YteeifhlhpiimoaaGreatDoor
end
section
namespace Go.Proofs.YteeifhlhpiimoaaGreatDoor
open Go Go.RowKit Go.Shelf Go.Maps Go.Sort Wr
attribute [local go_sem] Oper.semAt_some
instance apS:Inhabited af:=⟨aW⟩
theorem X9 {α:Type} {f:α→List ai} {k:Nat} (fp:0<k) (hf:∀x,(f x).length=k) (l:List α) {t:Nat} (ht:t<l.length*k):∃x,l[t/k]?=some x∧(l.flatMap f)[t]?=(f x)[t%k]?:=by
 have h1:t/k<l.length:=(Nat.div_lt_iff_lt_mul fp).2 ht;refine⟨l[t/k],bp h1,?_⟩;have h2:=mA hf l (t/k) l[t/k] (bp h1) (t%k) (rQ _ fp)
 rwa[Nat.mul_comm,Nat.div_add_mod] at h2
theorem Tn {α:Type} [Inhabited α] {f:α→List ai} {k:Nat} (fp:0<k) (hf:∀x,(f x).length=k) {w:ae} {N:Nat} {T:bF} {g n cap:Nat} {l:List α} (h:OL w N T k f (.slice (some ⟨g,0,none⟩) n cap) l):HoldsK f k w g 0 l.toArray:=by
 intro t ht;have vB:t<l.length*k:=by simpa using ht
 obtain⟨x,hx,he⟩:=X9 fp hf l vB;have hlen:(l.flatMap f).length=l.length*k:=m_ hf
 have hn:n=l.length:=by
  rcases h.2 with⟨he,_⟩|⟨g',fI,AL,he,_⟩
  · cases he
  · injection he
 subst hn;have hc:=World.ownsRow.cellAt h t (by omega);have hz:=World.ownsRow.frozenAt h t;rw[uA];refine⟨?_,hz⟩;rw[hc,he,get_flatK _ _ _ _ (by simpa using vB)];have hl:t/k<l.length:=(dL.1 hx).1
 have h3:l.toArray[t/k]! =x:=by
  rw[getElem!_pos _ _ (by simpa using hl)];simpa using(dL.1 hx).2
 have hm:t%k<(f x).length:=by rw[hf];exact rQ _ fp
 rw[h3,bp hm,getElem!_pos (f x) (t%k) hm];rfl
theorem Ty {α:Type} [Inhabited α] {f:α→List ai} {k g m:Nat} {w:ae} {T:bF} {cur:Array ai} (h:w.heap[g]?=some (.cells cur T (0,0))) (d:Array α) (os:Array Obj):
 (∃AL,(sortWorldK f k w g 0 m d os).heap[g]?=some (.cells AL T (0,0))∧AL.size=cur.size)∧aO (fun q=>q=g) w (sortWorldK f k w g 0 m d os):=by
 have ar:g<w.heap.size:=(fU.1 h).1;unfold sortWorldK putRowK putRow mapBlock GC Go.Sort.ahead;refine⟨⟨putCells id 0 (flatK f k d) cur,?_,by simp[putCells]⟩,rfl,rfl,rfl,by simp,fun q hq hz=>?_⟩
 · rw[T_ (by simpa using ar),qB,if_pos rfl,h]
   rfl
 · rw[T_ (by simpa using hq),qB,if_neg (fun e=>hz e.symm)]
theorem acn {α:Type} [Inhabited α] {f:α→List ai} {k:Nat} (fp:0<k) (hf:∀x,(f x).length=k) {w:ae} {N:Nat} {T:bF} {g n cap m:Nat} {l:List α} (h:OL w N T k f (.slice (some ⟨g,0,none⟩) n cap) l) (d:Array α) (hd:d.size=l.length) (os:Array Obj):
 OL (sortWorldK f k w g 0 m d os) N T k f (.slice (some ⟨g,0,none⟩) n cap) d.toList:=by
 have hh:=holdsK_sortWorldK f k w g 0 m l.toArray d os (by
  rcases h.2 with⟨he,_⟩|⟨g',fI,AL,he,_,hc,_⟩
  · cases he
  · cases he;exact(fU.1 hc).1) (Tn fp hf h) (by simpa using hd)
 rcases h.2 with⟨he,_⟩|⟨g',fI,cur,he,hb,hc,h4,h5,h6,h7⟩
 · cases he
 · cases he
   obtain⟨⟨AL,kM,hs'⟩,-⟩:=Ty (f:=f) (k:=k) (m:=m) hc d os;(have gR:d.toList.length=l.length:=by rw[Array.length_toList];exact hd);(have hlen:(d.toList.flatMap f).length=l.length*k:=by rw[m_ hf,gR]);refine⟨by rw[hlen,gR],.inr ⟨g,cap,AL,by rw[gR],hb,kM,by rw[gR];exact h4,h5,by rw[hs'];exact h6,?_⟩⟩;rw[gR];(have Y9:l.length*k≤AL.size:=by rw[hs',h6];exact Nat.mul_le_mul_right _ h4);apply List.ext_getElem?;intro t
   by_cases ht:t<l.length*k
   · have vB:t<d.toList.length*k:=by rw[gR];exact ht
     obtain⟨x,hx,he⟩:=X9 fp hf d.toList vB;have h1:=(hh t (by rw[size_flatK,hd];exact ht)).1;rw[uA,get_flatK _ _ _ _ (by rw[hd];exact ht)] at h1
     have hdx:d[t/k]! =x:=by
      obtain⟨h8,h9⟩:=dL.1 hx;rw[getElem!_pos _ _ (by simpa using h8)];simpa using h9
     (have hm:t%k<(f x).length:=by rw[hf];exact rQ _ fp);(have h2:(sortWorldK f k w g 0 m d os).cell? ⟨g,t,none⟩=AL[t]?:=by simp[World.cell?,kM]);rw[List.getElem?_take,if_pos ht,Array.getElem?_toList,←h2,h1,hdx,he,bp hm,getElem!_pos (f x) (t%k) hm];rfl
   · rw[jz (by simp;omega),jz (by omega)]
theorem al3 {α:Type} [Inhabited α] {d d':Array α} (h:PermIn 0 d.size d d'):d'.size=d.size∧d'.toList.Perm d.toList:=by
 refine⟨h.1,?_⟩;have h2:=h.2.2;have e1:d'.extract 0 d.size=d':=by rw[←h.1];simp
 have e2:d.extract 0 d.size=d:=by simp
 rwa[e1,e2] at h2
theorem anF {α:Type} [Inhabited α] {lt:α→α→Bool} {d:Array α} {n:Nat} (hn:n=d.size) (h:SortedIn lt 0 n d):Up lt d.toList:=by
 subst hn;unfold Up;rw[List.pairwise_iff_getElem];intro i j hi hj dh;have:=h i j (ei _) dh (by simpa using hj);rw[getElem!_pos d j (by simpa using hj),getElem!_pos d i (by simpa using hi)] at this;simpa using this
theorem acm {α:Type} [Inhabited α] {ρ:Ren} (L:Un ah ρ) (k:Nat) (fp:0<k) (aE:∀w,(isAgg (ρ.t 24)).run ah w=.ok true w) (zE:∀w,(Go.sizeOf (ρ.t 24)).run ah w=.ok k w) (enc:α→List ai) (hk:∀x,(enc x).length=k) (h1:∀x,∀v∈enc x,v.oneCell'=true) (cf:α→α→Int) (hO:SWO (ltOf cf)) (g:Nat)
 (eg:∀args w,(xM g args).run ah w=.ok (.enter g args) w) (ajJ:∀x y W,ax ah g #[.agg (enc x).toArray,.agg (enc y).toArray] W fun e w'=>e=.returned (.int .i64 (cf x y))∧gW W w')
 (aj3:∀w,ax ah (ρ.f 6) #[.slice none 0 0,.func (.func g) #[] #[]] w fun e w'=>e=.returned (.tuple #[])∧w'=w)
 {w:ae} {N:Nat} {T:bF} {v:ai} {l:List α} (h:OL w N T k enc v l) (hl:l.length<4611686018427387904):
 ax ah (ρ.f 6) #[v,.func (.func g) #[] #[]] w fun r w'=>r=.returned (.tuple #[])∧∃l',OL w' N T k enc v l'∧l'.Perm l∧Up (ltOf cf) l'∧aO (fun q=>v.ownBlock=some q) w w':=by
 rcases h.2 with⟨he,hz⟩|⟨b,cap,cur,he,hb,hc,h4,h5,h6,h7⟩
 · subst he
   have:l=[]:=List.eq_nil_of_length_eq_zero hz;subst this;refine(aj3 w).mono fun e w' q=>⟨q.1,[],?_,List.Perm.refl _,KN,?_⟩
   · rw[q.2];exact h
   · rw[q.2];exact aO.refl _ _
 · subst he
   have ri:CmpLays ah g #[] enc k cf b 0 l.toArray.size w:=fun m os dk hs x y=>(ajJ x y _).mono fun e w' q=>⟨q.1,q.2⟩;have hs:=AnyQ.slices_SortFunc L k aE zE enc hk h1 cf hO g #[] b 0 cap l.toArray w eg ri (Tn fp hk h) ((fU.1 hc).1) (by simpa using hl);rw[List.size_toArray] at hs;refine hs.mono fun e w' q=>?_;obtain⟨rfl,d',m,os,hp,JI,rfl⟩:=q;have Jw:=al3 (d:=l.toArray) (by simpa using hp);refine⟨rfl,d'.toList,acn fp hk h d' (by simpa using Jw.1) os,by simpa using Jw.2,anF (by simpa using Jw.1.symm) JI,(Ty hc d' os).2.mono fun q hq=>?_⟩;subst hq;rfl
end Go.Proofs.YteeifhlhpiimoaaGreatDoor
end
section
namespace Go.Proofs.YteeifhlhpiimoaaGreatDoor
open Go Go.RowKit Go.Shelf Go.Maps Wr
attribute [local go_sem] Oper.semAt_some
theorem Na {W:ae} {b:Nat} {old:Array ai} {T:bF} (h:W.heap[b]?=some (.cells old T (0,0))) (cs:Array ai):(W.setRow b cs).heap[b]?=some (.cells cs T (0,0))∧aO (fun k=>k=b) W (W.setRow b cs):=by
 refine⟨?_,⟨rfl,rfl,rfl,by simp[qH],fun k hk hz=>?_⟩⟩
 · simp only[qH,qB,h]
   simp
 · simp only[qH,qB]
   rw[if_neg (fun e=>hz e.symm)]
theorem anO {P:eI} {ops:Array aZ} {o:aZ} {a:cu} {V:ae} {K:cu→ae→Prop} {Q:Exit→cu→ae→Prop} {D:Prop} (ct:o.guard=none) (T:bF) (x y:ef) (ho:o.op=.store T x y) (hd:o.dst=none) (b:Nat) (cs old:Array ai)
 (hx:a.eval x=.pointer (some ⟨b,0,none⟩)) (hy:a.eval y=.agg cs) (hi:(P.info? T).map (·.size)=some cs.size) (h:V.heap[b]?=some (.cells old T (0,0))) (hold:old.size=cs.size) (h1:cs.all (·.oneCell')=true)
 (hk:∀V',V'.heap[b]?=some (.cells cs T (0,0))→aO (fun k=>k=b) V V'→K a V'):
 if eD o (gJ ops a.tmps)=true then Oper.wp P o a V K Q else D:=by
 have hw:eD o (gJ ops a.tmps)=true:=by simp[eD,ct]
 rw[if_pos hw];refine wp_store_row _ x y ho b _ hx hy T _ h hi hold h1 ?_;rw[hd];exact hk _ (Na h cs).1 (Na h cs).2
theorem nK {P:eI} {ops:Array aZ} {rest:List aZ} {o:aZ} {a:cu} {V:ae} {Q:Exit→cu→ae→Prop} (ct:o.guard=none) (T:bF) (x y:ef) (ho:o.op=.store T x y) (hd:o.dst=none) (b:Nat) (cs old:Array ai)
 (hx:a.eval x=.pointer (some ⟨b,0,none⟩)) (hy:a.eval y=.agg cs) (hi:(P.info? T).map (·.size)=some cs.size) (h:V.heap[b]?=some (.cells old T (0,0))) (hold:old.size=cs.size) (h1:cs.all (·.oneCell')=true)
 (hk:∀V',V'.heap[b]?=some (.cells cs T (0,0))→aO (fun k=>k=b) V V'→dT P ops Q rest a V'):dT P ops Q (o::rest) a V:=
 wpList_store_rowTo ct T x y ho hd b cs hx hy T old h hi hold h1 (hk _ (Na h cs).1 (Na h cs).2)
theorem vM {P:eI} {fn:Func} {p:Tmp} {ty:bF} (h:fn.results=#[.cell p ty]) (tmps:Array ai) (w:ae) (b:Nat) (cs:List ai) (d:U3)
 (hp:tmps.getD p undef=.pointer (some ⟨b,0,none⟩)) (hc:w.rangeAt b 0 cs) (hu:P.underlying ty=some d) (hr:d.isRow=true)
 (hi:(P.info? ty).map (·.size)=some cs.length):(results fn tmps).run P w=.ok (.agg cs.toArray) w:=by
 have ij:tmps[p]?.getD undef=.pointer (some ⟨b,0,none⟩):=by simpa using hp
 simp[results,h,ij,asAddr,run_loadVar_mid w b 0 ty cs d hc hu hr hi]
def im (b:Nat):List ai:=[.pointer none,.pointer (some ⟨b,0,none⟩),.pointer (some ⟨b,1,none⟩),.pointer (some ⟨b,2,none⟩),.pointer (some ⟨b,3,none⟩),.pointer (some ⟨b,4,none⟩),.pointer (some ⟨b,5,none⟩),.pointer (some ⟨b,6,none⟩),.pointer (some ⟨b,7,none⟩),.pointer (some ⟨b,8,none⟩)]
theorem M2 (b j:Nat) (h:j<9):(im b)[j+1]?=some (.pointer (some ⟨b,j,none⟩)):=by
 match j,h with
 |0,_=>rfl
 |1,_=>rfl
 |2,_=>rfl
 |3,_=>rfl
 |4,_=>rfl
 |5,_=>rfl
 |6,_=>rfl
 |7,_=>rfl
 |8,_=>rfl
theorem SJ (b:Nat) (w:ae):ax ah 55 #[.pointer (some ⟨b,0,none⟩)] w fun r w'=>r=.returned (.agg (im b).toArray)∧Below w.heap.size w w':=by
 go_enter Tryz.func55,Tryz.ntmps55
 go_wp2;obtain⟨V,hV⟩:=oQ (w.alloc (.cells #[.pointer none,.pointer none,.pointer none,.pointer none,.pointer none,.pointer none,.pointer none,.pointer none,.pointer none,.pointer none] 96));have hc:Hid (V.heap[w.heap.size]?=some (.cells #[.pointer none,.pointer none,.pointer none,.pointer none,.pointer none,.pointer none,.pointer none,.pointer none,.pointer none,.pointer none] 96 (0,0))):=hZ (by rw[←hV];exact bG _ _);have hB:Hid (Below w.heap.size w V):=hZ (by rw[←hV];exact aY _ _);rw[hV];clear hV;have bu:True:=trivial;refine cJ (fun _=>True) bu fun hHeld=>?_;refine bg 0 1 2 3 ?_;refine bg 4 5 6 7 ?_;refine bg 8 9 10 11 ?_;refine bg 12 13 14 15 ?_;refine bg 16 17 18 19 ?_;refine bg 20 21 22 23 ?_;refine bg 24 25 26 27 ?_;refine rE 28 fun K hK=>?_;refine anO (by rfl) 96 (.tmp 2) (.tmp 30) (by rfl) (by rfl) w.heap.size (im b).toArray _ (by rfl) (by rfl) (by kernel_rfl) hc.out (by rfl) (by simp[im,Value.oneCell']) ?_;intro V' kM vB;have HC':=hZ kM;have HT':=hZ vB;clear kM vB;refine kk hK trivial fun hHeld=>?_;clear hK K;refine dn ?_;go_wp2;refine bodyPost_ret (vM rfl _ _ w.heap.size (im b) _ rfl (bl HC'.out) Tryz.underlying96 rfl (by kernel_rfl)) rfl ?_;exact⟨rfl,HT'.out.below (Below.drew hB.out) (aB _) (fun k hk=>by omega)⟩
end Go.Proofs.YteeifhlhpiimoaaGreatDoor
end
