/-
  Contract of entry.Valid; the like for what stands beside it. Conditions: the texts have at most 1000000 bytes; the table of powers stands.
-/
import Derived.Test.YteeifhlhpiimoaaGreatDoorXAf
import Derived.Test.YteeifhlhpiimoaaGreatDoorXAg
import Derived.Lib.Builder
import Derived.Laws.Externs
import Derived.Lib.AppendStr
import Derived.Lib.FrozenHead
import Derived.Lib.OthersKept
import Derived.Shelf.Strings.BuilderK
import Derived.WalkKit
import Derived.Laws.BitsAllLaws
import Derived.Test.YteeifhlhpiimoaaGreatDoorXAa
import Derived.Test.YteeifhlhpiimoaaGreatDoorProg
import Derived.ProofKit
import Derived.Outline
import Derived.WalkSpells
import Derived.WalkLawsBesides
import Derived.Shelf.Abstract
import Derived.TacticsInMore
import Derived.LoopNIn
import Derived.LoopIn
import Derived.Maps.AppendAt
import Derived.Lib.Hide
import Derived.Lib.BufferRead
import Derived.Deep.Onto
import Derived.Deep.RegionHeld
set_option maxHeartbeats 8000000
set_option maxRecDepth 100000
open Array renaming replicate_succ→BY,replicate_zero→BZ
open Go renaming Boxed→cG,Calls→ax,TypeId→bF,Value→ai,World→ae,bodyPost_ret→et,maxLen→cH,results_none→U9
open Go.IntKind renaming i64→aQ,u64→NS,wrap_i64→aS
open Go.Lib renaming OthersKept→uq,byteCells→pL,ownsRowF_kind→ada,strCells→NT
open Go.Lib.OthersKept renaming refl→Ui
open Go.Proofs renaming enters_of→qF
open Go.Proofs.Tryz renaming func17→ads,func170→adt,func20→D9,func230→adG,func64→ad2,ntmps17→aeA,ntmps170→aeB,ntmps20→Ea,ntmps64→aeT,prog→ah,underlying115→KD,underlying116→uu,underlying261→afu,underlying33→bk,underlying9→qE
open Go.RowKit.Below renaming drew→eR,heap_setCell→fA,refl→bK
open Go.Value renaming ownBlock→KG
open Go.World renaming alloc_heap_new→bG,ownsRowF_nil→U6,shape?→af7,size_alloc→gI
open List renaming append_assoc→Ek,append_toArray→Ca,cons_append→s6,flatMap_cons→rN,getElem?_eq_getElem→bp,getElem_mem→Cb,length_append→eV,length_cons→eF,length_nil→pQ,length_take→gD,mem_of_mem_take→Oy,mem_singleton→fQ,nil_append→xS,push_toArray→Cd,size_toArray→tf,take_of_length_le→eE,take_succ_eq_append_getElem→Oz
open Nat renaming le_refl→aB,le_trans→aV,reduceAdd→xU,reduceSub→Ch,zero_le→ei
open Option.some renaming inj→mR
open UInt8 renaming ofNat→ml
section
namespace Go.Proofs.YteeifhlhpiimoaaGreatDoor
open Go Go.RowKit Go.Shelf
attribute [local go_sem] Oper.semAt_some
theorem nY (l:Int):Fits (.num 106 l) (.num 1 l):=.num (qF Tryz.func106 (by kernel_rfl) rfl) (fun b W=>akj b W) (.inl rfl)
theorem oF (l:Int):Fits (.num 107 l) (.num 8 l):=.num (qF Tryz.func107 (by kernel_rfl) rfl) (fun b W=>aky b W) (.inr (.inr (.inr (.inr (.inl rfl)))))
theorem tO (l:Int):Fits (.num 110 l) (.num 5 l):=.num (qF Tryz.func110 (by kernel_rfl) rfl) (fun b W=>ajn b W) (.inr (.inl rfl))
theorem AT (l:Int):Fits (.num 116 l) (.num 6 l):=.num (qF Tryz.func116 (by kernel_rfl) rfl) (fun b W=>aos b W) (.inr (.inr (.inl rfl)))
theorem LW (l:Int):Fits (.num 111 l) (.num 7 l):=.num (qF Tryz.func111 (by kernel_rfl) rfl) (fun b W=>akU b W) (.inr (.inr (.inr (.inl rfl))))
theorem LX (l:Int):Fits (.num 120 l) (.num 9 l):=.num (qF Tryz.func120 (by kernel_rfl) rfl) (fun b W=>al4 b W) (.inr (.inr (.inr (.inr (.inr (.inl rfl))))))
theorem Yk (l:Int):Fits (.num 121 l) (.num 10 l):=.num (qF Tryz.func121 (by kernel_rfl) rfl) (fun b W=>ano b W) (.inr (.inr (.inr (.inr (.inr (.inr rfl))))))
theorem Ym:Fits (.txt 112) (.txt [11,12,13,14]):=.txt (qF Tryz.func112 (by kernel_rfl) rfl) (fun b W=>aoU b W) (fun i hi=>by unfold D3;simp at hi;omega) (by decide)
theorem LY:Fits (.txt 114) (.txt [15,16]):=.txt (qF Tryz.func114 (by kernel_rfl) rfl) (fun b W=>amf b W) (fun i hi=>by unfold D3;simp at hi;omega) (by decide)
theorem Yl:Fits (.txt 118) (.txt [17]):=.txt (qF Tryz.func118 (by kernel_rfl) rfl) (fun b W=>an7 b W) (fun i hi=>by unfold D3;simp at hi;omega) (by decide)
def KU (ps:List gF) (qs:List mW):Prop:=∀(i:Nat) (p:gF) (q:mW),ps[i]?=some p→qs[i]?=some q→Fits p q
theorem nZ:KU [] []:=fun i p q h _=>by simp at h
theorem df {p:gF} {q:mW} {ps:List gF} {qs:List mW} (h:Fits p q) (k:KU ps qs):KU (p::ps) (q::qs):=fun i p' q' h1 h2=>by
 cases i with
 |zero=>cases h1;cases h2;exact h
 |succ i=>exact k i p' q' (by simpa using h1) (by simpa using h2)
def gC (k:Int):Option (List mW):=
 if k=1 then some [.num 1 1,.num 5 0,.num 7 1,.num 8 1,.txt [11,12,13,14]]
 else if k=2 then some [.num 8 1,.txt [15,16]]
 else if k=3 then some [.num 1 1,.num 5 0,.num 6 0,.num 8 1]
 else if k=4 then some [.num 1 1,.num 5 0,.num 6 0,.num 8 1]
 else if k=5 then some [.num 1 1,.num 5 0,.num 6 0,.num 7 1,.txt [17]]
 else if k=6 then some [.num 8 1,.num 5 0]
 else if k=7 then some [.num 1 1,.num 5 0,.num 6 0,.num 9 1,.num 10 1]
 else if k=8 then some [.num 8 1,.txt [15,16]]
 else if k=9 then some [.num 1 1,.num 8 1,.num 9 1]
 else none
def mX (e:af):Bool:=
 if e.kind=1 then e.qA
 else if e.kind=2∨e.kind=8 then e.o6
 else if e.kind=5 then decide (e.az≤e.bj)&&decide (e.text.size=32)
 else if e.kind=6∨e.kind=9 then true
 else decide (e.az≤e.bj)
def fZ (e:af):Bool:=decide (1≤e.bR)&&(decide (e.bR≤1000000)&&(decide (0≤e.day)&&decide (e.day≤100000)))
def bE (e:af):Bool:=match gC e.kind with
 |none=>false
 |some qs=>fZ e&&(mX e&&fW qs e)
theorem LK (e:af) (w:ae):uB w e.val 117 (decide (e.az≤e.bj)):=⟨qF Tryz.func117 (by kernel_rfl) rfl,fun W _=>akw e W⟩
theorem ahW (e:af) (w:ae):uB w e.val 119 (decide (e.text.size=32)):=⟨qF Tryz.func119 (by kernel_rfl) rfl,fun W _=>akv e W⟩
theorem ahY (e:af) (hs:e.Small) (w:ae) (hp:dY w):uB w e.val 113 e.qA:=⟨qF Tryz.func113 (by kernel_rfl) rfl,fun W hb=>akx e hs W (hp.below hb)⟩
theorem Xq (e:af) (hs:e.Small) (w:ae) (hp:dY w):uB w e.val 115 e.o6:=⟨qF Tryz.func115 (by kernel_rfl) rfl,fun W hb=>aku e hs W (hp.below hb)⟩
theorem aov (e:af) (hs:e.Small) (w:ae) (hp:dY w) (hk:e.kind=1) (h1:1≤e.bR) (h2:e.bR≤1000000) (h3:0≤e.day) (h4:e.day≤100000):ax ah 20 #[e.val] w (cC w (bE e)):=by
 have hv:bE e=(([(113,e.qA)]:List (Nat×Bool)).all (·.2)&&fW [.num 1 1,.num 5 0,.num 7 1,.num 8 1,.txt [11,12,13,14]] e):=by
  unfold bE fZ mX;rw[hk,decide_eq_true h1,decide_eq_true h2,decide_eq_true h3,decide_eq_true h4];simp[gC]
 rw[hv];exact zH e ⟨[.num 106 1,.num 110 0,.num 111 1,.num 107 1,.txt 112],106,[113]⟩ [.num 1 1,.num 5 0,.num 7 1,.num 8 1,.txt [11,12,13,14]] [(113,e.qA)] w (fun W=>by rw[hk];exact Nf W) rfl (by simp) (fun p hq=>by rw[fQ.1 hq];exact ahY e hs w hp) rfl (by decide) (df (nY 1) (df (tO 0) (df (LW 1) (df (oF 1) (df (Ym) nZ))))) h1 h2 h3 h4
theorem aox (e:af) (hs:e.Small) (w:ae) (hp:dY w) (hk:e.kind=2) (h1:1≤e.bR) (h2:e.bR≤1000000) (h3:0≤e.day) (h4:e.day≤100000):ax ah 20 #[e.val] w (cC w (bE e)):=by
 have hv:bE e=(([(115,e.o6)]:List (Nat×Bool)).all (·.2)&&fW [.num 8 1,.txt [15,16]] e):=by
  unfold bE fZ mX;rw[hk,decide_eq_true h1,decide_eq_true h2,decide_eq_true h3,decide_eq_true h4];simp[gC]
 rw[hv];exact zH e ⟨[.num 107 1,.txt 114],107,[115]⟩ [.num 8 1,.txt [15,16]] [(115,e.o6)] w (fun W=>by rw[hk];exact Ng W) rfl (by simp) (fun p hq=>by rw[fQ.1 hq];exact Xq e hs w hp) rfl (by decide) (df (oF 1) (df (LY) nZ)) h1 h2 h3 h4
theorem aoy (e:af) (_Ii:e.Small) (w:ae) (_Ih:dY w) (hk:e.kind=3) (h1:1≤e.bR) (h2:e.bR≤1000000) (h3:0≤e.day) (h4:e.day≤100000):ax ah 20 #[e.val] w (cC w (bE e)):=by
 have hv:bE e=(([(117,decide (e.az≤e.bj))]:List (Nat×Bool)).all (·.2)&&fW [.num 1 1,.num 5 0,.num 6 0,.num 8 1] e):=by
  unfold bE fZ mX;rw[hk,decide_eq_true h1,decide_eq_true h2,decide_eq_true h3,decide_eq_true h4];simp[gC]
 rw[hv];exact zH e ⟨[.num 106 1,.num 110 0,.num 116 0,.num 107 1],106,[117]⟩ [.num 1 1,.num 5 0,.num 6 0,.num 8 1] [(117,decide (e.az≤e.bj))] w (fun W=>by rw[hk];exact Nh W) rfl (by simp) (fun p hq=>by rw[fQ.1 hq];exact LK e w) rfl (by decide) (df (nY 1) (df (tO 0) (df (AT 0) (df (oF 1) nZ)))) h1 h2 h3 h4
theorem aoz (e:af) (_Ii:e.Small) (w:ae) (_Ih:dY w) (hk:e.kind=4) (h1:1≤e.bR) (h2:e.bR≤1000000) (h3:0≤e.day) (h4:e.day≤100000):ax ah 20 #[e.val] w (cC w (bE e)):=by
 have hv:bE e=(([(117,decide (e.az≤e.bj))]:List (Nat×Bool)).all (·.2)&&fW [.num 1 1,.num 5 0,.num 6 0,.num 8 1] e):=by
  unfold bE fZ mX;rw[hk,decide_eq_true h1,decide_eq_true h2,decide_eq_true h3,decide_eq_true h4];simp[gC]
 rw[hv];exact zH e ⟨[.num 106 1,.num 110 0,.num 116 0,.num 107 1],106,[117]⟩ [.num 1 1,.num 5 0,.num 6 0,.num 8 1] [(117,decide (e.az≤e.bj))] w (fun W=>by rw[hk];exact Ni W) rfl (by simp) (fun p hq=>by rw[fQ.1 hq];exact LK e w) rfl (by decide) (df (nY 1) (df (tO 0) (df (AT 0) (df (oF 1) nZ)))) h1 h2 h3 h4
theorem aoA (e:af) (_Ii:e.Small) (w:ae) (_Ih:dY w) (hk:e.kind=5) (h1:1≤e.bR) (h2:e.bR≤1000000) (h3:0≤e.day) (h4:e.day≤100000):ax ah 20 #[e.val] w (cC w (bE e)):=by
 have hv:bE e=(([(117,decide (e.az≤e.bj)),(119,decide (e.text.size=32))]:List (Nat×Bool)).all (·.2)&&fW [.num 1 1,.num 5 0,.num 6 0,.num 7 1,.txt [17]] e):=by
  unfold bE fZ mX;rw[hk,decide_eq_true h1,decide_eq_true h2,decide_eq_true h3,decide_eq_true h4];simp[gC]
 rw[hv]
 exact zH e ⟨[.num 106 1,.num 110 0,.num 116 0,.num 111 1,.txt 118],106,[117,119]⟩ [.num 1 1,.num 5 0,.num 6 0,.num 7 1,.txt [17]] [(117,decide (e.az≤e.bj)),(119,decide (e.text.size=32))] w (fun W=>by rw[hk];exact Nj W) rfl (by simp) (fun p hq=>by
  rcases List.mem_cons.1 hq with h|h
  · rw[h];exact LK e w
  · rw[fQ.1 h];exact ahW e w) rfl (by decide) (df (nY 1) (df (tO 0) (df (AT 0) (df (LW 1) (df (Yl) nZ))))) h1 h2 h3 h4
theorem aoB (e:af) (_Ii:e.Small) (w:ae) (_Ih:dY w) (hk:e.kind=6) (h1:1≤e.bR) (h2:e.bR≤1000000) (h3:0≤e.day) (h4:e.day≤100000):ax ah 20 #[e.val] w (cC w (bE e)):=by
 have hv:bE e=(([]:List (Nat×Bool)).all (·.2)&&fW [.num 8 1,.num 5 0] e):=by
  unfold bE fZ mX;rw[hk,decide_eq_true h1,decide_eq_true h2,decide_eq_true h3,decide_eq_true h4];simp[gC]
 rw[hv];exact zH e ⟨[.num 107 1,.num 110 0],107,[]⟩ [.num 8 1,.num 5 0] [] w (fun W=>by rw[hk];exact Nk W) rfl (by simp) (fun p hq=>by cases hq) rfl (by decide) (df (oF 1) (df (tO 0) nZ)) h1 h2 h3 h4
theorem aoC (e:af) (_Ii:e.Small) (w:ae) (_Ih:dY w) (hk:e.kind=7) (h1:1≤e.bR) (h2:e.bR≤1000000) (h3:0≤e.day) (h4:e.day≤100000):ax ah 20 #[e.val] w (cC w (bE e)):=by
 have hv:bE e=(([(117,decide (e.az≤e.bj))]:List (Nat×Bool)).all (·.2)&&fW [.num 1 1,.num 5 0,.num 6 0,.num 9 1,.num 10 1] e):=by
  unfold bE fZ mX;rw[hk,decide_eq_true h1,decide_eq_true h2,decide_eq_true h3,decide_eq_true h4];simp[gC]
 rw[hv];exact zH e ⟨[.num 106 1,.num 110 0,.num 116 0,.num 120 1,.num 121 1],106,[117]⟩ [.num 1 1,.num 5 0,.num 6 0,.num 9 1,.num 10 1] [(117,decide (e.az≤e.bj))] w (fun W=>by rw[hk];exact Nl W) rfl (by simp) (fun p hq=>by rw[fQ.1 hq];exact LK e w) rfl (by decide) (df (nY 1) (df (tO 0) (df (AT 0) (df (LX 1) (df (Yk 1) nZ))))) h1 h2 h3 h4
theorem aoD (e:af) (hs:e.Small) (w:ae) (hp:dY w) (hk:e.kind=8) (h1:1≤e.bR) (h2:e.bR≤1000000) (h3:0≤e.day) (h4:e.day≤100000):ax ah 20 #[e.val] w (cC w (bE e)):=by
 have hv:bE e=(([(115,e.o6)]:List (Nat×Bool)).all (·.2)&&fW [.num 8 1,.txt [15,16]] e):=by
  unfold bE fZ mX;rw[hk,decide_eq_true h1,decide_eq_true h2,decide_eq_true h3,decide_eq_true h4];simp[gC]
 rw[hv];exact zH e ⟨[.num 107 1,.txt 114],107,[115]⟩ [.num 8 1,.txt [15,16]] [(115,e.o6)] w (fun W=>by rw[hk];exact Nn W) rfl (by simp) (fun p hq=>by rw[fQ.1 hq];exact Xq e hs w hp) rfl (by decide) (df (oF 1) (df (LY) nZ)) h1 h2 h3 h4
theorem aoE (e:af) (_Ii:e.Small) (w:ae) (_Ih:dY w) (hk:e.kind=9) (h1:1≤e.bR) (h2:e.bR≤1000000) (h3:0≤e.day) (h4:e.day≤100000):ax ah 20 #[e.val] w (cC w (bE e)):=by
 have hv:bE e=(([]:List (Nat×Bool)).all (·.2)&&fW [.num 1 1,.num 8 1,.num 9 1] e):=by
  unfold bE fZ mX;rw[hk,decide_eq_true h1,decide_eq_true h2,decide_eq_true h3,decide_eq_true h4];simp[gC]
 rw[hv];exact zH e ⟨[.num 106 1,.num 107 1,.num 120 1],106,[]⟩ [.num 1 1,.num 8 1,.num 9 1] [] w (fun W=>by rw[hk];exact Np W) rfl (by simp) (fun p hq=>by cases hq) rfl (by decide) (df (nY 1) (df (oF 1) (df (LX 1) nZ))) h1 h2 h3 h4
theorem zG (e:af) (d:AB) (w:ae) (hS:∀W,ax ah 62 #[.int .i64 e.kind] W (sq W d)) (h:fZ e=false):ax ah 20 #[e.val] w (cC w false):=by
 have HS:=hZ hS;obtain⟨rl,FH⟩:=oQ (d.rest.length);obtain⟨ql,JB⟩:=oQ (d.parts.length);have sd:=hZ FH;have qS:=hZ JB;clear hS FH JB;unfold fZ at h
 by_cases h1:e.bR<1
 · have g1:decide (e.bR<1)=true:=by simp[h1]
   clear h
   go_enter D9,Ea
   go_wp2_with (first
    | ((with_reducible refine ff rfl (.tmp 0) rfl e ?hx ?_);(case hx=>rfl);intro w1 aH aq aP
       have cW:=hZ aH;have aF:=hZ aq;have x0:=aH.cell (i:=0) rfl
       clear aH aq)
    | (go_at_call 62;(with_reducible refine(HS.out _).mono ?_);rintro e2 w2 ⟨v,rfl,fc,aA⟩
       obtain⟨b1,R,cr,rfl,-,-⟩:=fc.open;rw[sd.out] at fc;rw[qS.out] at fc;have kk:=aY w2 (.cells #[.slice (some ⟨b1,0,none⟩) ql ql,.func (.func d.key) #[] #[],.int .i64 1,.int .i64 1000000,.nilFunc,.slice R rl cr] 112);have jm:=(cW.out.below aA).below kk;have a_:=hZ ((aF.out.trans (aA.mono aF.out.size)).trans (kk.mono (aV aF.out.size aA.size)));have y0:=jm.cell (i:=2) rfl;have y1:=jm.cell (i:=3) rfl;rw[qS.out,sd.out]
       clear aA fc kk jm)
    |fail)
   go_ret;exact⟨rfl,a_.out⟩
 have g1:decide (e.bR<1)=false:=by simp;omega
 rw[decide_eq_true (by omega),Bool.true_and] at h
 by_cases h2:1000000<e.bR
 · have g2:decide (1000000<e.bR)=true:=by simp[h2]
   clear h
   go_enter D9,Ea
   go_wp2_with (first
    | ((with_reducible refine ff rfl (.tmp 0) rfl e ?hx ?_);(case hx=>rfl);intro w1 aH aq aP
       have cW:=hZ aH;have aF:=hZ aq;have x0:=aH.cell (i:=0) rfl
       clear aH aq)
    | (go_at_call 62;(with_reducible refine(HS.out _).mono ?_);rintro e2 w2 ⟨v,rfl,fc,aA⟩
       obtain⟨b1,R,cr,rfl,-,-⟩:=fc.open;rw[sd.out] at fc;rw[qS.out] at fc;have kk:=aY w2 (.cells #[.slice (some ⟨b1,0,none⟩) ql ql,.func (.func d.key) #[] #[],.int .i64 1,.int .i64 1000000,.nilFunc,.slice R rl cr] 112);have jm:=(cW.out.below aA).below kk;have a_:=hZ ((aF.out.trans (aA.mono aF.out.size)).trans (kk.mono (aV aF.out.size aA.size)));have y0:=jm.cell (i:=2) rfl;have y1:=jm.cell (i:=3) rfl;rw[qS.out,sd.out]
       clear aA fc kk jm)
    |fail)
   go_ret;exact⟨rfl,a_.out⟩
 have g2:decide (1000000<e.bR)=false:=by simp;omega
 rw[decide_eq_true (by omega),Bool.true_and] at h
 by_cases h3:e.day<0
 · have g3:decide (e.day<0)=true:=by simp[h3]
   clear h
   go_enter D9,Ea
   go_wp2_with (first
    | ((with_reducible refine ff rfl (.tmp 0) rfl e ?hx ?_);(case hx=>rfl);intro w1 aH aq aP
       have cW:=hZ aH;have aF:=hZ aq;have x0:=aH.cell (i:=0) rfl
       clear aH aq)
    | (go_at_call 62;(with_reducible refine(HS.out _).mono ?_);rintro e2 w2 ⟨v,rfl,fc,aA⟩
       obtain⟨b1,R,cr,rfl,-,-⟩:=fc.open;rw[sd.out] at fc;rw[qS.out] at fc;have kk:=aY w2 (.cells #[.slice (some ⟨b1,0,none⟩) ql ql,.func (.func d.key) #[] #[],.int .i64 1,.int .i64 1000000,.nilFunc,.slice R rl cr] 112);have jm:=(cW.out.below aA).below kk;have a_:=hZ ((aF.out.trans (aA.mono aF.out.size)).trans (kk.mono (aV aF.out.size aA.size)));have y0:=jm.cell (i:=2) rfl;have y1:=jm.cell (i:=3) rfl;rw[qS.out,sd.out]
       clear aA fc kk jm)
    |fail)
   go_ret;exact⟨rfl,a_.out⟩
 have g3:decide (e.day<0)=false:=by simp;omega
 rw[decide_eq_true (by omega),Bool.true_and] at h
 by_cases h4:100000<e.day
 · have g4:decide (100000<e.day)=true:=by simp[h4]
   clear h
   go_enter D9,Ea
   go_wp2_with (first
    | ((with_reducible refine ff rfl (.tmp 0) rfl e ?hx ?_);(case hx=>rfl);intro w1 aH aq aP
       have cW:=hZ aH;have aF:=hZ aq;have x0:=aH.cell (i:=0) rfl
       clear aH aq)
    | (go_at_call 62;(with_reducible refine(HS.out _).mono ?_);rintro e2 w2 ⟨v,rfl,fc,aA⟩
       obtain⟨b1,R,cr,rfl,-,-⟩:=fc.open;rw[sd.out] at fc;rw[qS.out] at fc;have kk:=aY w2 (.cells #[.slice (some ⟨b1,0,none⟩) ql ql,.func (.func d.key) #[] #[],.int .i64 1,.int .i64 1000000,.nilFunc,.slice R rl cr] 112);have jm:=(cW.out.below aA).below kk;have a_:=hZ ((aF.out.trans (aA.mono aF.out.size)).trans (kk.mono (aV aF.out.size aA.size)));have y0:=jm.cell (i:=2) rfl;have y1:=jm.cell (i:=3) rfl;rw[qS.out,sd.out]
       clear aA fc kk jm)
    |fail)
   go_ret;exact⟨rfl,a_.out⟩
 rw[decide_eq_true (by omega)] at h;cases h
theorem aoS (e:af) (w:ae) (h:e.kind<1∨9<e.kind):ax ah 20 #[e.val] w (cC w false):=by
 have HS:=hZ (fun W=>ank e.kind W h);clear h
 go_enter D9,Ea
 go_wp2_with (first
  | ((with_reducible refine ff rfl (.tmp 0) rfl e ?hx ?_);(case hx=>rfl);intro w1 aH aq aP
     have aF:=hZ aq;have x0:=aH.cell (i:=0) rfl
     clear aH aq)
  | (go_at_call 62;(with_reducible refine(HS.out _).mono ?_);rintro e2 w2 ⟨rfl,aA⟩
     have aG:=aw aF aA
     clear aA)
  |fail)
 go_ret;exact⟨rfl,aG.out.trans ((aY _ _).mono aG.out.size)⟩
theorem zK (e:af) (hs:e.Small) (w:ae) (hp:dY w):ax ah 20 #[e.val] w (cC w (bE e)):=by
 by_cases hk:e.kind<1∨9<e.kind
 · have:bE e=false:=by
    unfold bE gC;rw[if_neg (by omega),if_neg (by omega),if_neg (by omega),if_neg (by omega),if_neg (by omega),if_neg (by omega),if_neg (by omega),if_neg (by omega),if_neg (by omega)]
   rw[this];exact aoS e w hk
 by_cases hh:fZ e=true
 · have h2:=hh
   unfold fZ at h2;simp only[Bool.and_eq_true,decide_eq_true_eq] at h2;obtain⟨a1,a2,a3,a4⟩:=h2;rcases(by omega:e.kind=1∨e.kind=2∨e.kind=3∨e.kind=4∨e.kind=5∨e.kind=6∨e.kind=7∨e.kind=8∨e.kind=9) with q|q|q|q|q|q|q|q|q
   · exact aov e hs w hp q a1 a2 a3 a4
   · exact aox e hs w hp q a1 a2 a3 a4
   · exact aoy e hs w hp q a1 a2 a3 a4
   · exact aoz e hs w hp q a1 a2 a3 a4
   · exact aoA e hs w hp q a1 a2 a3 a4
   · exact aoB e hs w hp q a1 a2 a3 a4
   · exact aoC e hs w hp q a1 a2 a3 a4
   · exact aoD e hs w hp q a1 a2 a3 a4
   · exact aoE e hs w hp q a1 a2 a3 a4
 · have hf:fZ e=false:=by simpa using hh
   (have:bE e=false:=by unfold bE;split<;>simp[hf]);rw[this];rcases(by omega:e.kind=1∨e.kind=2∨e.kind=3∨e.kind=4∨e.kind=5∨e.kind=6∨e.kind=7∨e.kind=8∨e.kind=9) with q|q|q|q|q|q|q|q|q
   · exact zG e _ w (fun W=>by rw[q];exact Nf W) hf
   · exact zG e _ w (fun W=>by rw[q];exact Ng W) hf
   · exact zG e _ w (fun W=>by rw[q];exact Nh W) hf
   · exact zG e _ w (fun W=>by rw[q];exact Ni W) hf
   · exact zG e _ w (fun W=>by rw[q];exact Nj W) hf
   · exact zG e _ w (fun W=>by rw[q];exact Nk W) hf
   · exact zG e _ w (fun W=>by rw[q];exact Nl W) hf
   · exact zG e _ w (fun W=>by rw[q];exact Nn W) hf
   · exact zG e _ w (fun W=>by rw[q];exact Np W) hf
def jG (W:ae) (B b:Nat) (l:List UInt8):Prop:=∃p v,B≤b∧(p=.pointer none∨p=.pointer (some ⟨b,0,none⟩))∧W.heap[b]?=some (.cells #[p,v] 120 (0,0))∧W.ownsRowF B 5 1 v l.length (pL l)∧v.ownBlock≠some b
theorem jG.new (W:ae) {B:Nat} (hB:B≤W.heap.size):jG (W.alloc (.cells #[.pointer none,.slice none 0 0] 120)) B W.heap.size []:=
 ⟨_,_,hB,.inl rfl,bG W _,U6 _ _ _ _,by simp[KG]⟩
theorem aib (b:Nat) (v:ai) (w:ae) (h:w.heap[b]?=some (.cells #[.pointer none,v] 120 (0,0))):
 ax ah 170 #[.pointer (some ⟨b,0,none⟩)] w fun e w'=>e=.returned (.tuple #[])∧w'=w.setCell ⟨b,0,none⟩ (.pointer (some ⟨b,0,none⟩)):=by
 have c0:=fm h;have f0:=cY h 0;have fc:w.shape? b=some (120,2):=by unfold af7;rw[h];rfl
 obtain⟨j,hj,ZF⟩:=Option.map_eq_some_iff.1 (show(ah.info? 118).map (·.size)=some 2 by kernel_rfl);have tE:=hZ fc;have HJ:=hZ (And.intro hj ZF);clear h fc hj ZF
 go_enter adt,aeB
 go_wp2;rw[Lib.run_to_unsafe w ⟨b,0,none⟩ KD afu HJ.out.1 (by rw[HJ.out.2];decide) tE.out (Nat.zero_lt_succ 1)];simp only[Result.andThen];rw[Oper.upon_value];go_wp2;rw[run_callFunc_extern Tryz.func231 (by kernel_rfl) (by kernel_rfl) (by kernel_rfl) (e:=Extern.AbiNoEscape.same) (by kernel_rfl)];rw[Lib.run_noEscape];simp only[Result.andThen];rw[Oper.upon_value];go_wp2;rw[Lib.run_from_unsafe w ⟨b,0,none⟩ afu KD HJ.out.1 tE.out (by kernel_rfl)];simp only[Result.andThen];rw[Oper.upon_value];go_wp2
 go_end0
 exact⟨rfl,rfl⟩
theorem aic (b:Nat) (w:ae) (h0:w.cell? ⟨b,0,none⟩=some (.pointer (some ⟨b,0,none⟩))):
 ax ah 170 #[.pointer (some ⟨b,0,none⟩)] w fun e w'=>e=.returned (.tuple #[])∧w'=w:=by
 obtain⟨j,hj,_⟩:=Option.map_eq_some_iff.1 (show(ah.info? 118).map (·.size)=some 2 by kernel_rfl)
 go_enter adt,aeB
 go_wp2;rw[Lib.run_neq_ptr_same w _ KD hj];go_wp2
 go_end0
 exact⟨rfl,rfl⟩
theorem S0 {w w':ae} {B:Nat} {e:bF} {v:ai} {n:Nat} {xs:List ai} (h:w.ownsRowF B e 1 v n xs) (hk:∀g,v.ownBlock=some g→w'.heap[g]?=w.heap[g]?):w'.ownsRowF B e 1 v n xs:=by
 refine⟨h.1,?_⟩;rcases h.2 with hn|⟨g,cap,cur,fz,rfl,hb,hg,rest⟩
 · exact .inl hn
 · exact .inr ⟨g,cap,cur,fz,rfl,hb,(hk g rfl).trans hg,rest⟩
theorem jG.keep {W W':ae} {B b:Nat} {l:List UInt8} (h:jG W B b l) (hb:W'.heap[b]?=W.heap[b]?) (hg:∀(g:Nat) (cs:Array ai) (fz:Nat×Nat),W.heap[g]?=some (Obj.cells cs 5 fz)→W'.heap[g]?=W.heap[g]?):jG W' B b l:=by
 obtain⟨p,v,h1,h2,h3,h4,h5⟩:=h;refine⟨p,v,h1,h2,hb.trans h3,S0 h4 (fun g e=>?_),h5⟩;rcases h4.2 with⟨rfl,_⟩|⟨g',cap,cur,fz,rfl,nk,Fo,rest⟩
 · simp[KG] at e
 · simp[KG] at e
   subst e;exact hg _ _ _ Fo
theorem jG.below {W W':ae} {B b:Nat} {l:List UInt8} (h:jG W B b l) (hb:Below W.heap.size W W'):jG W' B b l:=by
 obtain⟨p,v,h1,h2,h3,-⟩:=id h;exact h.keep (hb.block b (bt h3)) (fun g cs fz hg=>hb.block g (bt hg))
theorem apf {W:ae} {B b:Nat} {l:List UInt8} (h:jG W B b l):
 ax ah 170 #[.pointer (some ⟨b,0,none⟩)] W fun e W'=>e=.returned (.tuple #[])∧(∃v,W'.heap[b]?=some (.cells #[.pointer (some ⟨b,0,none⟩),v] 120 (0,0))∧W'.ownsRowF B 5 1 v l.length (pL l)∧v.ownBlock≠some b)∧Below B W W'∧uq 5 (some b) W W':=by
 obtain⟨p,v,h1,hp,h3,h4,h5⟩:=h;rcases hp with rfl|rfl
 · refine(aib b v W h3).mono ?_
   rintro e W' ⟨rfl,rfl⟩;refine⟨rfl,⟨v,E4 h3,S0 h4 (fun g e=>fA _ _ _ _ (fun e2=>h5 (by rw[e,e2]))),h5⟩,(bK _ _).setCell (p:=⟨b,0,none⟩) h1 _,?_⟩;intro k o ho hk _;exact(fA _ _ _ _ (fun e=>hk (by rw[e]))).trans ho
 · refine(aic b W (fm h3)).mono ?_
   rintro e W' ⟨rfl,rfl⟩;exact⟨rfl,⟨v,h3,h4,h5⟩,bK _ _,Ui _ _ _⟩
theorem acR {W:ae} {B b:Nat} {l:List UInt8} (h:jG W B b l) (s:ByteArray) (hl:l.length+s.size≤1000000000) (hB:B≤W.heap.size):
 ax ah 123 #[.pointer (some ⟨b,0,none⟩),.string s] W fun e W'=>e=.returned (.tuple #[.int .i64 s.size,.nilIface])∧jG W' B b (l++s.data.toList)∧Below B W W'∧uq 5 (some b) W W':=by
 have h1:B≤b:=by obtain⟨p,v,h1,-⟩:=h;exact h1
 have HC:=hZ (apf h);obtain⟨i0,hi,nD,od,l7⟩:=info_parts (show(ah.info? 5).map (fun i=>(i.zero,i.size,i.bytes))=some (some (.int .u8 0),1,1) by kernel_rfl);clear h
 go_enter Tryz.func123,Tryz.ntmps123
 go_wp2_with (first|(go_at_call 170;refine HC.out.mono ?_)|fail)
 rintro e w1 ⟨rfl,⟨v,oN,jq,bf⟩,aq,fJ⟩;have c0:=fm oN;have c1:=fg oN;have aU:=aq.size
 go_wp2_with (at_builtin;refine Lib.wpList_append_own_stringF _ rfl _ _ 116 9 rfl B 5 i0 uu qE hi nD od l7 _ _ _ rfl jq s rfl ?c3 ?c4 ?c5 ?_)
 case c3=>unfold cH;omega
 case c4=>omega
 case c5=>omega
 intro v' w2 qp sH _;have ar:b<w1.heap.size:=bt oN
 have aA:w2.heap[b]?=some (.cells #[.pointer (some ⟨b,0,none⟩),v] 120 (0,0)):=by
  rw[sH.block b ar (fun e=>bf e.symm)];exact oN
 have d0:=fm aA;have d1:=fg aA;have f1:=cY aA 1
 obtain⟨ao,n',cap,rfl⟩:∃ao n' cap,v'=.slice ao n' cap:=by
  rcases qp.2 with⟨hv,_⟩|⟨g,cap,cur,fz,hv,_⟩
  · exact⟨_,_,_,hv⟩
  · exact⟨_,_,_,hv⟩
 have RT:(Value.slice ao n' cap).ownBlock≠some b:=fun e=>by
  obtain⟨c,fz,hg⟩:=ada qp b e;rw[aA] at hg;injection hg with hg;injection hg with e1 e2 e3;exact absurd e2 (by decide)
 have tS:jG (w2.setCell ⟨b,1,none⟩ (.slice ao n' cap)) B b (l++s.data.toList):=by
  refine⟨_,_,h1,.inr rfl,E5 aA,S0 ?_ (fun g e=>fA _ _ _ _ (fun e2=>RT (by rw[e,e2]))),RT⟩;have e1:pL (l++s.data.toList)=pL l++NT s:=by unfold pL NT;simp
  have e2:(l++s.data.toList).length=l.length+s.size:=by rw[eV];rfl
  rw[e1,e2];exact qp
 have Fm:Below B W (w2.setCell ⟨b,1,none⟩ (.slice ao n' cap)):=(aq.grown sH (by omega) (fun k hk=>(jq.lt k hk).1)).setCell (p:=⟨b,1,none⟩) h1 _;have Rz:uq 5 (some b) W (w2.setCell ⟨b,1,none⟩ (.slice ao n' cap)):=(fJ.grown sH (ada jq)).setCell ⟨b,1,none⟩ rfl _;go_wp2
 go_ret2
 exact⟨rfl,tS,Fm,Rz⟩
theorem acQ {W:ae} {B b:Nat} {l:List UInt8} (h:jG W B b l) (h0:l≠[]):
 ax ah 65 #[.pointer (some ⟨b,0,none⟩)] W fun e W'=>e=.returned (.string ⟨l.toArray⟩)∧Below B W W'∧uq 5 (some b) W W':=by
 obtain⟨p,v,hB,hp,oN,jq,bf⟩:=h;have qn:l.length≠0:=by simpa using h0
 obtain⟨g,cap,cur,fz,rfl,Rc,hg,Mj,hnc,pz,hcs,FJ⟩:∃g cap cur fz,v=.slice (some ⟨g,0,none⟩) l.length cap∧B≤g∧W.heap[g]?=some (.cells cur 5 fz)∧fz.2≤l.length*1∧l.length≤cap∧cap≤cH∧cur.size=cap*1∧cur.toList.take (l.length*1)=pL l:=by
  rcases jq.2 with⟨_,hz⟩|⟨g,cap,cur,fz,hv,r⟩
  · exact absurd hz qn
  · exact⟨g,cap,cur,fz,hv,r⟩
 have c1:W.drew.cell? ⟨b,1,none⟩=some (.slice (some ⟨g,0,none⟩) l.length cap):=fg oN
 have hSD:(Builtin.unsafeSliceData_ #[116] 174 #[.slice (some ⟨g,0,none⟩) l.length cap]).run ah W.drew=.ok (.pointer (some ⟨g,0,none⟩)) W.drew:=
  Lib.run_unsafeSliceData_row _ _ _ _ _ _ (by omega)
 have hUS:(Builtin.unsafeString_ #[174,3] 9 #[.pointer (some ⟨g,0,none⟩),.int .i64 l.length]).run ah W.drew=.ok (.string ⟨l.toArray⟩) (W.drew.freeze ⟨g,0,none⟩ l.length):=by
  refine Lib.run_unsafeString_row W.drew 174 3 9 5 Tryz.underlying174 (by kernel_rfl) g cur.size (by have Fo:W.drew.heap[g]?=some (.cells cur 5 fz):=hg;simp[af7,Fo]) l h0 (by omega) (by unfold cH at pz;omega) ?_;intro j x hx;have:=jq.cells (g:=g) rfl j (.int .u8 x.toNat) (by simp[pL,hx]);exact this
 have Fm:=Lib.below_freeze (eR (bK B W)) (p:=⟨g,0,none⟩) Rc l.length;have Rz:=((Ui 5 (some b) W).drew).freeze ⟨g,0,none⟩ l.length ⟨cur,fz,hg⟩
 go_enter Tryz.func65,Tryz.ntmps65
 have mixed:ah.follows .mixedOrders=true:=by kernel_rfl
 go_wp2
 go_region_o
 all_goals (go_wp2;go_ret;exact⟨rfl,Fm,Rz⟩)
end Go.Proofs.YteeifhlhpiimoaaGreatDoor
end
section
namespace Go.Proofs.YteeifhlhpiimoaaGreatDoor.Wr
open Go
def lV:Nat→Nat→List (Nat×Bool)
 |0,z=>[(z,true)]
 |f+1,z=>if z<128 then[(z,true)] else(z%128,false)::lV f (z/128)
def oG (z:Nat):List (Nat×Bool):=lV 9 z
def FU (x:Nat×Bool):Nat:=if x.2 then x.1 else x.1+128
def pG (f z:Nat):List UInt8:=(lV f z).map fun x=>ml (FU x)
def BF (z:Nat):List UInt8:=pG 9 z
def SO:Int:=4611686018427387903
def jP (n:Int):Nat:=if 0≤n then(2*n).toNat else(-2*n-1).toNat
def gg (n:Int):List UInt8:=BF (jP n)
theorem QP {f z:Nat} (h:z<128):lV f z=[(z,true)]:=by cases f<;>simp[lV,h]
theorem QR {f z:Nat} (h:128≤z) (hz:z<128^(f+1)):∃g,f=g+1∧lV f z=(z%128,false)::lV g (z/128)∧z/128<128^(g+1):=by
 cases f with
 |zero=>simp at hz;omega
 |succ g=>exact⟨g,rfl,by simp[lV,show ¬z<128 by omega],by rw[Nat.pow_succ] at hz;exact Nat.div_lt_of_lt_mul (by rw[Nat.mul_comm];exact hz)⟩
theorem Yo (f z:Nat):(lV f z).length≤f+1:=by
 induction f generalizing z with
 |zero=>simp[lV]
 | succ f ih=>
   unfold lV
   split
   · simp
   · have:=ih (z/128);simp;omega
theorem ala {f z:Nat} (h:z<128):pG f z=[ml z]:=by simp[pG,QP h,FU]
theorem alc {f z:Nat} (h:128≤z) (hz:z<128^(f+1)):∃g,f=g+1∧pG f z=ml (z%128+128)::pG g (z/128)∧z/128<128^(g+1):=by
 obtain⟨g,hg,he,hl⟩:=QR h hz;exact⟨g,hg,by simp[pG,he,FU],hl⟩
theorem T' {n:Int} (h1: -SO≤n) (h2:n≤SO):jP n<9223372036854775807:=by
 unfold jP SO at*;split<;>omega
def aiy:List Nat:=[0,274646895,549293790,820201905,1098587580,1361435347,1640403810,1905808397,2197175160,2460548119,2722870694,2987750089,3280807620,3553878443,3811616794,4084100981]
def nib (r:Nat):Nat:=(r/16)^^^aiy.getD (r%16) 0
def oj (r b:Nat):Nat:=nib (nib (r^^^b))
theorem alb (f z:Nat):(pG f z).length≤f+1:=by unfold pG;rw[List.length_map];exact Yo f z
theorem ug (n:Int):(gg n).length≤10:=alb 9 _
end Go.Proofs.YteeifhlhpiimoaaGreatDoor.Wr
end
section
namespace Go.Proofs.YteeifhlhpiimoaaGreatDoor.Wr
open Go Go.RowKit Go.Shelf
attribute [local go_sem] Oper.semAt_some
theorem Tryz.aaD:(ah.info? 5).map (fun i=>(i.zero,i.size,i.bytes))=some (some (.int .u8 0),1,1):=by kernel_rfl
def bv (b:UInt8):ai:=.int .u8 (b.toNat:Int)
theorem Qw {P:Program} {w:ae} {base:Nat} {e:bF} {v:ai} {l:List UInt8} (src dst:bF) (hs:P.underlying src=some (.slice e)) (he:P.underlying e=some (.int .u8)) (hd:P.underlying dst=some .string)
 (h:w.ownsRow base e 1 v l.length (l.map bv)):(convert src dst v).run P w=.ok (.string ⟨l.toArray⟩) w:=by
 rcases h.2 with⟨rfl,h0⟩|⟨g,cap,cur,rfl,hg,hh,h1,h2,h3,h4⟩
 · obtain rfl:l=[]:=List.length_eq_zero_iff.1 h0
   exact Lib.run_convert_nil_bytes w src dst e 0 hs he hd
 · refine run_convert_bytes_back w src dst e ⟨g,0,none⟩ cap l hs he hd fun j hj=>?_
   have:=h.cells (g:=g) rfl j (.int .u8 (l[j].toNat:Int)) (by simp[bv,bp hj]);exact this
theorem ajr (z:Int) (w:ae):
 ax ah 169 #[.int .u64 z] w fun e w'=>e=.returned (.func (.func 230) #[] #[.pointer (some ⟨w.heap.size,0,none⟩)])∧w'=w.alloc (.cells #[.int .u64 z] 203):=by
 go_enter Tryz.func169,Tryz.ntmps169
 go_wp2;go_ret;exact⟨rfl,rfl⟩
def leftOf (bz:Nat) (w:ae):Nat:=match w.cell? ⟨bz,0,none⟩ with|some (.int _ n)=>n.toNat|_=>0
def LP (x:Nat×Bool):Array ai:=#[.int .u8 (x.1:Int),.bool x.2]
theorem ajs (z bz:Nat) (hz:z<18446744073709551616) (w:ae) (hb:cG w bz 203 (.int .u64 (z:Int))):
 tG ah 230 #[.pointer (some ⟨bz,0,none⟩)] LP (fun k=>k=bz) (fun A B=>B.heap[bz]?=A.heap[bz]?) (fun xs=>xs=oG z) (fun _=>True) (oG z).length w:=by
 intro l J Jx W hW hJ L_ hY h0;have dK:cG W bz 203 (.int .u64 (z:Int)):=(hW.block bz hb.lt).trans hb;refine callsIn_of_wp adG rfl trivial ?_ rfl;simp only[Tryz.ntmps230,tf,eF,pQ,xU,Ch,BY,BZ,Cd,Ca,xS,s6]
 gi_wp2_with fail
 gi_loopw [3] (fun _ wr=> ∃(pre:List (Nat×Bool)) (f c:Nat),cG wr bz 203 (.int .u64 (c:Int))∧c<128^(f+1)∧c≤z∧oG z=pre++lV f c∧J pre wr) (fun _ wr=>leftOf bz wr)
 case atStart=>exact⟨[],9,z,dK,Nat.lt_trans hz (by decide),aB _,rfl,h0⟩
 case round=>
  obtain⟨pre,f,c,I7,hc,Dm,hg,hj⟩:=hrel;have hcell:=I7.cell;have ajN:=I7.frozen
  have qq:pre.length<(oG z).length:=by
   (rw[hg];have:0<(lV f c).length:=by cases f<;>simp[lV];split<;>simp);simp;omega
  have Fk:bz<wr.heap.size:=I7.lt
  by_cases ar:c<128
  · have h1:bits .and .u64 (c:Int) 127=(c:Int):=by
     have:=u64_and_nat c 127 (by omega) (by omega);rw[nat_mask7,Nat.mod_eq_of_lt ar] at this;exact this
    (have h2:(c:Int)%256=(c:Int):=by omega);(have h3:((c:Int)<128):=by omega);obtain⟨fn,tmps,assign,body,hy,hR⟩:=hY pre (c,true) wr hj qq
    dsimp only[LP] at hy
    gi_wp2_with fail
    refine hR.mono ?_;(have u_:oG z=pre++[(c,true)]:=by rw[hg,QP ar]);have ahG:=hZ u_;clear u_ hg h1 h2;rintro e W3 (⟨rfl,AX,jV⟩|⟨rfl,AY⟩)
    · gi_wp2
      refine et (U9 rfl _ _ _) rfl ?_;exact⟨⟨_,rfl⟩,.inl ⟨_,ahG.out.symm,AX⟩⟩
    · gi_wp2
      refine et (U9 rfl _ _ _) rfl ?_;exact⟨⟨_,rfl⟩,.inr ⟨_,trivial,AY⟩⟩
  · obtain⟨g,hf,n0,wS⟩:=QR (f:=f) (by omega) hc
    have h1:bits .and .u64 (c:Int) 127=((c%128:Nat):Int):=by
     have:=u64_and_nat c 127 (by omega) (by omega);rw[nat_mask7] at this;exact this
    obtain⟨q,hq⟩:=oQ (c%128);rw[hq] at h1 n0;(have hq8:q<128:=by omega);(have h2:(q:Int)%256=(q:Int):=by omega);(have h3:decide ((c:Int)<128)=false:=by simp;omega);(have h4:(c:Int)/128=((c/128:Nat):Int):=by omega);(have pB:c/128<c:=by omega);(have Jg:oG z=(pre++[(q,false)])++lV g (c/128):=by rw[hg,n0];simp);obtain⟨d,hd⟩:=oQ (c/128);rw[hd] at h4 pB Jg wS;have Hgz:=hZ Jg;obtain⟨fn,tmps,assign,body,hy,hR⟩:=hY pre (q,false) wr hj qq
    dsimp only[LP] at hy
    clear Jg hg n0 hq hd hf
    gi_wp2_with fail
    refine hR.mono ?_;rintro e W3 (⟨rfl,AX,jV⟩|⟨rfl,AY⟩)
    · have Rh:cG W3 bz 203 (.int .u64 (c:Int)):=jV.trans I7
      have apU:=Rh.cell;have apW:=Rh.frozen;have w_:=Rh.set (.int .u64 (d:Int));clear hcell ajN jV h1 h2
      gi_wp2
      go_roundw
      case rel=>exact⟨pre++[(q,false)],g,d,w_,wS,by omega,Hgz.out,hJ _ _ _ AX (aO.setCell _ _ _ rfl)⟩
      case measure=>
       have e1:=w_.cell;simp only[leftOf,e1,I7.cell];simpa using pB
    · gi_wp2
      refine et (U9 rfl _ _ _) rfl ?_;exact⟨⟨_,rfl⟩,.inr ⟨_,trivial,AY⟩⟩
theorem wrap_u64 (n:Int):NS.wrap n=n%18446744073709551616:=by simp[IntKind.wrap,IntKind.bits,IntKind.signed]
theorem apx (n:Int) (h1: -4611686018427387903≤n) (h2:n≤4611686018427387903):
 bits .xor .u64 (NS.wrap (NS.wrap n*2)) (NS.wrap (n/9223372036854775808))=(jP n:Int):=by
 rw[wrap_u64,wrap_u64,wrap_u64]
 by_cases h:0≤n
 · rw[u64_xor _ _ (by omega) (by omega) (by omega) (by omega)]
   (have e1:((n%18446744073709551616*2)%18446744073709551616).toNat=jP n:=by unfold jP;rw[if_pos h];omega);(have e2:(n/9223372036854775808%18446744073709551616).toNat=0:=by omega);rw[e1,e2,Nat.xor_zero]
 · rw [u64_xor _ _ (by omega) (by omega) (by omega) (by omega)]
   (have e1:((n%18446744073709551616*2)%18446744073709551616).toNat=18446744073709551615-jP n:=by unfold jP;rw[if_neg h];omega);(have e2:(n/9223372036854775808%18446744073709551616).toNat=2^64-1:=by omega);have hz:=T' h1 h2
   have e3:(18446744073709551615-jP n)^^^(2^64-1)=jP n:=by
    apply Nat.eq_of_testBit_eq;intro i;rw[Nat.testBit_xor,Nat.testBit_two_pow_sub_one];have:(18446744073709551615-jP n)=2^64-1-jP n:=rfl;have e4:=Nat.testBit_two_pow_sub_succ (x:=jP n) (n:=64) (by omega) i;rw[this,show 2^64-1-jP n=2^64-(jP n+1) by omega,e4]
    by_cases hi:i<64
    · simp[hi]
    · have:(jP n).testBit i=false:=Nat.testBit_lt_two_pow (Nat.lt_of_lt_of_le (show jP n<2^64 by omega) (Nat.pow_le_pow_right (by decide) (by omega)))
      simp[hi,this]
   rw[e1,e2,e3]
def tM (x:Nat×Bool):ai:=.int .u8 (if x.2 then(x.1:Int) else bits .or .u8 (x.1:Int) 128)
theorem ai0 (f z:Nat) (hz:z<128^(f+1)):(lV f z).map tM=(pG f z).map bv:=by
 induction f generalizing z with
 | zero=>
   (have:z<128:=by simpa using hz);have e:(ml z).toNat=z:=by simp;omega
   simp[pG,lV,tM,FU,bv,e]
 | succ f ih=>
   by_cases h:z<128
   · have e:(ml z).toNat=z:=by simp;omega
     simp[pG,QP h,tM,FU,bv,e]
   · obtain⟨g,hg,he,hl⟩:=QR (by omega) hz
     (obtain rfl:f=g:=by omega);have ih':=ih _ hl;have hq:z%128<128:=Nat.mod_lt _ (by decide)
     have e0:bits .or .u8 ((z%128:Nat):Int) 128=((z%128+128:Nat):Int):=by
      have:=u8_or_nat (z%128) 128 (by omega) (by decide);rw[Nat.or_comm,nat_join 7 128 (z%128) (by decide) (by omega),Nat.add_comm] at this;exact this
     (have e1:(ml (z%128+128)).toNat=z%128+128:=by simp;omega);simp only[pG] at ih';simp only[pG,he,List.map_cons,tM,FU,bv,e1,ih',Bool.false_eq_true,if_false];rw[e0]
theorem ah5 {W w1:ae} {MT base B:Nat} {t e:bF} {size:Nat} {v v':ai} {k m:Nat} {xs ys:List ai} {tmp:Obj}
 (hv:cG W B t v) (FK:t≠e) (cL:W.ownsRow base e size v k xs) (aj4:MT≤W.heap.size) (hB:MT≤B) (hb:MT≤base)
 (qp:w1.ownsRow base e size v' m ys) (sH:(W.alloc tmp).grownBy w1 v.ownBlock):
 cG w1 B t v∧cG (w1.setCell ⟨B,0,none⟩ v') B t v'∧(w1.setCell ⟨B,0,none⟩ v').ownsRow base e size v' m ys∧KeepsOthers W (w1.setCell ⟨B,0,none⟩ v')∧Below MT W (w1.setCell ⟨B,0,none⟩ v')∧
 (∀k,k<base→k≠B→k<W.heap.size→(w1.setCell ⟨B,0,none⟩ v').heap[k]?=W.heap[k]?):=by
 obtain⟨a1,a2,_,a4,a5⟩:=hv.appended FK (cL.mono hb) aj4 hB (qp.mono hb) sH;refine⟨a1,a2,qp.kept (grownBy_setCell' w1 B v') (.inr (a1.not_row FK qp).symm),a4,a5,fun k hk hkB hkW=>?_⟩;rw[fA _ _ _ _ hkB,sH.block k (by simp;omega) (fun e=>?_),Below.heap_alloc _ _ _ hkW];have:=(cL.lt k e.symm).1;omega
theorem abG (n:Int) (h1: -4611686018427387903≤n) (h2:n≤4611686018427387903) (w:ae):
 ax ah 122 #[.int .i64 n] w fun e w'=>e=.returned (.tuple #[.string ⟨(gg n).toArray⟩,.int .i64 0])∧Below w.heap.size w w':=by
 have MD:=T' h1 h2;have Sz:=apx n h1 h2;obtain⟨z,hz⟩:=oQ (jP n);rw[hz] at MD Sz;have HZ:=hZ hz;have HB:=hZ Sz;clear hz Sz;have bf:0<(oG z).length:=by simp only[oG,lV];split<;>simp
 have hle:(oG z).length≤10:=Yo _ _;obtain⟨i0,hi,nD,od,l7⟩:=info_parts Tryz.aaD;refine(callsIn_wide (n:=3)).1 ?_;refine callsIn_of_wp_marks Tryz.func122 rfl trivial ?_ rfl;simp only[Tryz.ntmps122,tf,eF,pQ,xU,Ch,BY,BZ,Cd,Ca,xS,s6]
 gi_wp2_with fail
 refine⟨trivial,?_⟩;rw[HB.out];refine(callsIn_wide.2 (ajr _ _)).mono ?_;rintro e w' ⟨rfl,rfl⟩;have bO:=Boxed.new w 116 (.slice none 0 0);have bN:=Boxed.new (w.alloc (.cells #[.slice none 0 0] 116)) 203 (.int .u64 (z:Int));rw[gI] at bN;have sC:Below w.heap.size w ((w.alloc (.cells #[.slice none 0 0] 116)).alloc (.cells #[.int .u64 (z:Int)] 203)):=((bK _ w).alloc (aB _) _).alloc (by simp) _;have aU:((w.alloc (.cells #[.slice none 0 0] 116)).alloc (.cells #[.int .u64 (z:Int)] 203)).heap.size=w.heap.size+2:=by simp
 rw[gI]
 gi_wp2_with fail
 refine TV (gf:=230) (lb:=#[.pointer (some ⟨w.heap.size+1,0,none⟩)]) rfl (qF adG (by kernel_rfl) rfl)
  (ajs z (w.heap.size+1) (by omega) _ bN) (bK _ _) (fun k hk=>by rw[hk,aU];omega) (fun _=>rfl) (fun h k=>k.trans h) (fun W o=>World.putObj_heap_other (by rw[aU];omega))
  (fun pre W=>(∃v,cG W w.heap.size 116 v∧W.ownsRow (w.heap.size+4) 5 1 v pre.length (pre.map tM))∧Below w.heap.size w W)
  (fun _ _ _=>False)
  (fun s A B h t=>by
    obtain⟨⟨v,hv,hr⟩,hb⟩:=h;refine⟨⟨v,t.boxed hv ?_,t.ownsRow hr ?_⟩,t.below hb (aB _) ?_⟩
    · rintro(e|e|e)<;>first|omega|(rw[aU] at e;omega)
    · rintro k (e|e|e)<;>first|omega|(rw[aU] at e;omega)
    · rintro k (e|e|e)<;>first|omega|(rw[aU] at e;omega))
  (fun _ _ _ _ h _=>h.elim)
  ⟨⟨_,bO.alloc _,World.ownsRow_nil _ _ _ _⟩,sC⟩
  ?a1 ?assign ?body ?done ?stop
 case assign=>
  intro l x W K hK
  dsimp only[LP]
  gi_wp2
  exact hK
 case body=>
  rintro l pre ⟨g,last⟩ W hW ⟨⟨v,hv,cL⟩,hB⟩ ar
  dsimp only
  rw[aU] at hW;have hc:=hv.cell;have wP:=hB.size;have Hz:Hid (W.heap[w.heap.size+1]?=W.heap[w.heap.size+1]?):=rfl;cases last
  all_goals
   gi_wp2_with (gi_at_builtin;refine wpListIn_append_own _ rfl _ _ 116 rfl (w.heap.size+4) 5 i0 (.int .u8 0) 1 1 uu hi nD od l7 rfl (by decide) _ _ _ rfl (cL.alloc _) ⟨W.heap.size,0,none⟩ 1 1 [_] rfl rfl (cell_one_new _ _ _) (by simp[Value.oneCell']) (by unfold cH;omega) (by omega) (by simp;omega) ?_;intro v' w1 qp sH _;obtain⟨g',fI,rfl⟩:=ownsRow_succ qp;obtain⟨iF,gd,pE,kt,aA,eO⟩:=ah5 hv (by decide) cL hB.size (aB _) (by omega) qp sH;have fX:=iF.cell;have jb:=iF.frozen)
   exact⟨kt.from _,eO _ (by omega) (by omega) (by omega),⟨_,gd,by simpa[tM] using pE⟩,hB.trans aA⟩
 case done=>
  rintro xs W rfl ⟨⟨v,hv,cL⟩,hB⟩ hK;rw[aU] at hK;have hc:=hv.cell;have wP:=hB.size;rw[oG,ai0 9 z (by omega)] at cL;have iE:(lV 9 z).length=(BF z).length:=by simp[BF,pG]
  rw[iE] at cL;have Rn:=Qw (P:=ah) 116 9 uu Tryz.underlying5 qE cL;have Jy:gg n=BF z:=by unfold gg;rw[HZ.out]
  have ahH:=hZ Jy;clear Jy iE bf hle
  gi_wp2
  refine⟨by simp,.inl ⟨_,_,rfl,run_takeDeferred (by rw[aU];exact hK),?_⟩⟩;refine⟨_,results_tmp2 rfl _ _ _,?_,(aO.putObj (Z:=fun k=>k=w.heap.size+2) W _ _ aU).below hB (aB _) (fun k hk=>by omega)⟩;rw[ahH.out];rfl
 case stop=>
  rintro c pre W _ h _;exact h.elim
end Go.Proofs.YteeifhlhpiimoaaGreatDoor.Wr
end
section
namespace Go.Proofs.YteeifhlhpiimoaaGreatDoor.Wr
open Go Go.RowKit
theorem amc (s:ByteArray) (h:s.size≤65536) (w:ae):
 ax ah 124 #[.string s] w fun e w'=>e=.returned (.tuple #[.string (⟨(gg s.size).toArray⟩++s),.int .i64 0])∧Below w.heap.size w w':=by
 have hl:=ug s.size
 go_enter Tryz.func124,Tryz.ntmps124
 go_wp2_with (go_at_call 122;refine(abG _ (by omega) (by omega) _).mono ?_;rintro e w1 ⟨rfl,aq⟩)
 go_ret2
 exact⟨rfl,aq⟩
end Go.Proofs.YteeifhlhpiimoaaGreatDoor.Wr
end
section
namespace Go.Proofs.YteeifhlhpiimoaaGreatDoor
open Go Go.RowKit Go.Shelf Wr
attribute [local go_sem] Oper.semAt_some
def lE (l:List Int):List UInt8:=l.flatMap gg
theorem S6 (l:List Int):(lE l).length≤10*l.length:=by
 induction l with
 |nil=>simp[lE]
 | cons n l ih=>
   have:=ug n;unfold lE at ih⊢;rw[rN,eV,eF];omega
def iv (n:Int):ai:=.int .i64 n
def gN (n:Int):Prop:=-4611686018427387903≤n∧n≤4611686018427387903
theorem S5 (b B:Nat) (l:List UInt8) (ns:List Int) (A:Option Addr) (n c:Nat) (hn:ns.length=n) (qo:n≤1000) (hl:l.length≤100000000) (w:ae) (h:jG w B b l) (hB:B≤w.heap.size) (hA:dJ w w.heap.size A iv ns) (Yw:∀a,A=some a→∃cs T,w.heap[a.block]?=some (.cells cs T (0,0))∧T≠5∧a.block≠b) (hI:∀x∈ns,gN x):
 ax ah 63 #[.pointer (some ⟨b,0,none⟩),.slice A n c] w fun e w'=>e=.returned (.tuple #[])∧jG w' B b (l++lE ns)∧Below B w w'∧uq 5 (some b) w w':=by
 have HW:=hZ h;have HA:=hZ hA;have HAO:=hZ Yw;have HI:=hZ hI;have HN:=hZ hn;clear h hA Yw hI hn
 go_enter Tryz.func63,Tryz.ntmps63
 go_wp2_with fail
 go_loopw [5,6,7,10] (fun _ _ _ v wr=> ∃i:Nat,v=.int .i64 (i:Int)∧i≤n∧jG wr B b (l++lE (ns.take i))∧Below B w wr∧uq 5 (some b) w wr) (fun _ _ _ v _=>match v with|.int _ k=>n-k.toNat|_=>0)
 case atStart=>exact⟨0,rfl,ei _,by simpa[lE] using HW.out,bK _ _,Ui _ _ _⟩
 case round=>
  obtain⟨i,rfl,hi,hW,re,hK⟩:=hrel;have eL:=hZ hW;have aG:=hZ re;have HK:=hZ hK;clear hW re hK
  by_cases ar:i<n
  · have ga:i<ns.length:=by rw[HN.out];exact ar
    obtain⟨a,rfl,d_,gq⟩:=HA.out.get ga;obtain⟨x,hx⟩:=oQ (ns[i]);have ky:ns[i]∈ns:=Cb ga;rw[hx] at gq ky;obtain⟨cs,T,ho,hT,bf⟩:=HAO.out a rfl
    have gq:wr.cell? (a.add i)=some (.int .i64 x):=by
     have hh:=HK.out a.block _ ho (fun e=>bf (mR e)) (fun c fz e=>hT (by injection e));(have e1:(a.add i).block=a.block:=by unfold Addr.add;split<;>rfl);exact(World.cell?_of_block (by rw[e1,hh,ho])).trans gq
    have uc:=HI.out x ky;have HP:=hZ (fun W=>abG x uc.1 uc.2 W);(have eP:ns.take (i+1)=ns.take i++[x]:=by rw[Oz ga,hx]);have HT:=hZ eP;(have d1:decide (i<n)=true:=by simp[ar]);(have z1:(0:Int)≤(i:Int):=by omega);(have z2:(i:Int)<(n:Int):=by omega);(have w1:aQ.wrap ((i:Int)+1)=((i+1:Nat):Int):=by rw[aS];omega);clear ky hx eP uc ho hT;obtain⟨D,hD⟩:∃D:ByteArray,(⟨(gg x).toArray⟩:ByteArray)=D:=⟨_,rfl⟩;rw[hD] at HP;(have sE:D.data.toList=gg x:=by rw[←hD]);(have IP:D.size≤10:=by rw[←hD];exact ug x);have HD:=hZ sE
    have oM:(l++lE (ns.take i)).length+D.size≤1000000000:=by
     rw[eV];have:=S6 (ns.take i);rw[gD] at this;omega
    have o':=hZ oM;clear hD sE IP oM
    go_wp2_with (first
     | (go_at_call 122;(with_reducible refine(HP.out _).mono ?_);rintro e w2 ⟨rfl,hb⟩
        have PY:=hZ (acR (eL.out.below hb) D o'.out (aV hB (aV aG.out.size hb.size)));have a_:=hZ (aG.out.trans (hb.mono (aV hB aG.out.size)));have tw:=hZ (HK.out.trans (fun k o ho _ _=>(hb.block k (bt ho)).trans ho))
        clear hb)
     | (go_at_call 123;(with_reducible refine PY.out.mono ?_);rintro e w3 ⟨rfl,nC,aK,jV⟩
        have ia:=hZ nC;have bJ:=hZ (a_.out.trans aK);have pa:=hZ (tw.out.trans jV)
        clear nC aK jV)
     |fail)
    go_round
    case rel=>
     refine⟨i+1,rfl,by omega,?_,bJ.out,pa.out⟩;have:=ia.out;rw[HD.out] at this;rw[HT.out];(have e:l++lE (ns.take i++[x])=l++lE (ns.take i)++gg x:=by unfold lE;simp);rw[e];exact this
    case measure=>simp;omega
  · have d1:decide (i<n)=false:=by simp;omega
    go_wp2_with fail
    go_end0
    refine⟨rfl,?_,aG.out,HK.out⟩;have:=eL.out
    rwa[eE (by rw[HN.out];omega)] at this
theorem ai7 (w:ae):(binOp .eql 107 .nilFunc .nilFunc).run ah w=.ok (.bool true) w:=by kernel_rfl
theorem ai6 (g:Nat) (w:ae):(binOp .eql 107 (.func (.func g) #[] #[]) .nilFunc).run ah w=.ok (.bool false) w:=by kernel_rfl
def Ql (w:ae) (B b:Nat) (l:List UInt8) (e:Ending) (w':ae):Prop:=e=.returned (.tuple #[])∧jG w' B b l∧Below B w w'∧uq 5 (some b) w w'
theorem SE {W W':ae} {b:Nat} (h:Below W.heap.size W W'):uq 5 (some b) W W':=fun k _ ho _ _=>(h.block k (bt ho)).trans ho
theorem jG.lt {W:ae} {B b:Nat} {l:List UInt8} (h:jG W B b l):B≤b∧b<W.heap.size:=by
 obtain⟨p,v,h1,-,h3,-⟩:=h;exact⟨h1,bt h3⟩
theorem abA (b B:Nat) (l:List UInt8) (hl:l.length≤100000000) (g ci:Nat) (lo:Int) (e:af) (hf:Fits (.num g lo) (.num ci lo)) (w:ae) (h:jG w B b l) (hB:B≤w.heap.size) (hI:gN (e.num ci)):
 ax ah 64 #[.pointer (some ⟨b,0,none⟩),.agg #[.func (.func g) #[] #[],.int .i64 lo,.int .i64 1000000,.nilFunc],e.val] w (Ql w B b (l++gg (e.num ci))):=by
 cases hf with
 | num enters calls ix=>
   have HC:=hZ calls;have HX:=hZ (abm ix e);obtain⟨x,hx⟩:=oQ (e.num ci);rw[hx] at HX hI⊢;have HI:=hZ hI;have HW:=hZ h;have oR:=ai7;clear h hI hx calls ix
   go_enter ad2,aeT
   go_wp2_with (first
    | ((with_reducible refine ff rfl (.tmp 2) rfl e ?hx ?_);(case hx=>rfl);intro w1 aH aq aP
       rw[gI] at aH;have nc:=aH.cell HX.out;have iQ:=(aY w (.cells #[.func (.func g) #[] #[],.int .i64 lo,.int .i64 1000000,.nilFunc] 109));have aF:=hZ (iQ.trans (aq.mono iQ.size));have qV:=hZ aP;have p3:=aJ (i:=3) (fe aq (bG w (.cells #[.func (.func g) #[] #[],.int .i64 lo,.int .i64 1000000,.nilFunc] 109))) rfl;have p0:=aJ (i:=0) (fe aq (bG w (.cells #[.func (.func g) #[] #[],.int .i64 lo,.int .i64 1000000,.nilFunc] 109))) rfl
       have uL:=hZ (S5 b B l [x] (some ⟨w1.heap.size,0,none⟩) 1 1 rfl (by decide) hl (w1.alloc (.cells #[.int .i64 x] 3)) ((HW.out.below aF.out).below (aY _ _)) (aV hB (aV aF.out.size (aY w1 _).size))
        (fun i y hy=>by
          match i,hy with
          |0,hy=>cases hy;exact⟨_,rfl,by simp,aJ (bG w1 (.cells #[.int .i64 x] 3)) rfl⟩)
        (fun a ha=>by cases ha;exact⟨_,_,bG w1 _,by decide,by have:=HW.out.lt.2;have:=aF.out.size;show w1.heap.size≠b;omega⟩)
        (fun y hy=>by rw[fQ.1 hy];exact HI.out))
       clear aH aq aP iQ)
    |(go_at_call 63;(with_reducible refine uL.out.mono ?_);rintro e3 w3 ⟨rfl,nC,aK,jV⟩)
    |((with_reducible refine(HC.out _ _).mono ?_);rintro e2 w2 ⟨rfl,rfl⟩)
    |fail)
   have Fm:=aF.out.trans ((aY w2 (.cells #[.int .i64 x] 3)).mono aF.out.size);have tS:Ql w B b (l++gg x) (.returned (.tuple #[])) w3:=⟨rfl,by simpa[lE] using nC,(Fm.mono hB).trans aK,(SE Fm).trans jV⟩
   go_end0
   exact tS
theorem alG {α:Type} {w:ae} {B:Nat} {e:bF} {f:α→List ai} {v:ai} {l:List α} (h:OL w B e 1 f v l):∀g,v.ownBlock=some g→∃cur,w.heap[g]?=some (.cells cur e (0,0)):=by
 intro g hg;rcases h.2 with⟨rfl,_⟩|⟨g',cap,cur,rfl,hb,h1,r⟩
 · cases hg
 · cases hg;exact⟨cur,h1⟩
def af.str (e:af) (i:Nat):ByteArray:=
 match i with
 |11=>e.ln
 |12=>e.ld
 |13=>e.hn
 |14=>e.hd
 |15=>e.rn
 |16=>e.rd
 |_=>e.text
theorem anS {i:Nat} (h:D3 i) (e:af):e.cells[i]?=some (.string (e.str i)):=by
 rcases h with rfl|rfl|rfl|rfl|rfl|rfl|rfl<;>rfl
def xn (s:ByteArray):List UInt8:=gg s.size++s.data.toList
theorem abH {s:ByteArray} (h:s.size≤65536):(xn s).length≤65546:=by
 unfold xn;have:=ug s.size;rw[eV,show s.data.toList.length=s.size from Array.length_toList];omega
def pJ (e:af) (is:List Nat):List UInt8:=is.flatMap fun i=>xn (e.str i)
theorem J4 (e:af) (is:List Nat) (h:∀i∈is,(e.str i).size≤65536):(pJ e is).length≤65546*is.length:=by
 induction is with
 |nil=>simp[pJ]
 | cons i is ih=>
   have h1:=abH (h i (by simp));have h2:=ih fun j hj=>h j (by simp[hj]);unfold pJ at h2⊢;rw[rN,eV,eF];omega
theorem al2 (b B:Nat) (l:List UInt8) (hl:l.length≤100000000) (g:Nat) (is:List Nat) (e:af) (hf:Fits (.txt g) (.txt is)) (w:ae) (h:jG w B b l) (hB:B≤w.heap.size) (hI:∀i∈is,(e.str i).size≤65536):
 ax ah 64 #[.pointer (some ⟨b,0,none⟩),.agg #[.nilFunc,.int .i64 0,.int .i64 0,.func (.func g) #[] #[]],e.val] w (Ql w B b (l++pJ e is)):=by
 cases hf with
 | txt enters calls ix len=>
   have HC:=hZ calls;have IX:=hZ ix;have HI:=hZ hI;have HW:=hZ h;have sG:=ai6 g;obtain⟨m,hm⟩:=oQ (is.length);rw[hm] at len;have HM:=hZ hm;clear h hI calls ix hm
   go_enter ad2,aeT
   go_wp2_with (first
    | ((with_reducible refine ff rfl (.tmp 2) rfl e ?hx ?_);(case hx=>rfl);intro w1 aH aq aP
       rw[gI] at aH;have cW:=hZ aH;have iQ:=(aY w (.cells #[.nilFunc,.int .i64 0,.int .i64 0,.func (.func g) #[] #[]] 109));have aF:=hZ (iQ.trans (aq.mono iQ.size));have p3:=aJ (i:=3) (fe aq (bG w (.cells #[.nilFunc,.int .i64 0,.int .i64 0,.func (.func g) #[] #[]] 109))) rfl
       clear aH aq aP iQ)
    | ((with_reducible refine(HC.out _ _).mono ?_);rintro e6 w6 ⟨v6,rfl,DH,eB⟩
       obtain⟨A6,c6,rfl,-⟩:=DH.slice;have yj:=hZ (DH.base (B':=w.heap.size) aF.out.size);have pT:=hZ (cW.out.below eB);have dM:=aw aF eB;rw[HM.out] at yj⊢
       clear DH eB)
    |fail)
   clear p3 cW aF
   go_loopw [7,8,9,25] (fun _ _ _ v wr=> ∃k:Nat,v=.int .i64 (k:Int)∧k≤m∧jG wr B b (l++pJ e (is.take k))∧aR wr (w.heap.size+1) e∧OL wr w.heap.size 129 1 (one (ptr (w.heap.size+1))) (.slice A6 m c6) is∧Below B w wr∧uq 5 (some b) w wr) (fun _ _ _ v _=>match v with|.int _ k=>m-k.toNat|_=>0)
   case atStart=>exact⟨0,rfl,ei _,by simpa[pJ] using HW.out.below dM.out,pT.out,yj.out,dM.out.mono hB,SE dM.out⟩
   case round=>
    obtain⟨k,rfl,hk,hW,hE,hO,re,hK⟩:=hrel;have eL:=hZ hW;have cK:=hZ hE;have gL:=hZ hO;have aG:=hZ re;have qM:=hZ hK
    by_cases dR:k<m
    · have ic:k<is.length:=by rw[HM.out];exact dR
      obtain⟨a,rfl,-,gq⟩:=hO.MK.get ic;obtain⟨ci,AZ⟩:=oQ (is[k]);have ky:is[k]∈is:=Cb ic;rw[AZ] at gq ky;unfold ptr at gq;(have FJ:is.take (k+1)=is.take k++[ci]:=by rw[Oz ic,AZ]);have HT:=hZ FJ;have nc:=hE.cell (anS (IX.out ci ky) e);have aU:=HI.out ci ky;obtain⟨s,hs⟩:=oQ (e.str ci);rw[hs] at nc aU;have HS:=hZ hs;have HP:=hZ (fun W=>amc s aU W);obtain⟨D,hD⟩:∃D:ByteArray,((⟨(gg s.size).toArray⟩:ByteArray)++s)=D:=⟨_,rfl⟩;rw[hD] at HP;have sE:D.data.toList=xn s:=by rw[←hD];unfold xn;simp
      have IP:D.size≤65546:=by
       have h9:=abH aU;rw[←sE] at h9;exact h9
      have HD:=hZ sE
      have oM:(l++pJ e (is.take k)).length+D.size≤1000000000:=by
       rw[eV];have:=J4 e (is.take k) (fun i hi=>HI.out i (Oy hi));rw[gD] at this;omega
      have o':=hZ oM;(have d1:decide (k<m)=true:=by simp[dR]);(have z1:(0:Int)≤(k:Int):=by omega);(have z2:(k:Int)<(m:Int):=by omega);(have w1:aQ.wrap ((k:Int)+1)=((k+1:Nat):Int):=by rw[aS];omega);clear ky AZ FJ hs hD sE IP oM hW hE hO re hK aU ic
      go_wp2_with (first
       | (go_at_call 124;(with_reducible refine(HP.out _).mono ?_);rintro e2 w2 ⟨rfl,hb⟩
          have PY:=hZ (acR (eL.out.below hb) D o'.out (aV hB (aV aG.out.size hb.size)));have a_:=hZ (aG.out.trans (hb.mono (aV hB aG.out.size)));have tw:=hZ ((SE (b:=b) hb))
          clear hb)
       | (go_at_call 123;(with_reducible refine PY.out.mono ?_);rintro e3 w3 ⟨rfl,nC,aK,jV⟩
          have ia:=hZ nC;have bJ:=hZ (a_.out.trans aK);have pa:=hZ (tw.out.trans jV)
          clear nC aK jV)
       |fail)
      go_round
      case rel=>
       have aC:=HW.out.lt.2;refine⟨k+1,rfl,by omega,?_,pa.out _ _ cK.out (fun e9=>by have:=mR e9;omega) (fun c fz e9=>by injection e9 with e1 e2 e3;exact absurd e2 (by decide)),gL.out.keep (fun q hq=>?_),bJ.out,qM.out.trans pa.out⟩
       · have:=ia.out
         rw[HD.out] at this;rw[HT.out];(have e9:l++pJ e (is.take k++[ci])=l++pJ e (is.take k)++xn s:=by unfold pJ;rw[←HS.out];simp);rw[e9];exact this
       · obtain⟨cur,Zd⟩:=alG gL.out q hq
         have Fp:=(gL.out.lt q hq).1;rw[Zd];exact pa.out _ _ Zd (fun e9=>by have:=mR e9;omega) (fun c fz e9=>by injection e9 with e1 e2 e3;exact absurd e2 (by decide))
      case measure=>simp;omega
    · have d1:decide (k<m)=false:=by simp;omega
      clear hW hE hO re hK;go_wp2_with fail
      go_end0
      refine⟨rfl,?_,aG.out,qM.out⟩;have:=eL.out
      rwa[eE (by rw[HM.out];omega)] at this
def oW (k:Int):Nat:=if k=2∨k=6∨k=8 then 8 else 1
def aI (e:af):List UInt8:=if bE e then gg e.kind++gg (e.num (oW e.kind)) else[]
def Ay (w:ae) (l:List UInt8) (e:Ending) (w':ae):Prop:=e=.returned (.string ⟨l.toArray⟩)∧Below w.heap.size w w'
theorem abF (n:Int):gg n≠[]:=by
 have:∀z,lV 9 z≠[]:=fun z=>by rw[lV];split<;>simp
 unfold gg BF pG;simpa using this (jP n)
theorem zj (e:af) (hs:e.Small) (d:AB) (ci:Nat) (w:ae) (hp:dY w) (hS:∀W,ax ah 62 #[.int .i64 e.kind] W (sq W d)) (hf:Fits (.num d.key 1) (.num ci 1)) (hv:bE e=true) (hk:gN e.kind) (hx:gN (e.num ci)):
 ax ah 17 #[e.val] w (Ay w (gg e.kind++gg (e.num ci))):=by
 have HV:=hZ (fun W (h:Below w.heap.size w W)=>zK e hs W (hp.below h));rw[hv] at HV;have HS:=hZ hS;have IE:=hZ (di (e:=e));have HF:=hZ hf;have HK:=hZ hk;have HX:=hZ hx;obtain⟨pl,qq⟩:=oQ (d.parts.length);obtain⟨rl,nA⟩:=oQ (d.rest.length);have sa:=hZ qq;have fG:=hZ nA;clear hs hp hS hf hv hk hx qq nA
 go_enter ads,aeA
 go_wp2_with (first
  | ((with_reducible refine ff rfl (.tmp 0) rfl e ?hx ?_);(case hx=>rfl);intro w1 aH aq aP
     have cW:=hZ aH;have aF:=hZ aq;have cX:=hZ (bl (cs:=e.cells) aH)
     clear aH aq aP)
  |(with_reducible refine lm w.heap.size 0 cX.out IE.out bk ?_)
  | (go_at_call 20;(with_reducible refine(HV.out _ aF.out).mono ?_);rintro e2 w2 ⟨rfl,aA⟩
     have cK:=hZ (cW.out.below aA);have aG:=aw aF aA;have x0:=cK.out.cell (i:=0) rfl
     clear aA)
  | (go_at_call 62;(with_reducible refine(HS.out _).mono ?_);rintro e3 w3 ⟨v,rfl,fc,aK⟩
     obtain⟨b1,R,cr,rfl,-,-⟩:=fc.open;rw[sa.out,fG.out];have jE:=hZ (cK.out.below aK);have a_:=aw aG aK;obtain⟨k1,k2,k3,k4⟩:=kV w3 #[.slice (some ⟨b1,0,none⟩) pl pl,.func (.func d.key) #[] #[],.int .i64 1,.int .i64 1000000,.nilFunc,.slice R rl cr] #[.pointer none,.slice none 0 0] 112 120;have tR:=jE.out.below k4;have x1:=tR.cell (i:=0) rfl;have cn:=a_.out.trans (k4.mono a_.out.size);have JS:jG ((w3.alloc (.cells #[.slice (some ⟨b1,0,none⟩) pl pl,.func (.func d.key) #[] #[],.int .i64 1,.int .i64 1000000,.nilFunc,.slice R rl cr] 112)).alloc (.cells #[.pointer none,.slice none 0 0] 120)) w.heap.size (w3.heap.size+1) []:=⟨_,_,Nat.le_succ_of_le a_.out.size,.inl rfl,k2,U6 _ _ _ _,by simp[KG]⟩;have k6:=aY ((w3.alloc (.cells #[.slice (some ⟨b1,0,none⟩) pl pl,.func (.func d.key) #[] #[],.int .i64 1,.int .i64 1000000,.nilFunc,.slice R rl cr] 112)).alloc (.cells #[.pointer none,.slice none 0 0] 120)) (.cells #[.int .i64 e.kind] 3);have hn:=bG ((w3.alloc (.cells #[.slice (some ⟨b1,0,none⟩) pl pl,.func (.func d.key) #[] #[],.int .i64 1,.int .i64 1000000,.nilFunc,.slice R rl cr] 112)).alloc (.cells #[.pointer none,.slice none 0 0] 120)) (.cells #[.int .i64 e.kind] 3);rw[k3] at hn
     have uL:=hZ (S5 (w3.heap.size+1) w.heap.size [] [e.kind] (some ⟨w3.heap.size+2,0,none⟩) 1 1 rfl (by decide) (by decide) (((w3.alloc (.cells #[.slice (some ⟨b1,0,none⟩) pl pl,.func (.func d.key) #[] #[],.int .i64 1,.int .i64 1000000,.nilFunc,.slice R rl cr] 112)).alloc (.cells #[.pointer none,.slice none 0 0] 120)).alloc (.cells #[.int .i64 e.kind] 3)) (JS.below k6) (aV cn.size k6.size)
      (fun i y hy=>by
        match i,hy with
        |0,hy=>cases hy;exact⟨_,rfl,bt hn,aJ hn rfl⟩)
      (fun a ha=>by cases ha;exact⟨_,_,hn,by decide,by show w3.heap.size+2≠w3.heap.size+1;omega⟩)
      (fun y hy=>by rw[fQ.1 hy];exact HK.out))
     have nP:=hZ (tR.below k6);have tE:=hZ (fe k6 k1);have cT:=hZ (cn.trans (k6.mono cn.size));have DC:=bt jE.out;have ahs:=hZ DC
     clear aK fc k1 k2 k3 k4 tR cn JS k6 hn DC)
  | (go_at_call 63;(with_reducible refine uL.out.mono ?_);rintro e4 w4 ⟨rfl,hw4,cQ,vl⟩
     have dM:=hZ (cT.out.trans cQ);have DC:=ahs.out;have JG:=vl _ _ tE.out (fun e9=>by have:=mR e9;omega) (fun c fz e9=>by injection e9 with e1 e2 e3;exact absurd e2 (by decide));have u':=vl _ _ nP.out (fun e9=>by have:=mR e9;omega) (fun c fz e9=>by injection e9 with e1 e2 e3;exact absurd e2 (by decide));have s1:=aJ (i:=1) JG rfl;have s2:=aJ (i:=2) JG rfl;have s3:=aJ (i:=3) JG rfl;have s4:=aJ (i:=4) JG rfl;have Lm:=hZ (bl (cs:=e.cells) u');have Hp:=hZ (abA (w3.heap.size+1) w.heap.size _ (by have:=S6 [e.kind];simp at this⊢;omega) d.key ci 1 e HF.out w4 hw4 dM.out.size HX.out)
     clear hw4 cQ vl JG u' DC)
  |(with_reducible refine lm w.heap.size 0 Lm.out IE.out bk ?_)
  | (go_at_call 64;(with_reducible refine Hp.out.mono ?_);rintro e5 w5 ⟨rfl,BA,cn,yQ⟩
     have PI:=hZ (acQ BA (by simp[abF]));have jD:=hZ (dM.out.trans cn)
     clear BA cn yQ)
  |(go_at_call 65;(with_reducible refine PI.out.mono ?_);rintro e6 w6 ⟨rfl,eB,hk6⟩)
  |fail)
 have nu:lE [e.kind]=gg e.kind:=by unfold lE;simp
 have tS:Ay w (gg e.kind++gg (e.num ci)) (.returned (.string ⟨(lE [e.kind]++gg (e.num ci)).toArray⟩)) w6:=⟨by rw[nu],jD.out.trans eB⟩;clear nu;go_ret;exact tS
theorem ND {e:af} (h:bE e=true):1≤e.kind∧e.kind≤9:=by
 by_cases hk:e.kind<1∨9<e.kind
 · have:bE e=false:=by
    unfold bE gC;rw[if_neg (by omega),if_neg (by omega),if_neg (by omega),if_neg (by omega),if_neg (by omega),if_neg (by omega),if_neg (by omega),if_neg (by omega),if_neg (by omega)]
   rw[this] at h;cases h
 · omega
theorem zI {e:af} (h:bE e=true):1≤e.num (oW e.kind)∧e.num (oW e.kind)≤1000000:=by
 have hk:=ND h
 rcases(by omega:e.kind=1∨e.kind=2∨e.kind=3∨e.kind=4∨e.kind=5∨e.kind=6∨e.kind=7∨e.kind=8∨e.kind=9) with q|q|q|q|q|q|q|q|q<;>
 · unfold bE at h
   rw[q] at h⊢;simp[gC,fW] at h;simp[oW];omega
theorem JY (e:af) (hs:e.Small) (w:ae) (hp:dY w):ax ah 17 #[e.val] w (Ay w (aI e)):=by
 unfold aI
 by_cases hv:bE e=true
 · rw[if_pos hv]
   have hk:=ND hv;rcases(by omega:e.kind=1∨e.kind=2∨e.kind=3∨e.kind=4∨e.kind=5∨e.kind=6∨e.kind=7∨e.kind=8∨e.kind=9) with q|q|q|q|q|q|q|q|q
   · have nt:oW e.kind=1:=by rw[q];decide
     have hb:=zI hv;rw[nt] at hb⊢;exact zj e hs _ 1 w hp (fun W=>by rw[q];exact Nf W) (nY 1) hv (by unfold gN;omega) (by unfold gN;omega)
   · have nt:oW e.kind=8:=by rw[q];decide
     have hb:=zI hv;rw[nt] at hb⊢;exact zj e hs _ 8 w hp (fun W=>by rw[q];exact Ng W) (oF 1) hv (by unfold gN;omega) (by unfold gN;omega)
   · have nt:oW e.kind=1:=by rw[q];decide
     have hb:=zI hv;rw[nt] at hb⊢;exact zj e hs _ 1 w hp (fun W=>by rw[q];exact Nh W) (nY 1) hv (by unfold gN;omega) (by unfold gN;omega)
   · have nt:oW e.kind=1:=by rw[q];decide
     have hb:=zI hv;rw[nt] at hb⊢;exact zj e hs _ 1 w hp (fun W=>by rw[q];exact Ni W) (nY 1) hv (by unfold gN;omega) (by unfold gN;omega)
   · have nt:oW e.kind=1:=by rw[q];decide
     have hb:=zI hv;rw[nt] at hb⊢;exact zj e hs _ 1 w hp (fun W=>by rw[q];exact Nj W) (nY 1) hv (by unfold gN;omega) (by unfold gN;omega)
   · have nt:oW e.kind=8:=by rw[q];decide
     have hb:=zI hv;rw[nt] at hb⊢;exact zj e hs _ 8 w hp (fun W=>by rw[q];exact Nk W) (oF 1) hv (by unfold gN;omega) (by unfold gN;omega)
   · have nt:oW e.kind=1:=by rw[q];decide
     have hb:=zI hv;rw[nt] at hb⊢;exact zj e hs _ 1 w hp (fun W=>by rw[q];exact Nl W) (nY 1) hv (by unfold gN;omega) (by unfold gN;omega)
   · have nt:oW e.kind=8:=by rw[q];decide
     have hb:=zI hv;rw[nt] at hb⊢;exact zj e hs _ 8 w hp (fun W=>by rw[q];exact Nn W) (oF 1) hv (by unfold gN;omega) (by unfold gN;omega)
   · have nt:oW e.kind=1:=by rw[q];decide
     have hb:=zI hv;rw[nt] at hb⊢;exact zj e hs _ 1 w hp (fun W=>by rw[q];exact Np W) (nY 1) hv (by unfold gN;omega) (by unfold gN;omega)
 · rw [if_neg hv]
   have HV:=hZ (fun W (h:Below w.heap.size w W)=>zK e hs W (hp.below h));rw[show bE e=false by simpa using hv] at HV;have IE:=hZ (di (e:=e));clear hs hp hv
   go_enter ads,aeA
   go_wp2_with (first
    | ((with_reducible refine ff rfl (.tmp 0) rfl e ?hx ?_);(case hx=>rfl);intro w1 aH aq aP
       have aF:=hZ aq;have cX:=hZ (bl (cs:=e.cells) aH)
       clear aH aq aP)
    |(with_reducible refine lm w.heap.size 0 cX.out IE.out bk ?_)
    | (go_at_call 20;(with_reducible refine(HV.out _ aF.out).mono ?_);rintro e2 w2 ⟨rfl,aA⟩
       have aG:=aw aF aA
       clear aA)
    |fail)
   go_ret;exact⟨rfl,aG.out⟩
def tP (g:Bool):Int:=if g then 1 else 0
theorem ajk (g:Bool) (w:ae):ax ah 126 #[.bool g] w fun e w'=>e=.returned (.int .i64 (tP g))∧w'=w:=by
 cases g<;>
 · go_enter Tryz.func126,Tryz.ntmps126
   go_wp2;go_ret;exact⟨rfl,rfl⟩
def po (e:af):mW→List UInt8
 |.num i _=>gg (e.num i)
 |.txt is=>pJ e is
def pA (e:af):List UInt8:=lE [e.kind,e.bR,e.day,tP e.gone]
def Qk (e:af):mW→Prop
 |.num i _=>gN (e.num i)
 |.txt is=>is.length≤10∧∀i∈is,(e.str i).size≤65536
theorem ajL (e:af):(pA e).length≤40:=S6 _
theorem ai1 (e:af) (qs:List mW) (h:∀q∈qs,Qk e q):(qs.flatMap (po e)).length≤655460*qs.length:=by
 induction qs with
 |nil=>simp
 | cons q qs ih=>
   have h2:=ih fun x hx=>h x (by simp[hx])
   have h1:(po e q).length≤655460:=by
    have hq:=h q (by simp)
    cases q with
    |num i l=>show(gg (e.num i)).length≤_;have:=ug (e.num i);omega
    |txt is=>have:=J4 e is hq.2;have:=hq.1;show(pJ e is).length≤_;omega
   rw[rN,eV,eF];omega
def xV (w:ae) (l:List UInt8) (e:Ending) (w':ae):Prop:=e=.returned (.tuple #[.string ⟨l.toArray⟩,.int .i64 0])∧Below w.heap.size w w'
theorem yC (e:af) (hs:e.Small) (d:AB) (qs:List mW) (w:ae) (hp:dY w) (hS:∀W,ax ah 62 #[.int .i64 e.kind] W (sq W d)) (hq:d.parts.length=qs.length) (oa:qs.length≤100) (Je:KU d.parts qs) (hv:bE e=true)
 (hk:gN e.kind∧gN e.bR∧gN e.day) (hw:∀q∈qs,Qk e q):
 ax ah 69 #[e.val] w (xV w (pA e++qs.flatMap (po e))):=by
 have HV:=hZ (fun W (h:Below w.heap.size w W)=>zK e hs W (hp.below h));rw[hv] at HV;have HS:=hZ hS;have IE:=hZ (di (e:=e));have OZ:=hZ Je;have HK:=hZ hk;have WV:=hZ hw;obtain⟨pl,qq⟩:=oQ (d.parts.length);obtain⟨rl,nA⟩:=oQ (d.rest.length);have sa:=hZ qq;have qR:Hid (qs.length=pl∧pl≤100):=hZ (by omega);have fG:=hZ nA;clear hs hp hS Je hv hk hw qq nA hq oa
 go_enter Tryz.func69,Tryz.ntmps69
 go_wp2_with (first
  | ((with_reducible refine ff rfl (.tmp 0) rfl e ?hx ?_);(case hx=>rfl);intro w1 aH aq aP
     have cW:=hZ aH;have aF:=hZ aq;have cX:=hZ (bl (cs:=e.cells) aH)
     clear aH aq aP)
  |(with_reducible refine lm w.heap.size 0 cX.out IE.out bk ?_)
  | (go_at_call 20;(with_reducible refine(HV.out _ aF.out).mono ?_);rintro e2 w2 ⟨rfl,aA⟩
     have cK:=hZ (cW.out.below aA);have aG:=aw aF aA;have x0:=cK.out.cell (i:=0) rfl
     clear aA)
  | (go_at_call 62;(with_reducible refine(HS.out _).mono ?_);rintro e3 w3 ⟨v,rfl,fc,aK⟩
     obtain⟨b1,R,cr,rfl,Bt,-⟩:=fc.open;rw[sa.out,fG.out];have jE:=hZ (cK.out.below aK);have a_:=aw aG aK;have Pp:=hZ Bt
     clear aK fc Bt)
  |fail)
 obtain⟨k1,k2,k3,k4⟩:=kV w3 #[.slice (some ⟨b1,0,none⟩) pl pl,.func (.func d.key) #[] #[],.int .i64 1,.int .i64 1000000,.nilFunc,.slice R rl cr] #[.pointer none,.slice none 0 0] 112 120;obtain⟨V,hV⟩:=oQ (((w3.alloc (.cells #[.slice (some ⟨b1,0,none⟩) pl pl,.func (.func d.key) #[] #[],.int .i64 1,.int .i64 1000000,.nilFunc,.slice R rl cr] 112)).alloc (.cells #[.pointer none,.slice none 0 0] 120)));rw[hV] at k1 k2 k3 k4;rw[hV];obtain⟨p3,rm⟩:=oQ (w3.heap.size);have nP:=hZ (jE.out.below k4);have cT:=aw a_ k4;have Pr:=ak k4 Pp;have aL:Hid (w.heap.size<p3∧b1<p3):=hZ ⟨by rw[←rm];exact bt jE.out,by rw[←rm];exact bt Pp.out⟩;rw[rm] at k1 k2 k3;rw[rm];obtain⟨bw,oO⟩:=oQ (p3+1);rw[oO] at k2;rw[oO];have hle:=a_.out.size;have JS:jG V w.heap.size bw []:=⟨_,_,by omega,.inl rfl,k2,U6 _ _ _ _,by simp[KG]⟩;have tE:=hZ k1;have HWT:=hZ JS;have gM:Hid (V.heap.size=bw+1∧p3+1=bw):=hZ ⟨by omega,oO⟩;have y0:=nP.out.cell (i:=0) rfl;have y2:=nP.out.cell (i:=2) rfl;have y3:=nP.out.cell (i:=3) rfl;have y4:=nP.out.cell (i:=4) rfl;clear hV k1 k2 k3 k4 rm oO JS hle jE a_ Pp cW aF cK aG cX HS HV;have bu:V.drew.cell? ⟨w.heap.size,0,none⟩=some (.int .i64 e.kind)∧V.drew.cell? ⟨w.heap.size,2,none⟩=some (.int .i64 e.bR)∧V.drew.cell? ⟨w.heap.size,3,none⟩=some (.int .i64 e.day)∧V.drew.cell? ⟨w.heap.size,4,none⟩=some (.bool e.gone):=⟨y0,y2,y3,y4⟩;have HY:=hZ bu;clear y0 y2 y3 y4 x0;refine cJ (fun U=>U.cell? ⟨w.heap.size,0,none⟩=some (.int .i64 e.kind)∧U.cell? ⟨w.heap.size,2,none⟩=some (.int .i64 e.bR)∧U.cell? ⟨w.heap.size,3,none⟩=some (.int .i64 e.day)∧U.cell? ⟨w.heap.size,4,none⟩=some (.bool e.gone)) bu fun hHeld=>?_
 refine bg 0 1 2 3 ?_;refine bg 4 5 6 7 ?_;refine rE 8 fun K hK=>?_;go_simp
 (with_reducible refine(ajk _ _).mono ?_)
 rintro e8 w8 ⟨rfl,rfl⟩;refine kk hK bu fun hHeld=>?_;clear hK K;refine rE 9 fun K hK=>?_;obtain⟨U,hU⟩:=oQ (V.drew);have BU:Below V.heap.size V U:=by rw[←hU];exact eR (bK _ _)
 rw[hU];go_simp;have hn:=bG U (.cells #[.int .i64 e.kind,.int .i64 e.bR,.int .i64 e.day,.int .i64 (tP e.gone)] 3);have k6:=BU.trans ((aY U (.cells #[.int .i64 e.kind,.int .i64 e.bR,.int .i64 e.day,.int .i64 (tP e.gone)] 3)).mono BU.size);obtain⟨V8,Q8⟩:=oQ (U.alloc (.cells #[.int .i64 e.kind,.int .i64 e.bR,.int .i64 e.day,.int .i64 (tP e.gone)] 3));rw[Q8] at hn k6;rw[Q8];obtain⟨q,hq⟩:=oQ (U.heap.size);rw[hq] at hn;rw[hq];have hus:q=V.heap.size:=by rw[←hq,←hU];rfl
 have tr:=hZ (nP.out.below k6);have Ho:=ak k6 Pr;have ahA:=ak k6 tE;have gj:=aw cT k6;have uL:=hZ (S5 bw w.heap.size [] [e.kind,e.bR,e.day,tP e.gone] (some ⟨q,0,none⟩) 4 4 rfl (by decide) (by decide) V8 (HWT.out.below k6) gj.out.size (fun i y hy=>by match i,hy with|0,hy=>cases hy;exact⟨_,rfl,bt hn,aJ hn rfl⟩|1,hy=>cases hy;exact⟨_,rfl,bt hn,aJ hn rfl⟩|2,hy=>cases hy;exact⟨_,rfl,bt hn,aJ hn rfl⟩|3,hy=>cases hy;exact⟨_,rfl,bt hn,aJ hn rfl⟩) (fun a ha=>by cases ha;exact⟨_,_,hn,by decide,by show q≠bw;have:=gM.out;omega⟩) (fun y hy=>by have hk:=HK.out;simp at hy;rcases hy with rfl|rfl|rfl|rfl;exact hk.1;exact hk.2.1;exact hk.2.2;unfold gN tP;split<;>decide));clear hn k6 Q8 hU hus hq BU;refine kk hK (⟨aR.cell (i:=0) tr.out rfl,aR.cell (i:=2) tr.out rfl,aR.cell (i:=3) tr.out rfl,aR.cell (i:=4) tr.out rfl⟩) fun hHeld=>?_;clear hK K;refine rE 10 fun K hK=>?_;go_simp
 (with_reducible refine uL.out.mono ?_)
 rintro e9 w9 ⟨rfl,hw9,cZ,wT⟩;have ar:=aL.out;have aU:=gM.out;have nQ:Hid (aR w9 w.heap.size e):=hZ (wT _ _ tr.out (fun e9=>by have:=mR e9;omega) (fun c fz e9=>by injection e9 with e1 e2 e3;exact absurd e2 (by decide)));have ahw:=hZ (wT _ _ Ho.out (fun e9=>by have:=mR e9;omega) (fun c fz e9=>by injection e9 with e1 e2 e3;exact absurd e2 (by decide)));have ahB:=hZ (wT _ _ ahA.out (fun e9=>by have:=mR e9;omega) (fun c fz e9=>by injection e9 with e1 e2 e3;exact absurd e2 (by decide)));have eK:=hZ (gj.out.trans cZ);have HW9:=hZ hw9;clear hw9 cZ wT ar aU;refine kk hK (⟨aR.cell (i:=0) nQ.out rfl,aR.cell (i:=2) nQ.out rfl,aR.cell (i:=3) nQ.out rfl,aR.cell (i:=4) nQ.out rfl⟩) fun hHeld=>?_;clear hK K;refine dn ?_;have q0:=aJ (i:=0) ahB.out rfl;go_wp2;have yo:Hid (jG w9 w.heap.size bw (pA e++([]:List mW).flatMap (po e))):=hZ (by simpa[pA] using HW9.out);clear q0 hHeld
 go_loopw [8,32] (fun _ v wr=> ∃i:Nat,v=.int .i64 (i:Int)∧i≤pl∧jG wr w.heap.size bw (pA e++(qs.take i).flatMap (po e))∧aR wr w.heap.size e∧wr.heap[b1]?=some (.cells (d.parts.flatMap gF.cells).toArray 109 (0,0))∧Below w.heap.size w wr) (fun _ v _=>match v with|.int _ k=>pl-k.toNat|_=>0)
 case atStart=>exact⟨0,rfl,ei _,yo.out,nQ.out,ahw.out,eK.out⟩
 case round=>
  obtain⟨i,rfl,hi,hW,hE,qh,hB⟩:=hrel;have eL:=hZ hW;have cK:=hZ hE;have tA:=hZ qh;have aG:=hZ hB;clear hW hE qh hB
  by_cases ar:i<pl
  · have d1:decide (i<pl)=true:=by simp[ar]
    (have z1:(0:Int)≤(i:Int):=by omega);(have z2:(i:Int)<(pl:Int):=by omega);(have w1:aQ.wrap ((i:Int)+1)=((i+1:Nat):Int):=by rw[aS];have:=qR.out.2;omega);obtain⟨p,hp⟩:∃p,d.parts[i]?=some p:=⟨_,bp (by rw[sa.out];exact ar)⟩;obtain⟨q,hq⟩:∃q,qs[i]?=some q:=⟨_,bp (by rw[qR.out.1];exact ar)⟩;have hf:=OZ.out i p q hp hq;have hwq:=WV.out q (List.mem_of_getElem? hq)
    have eP:pA e++(qs.take (i+1)).flatMap (po e)=pA e++((qs.take i).flatMap (po e)++po e q):=by
     rw[List.take_add_one,hq];simp
    have tz:Hid ((pA e++(qs.take i).flatMap (po e)).length≤100000000):=hZ (by
     rw[eV];have h1:=ajL e;have h2:=ai1 e (qs.take i) (fun q hq=>WV.out q (Oy hq));rw[gD] at h2;have:=qR.out
     omega)
    cases hf with
    | num enters calls ix=>
      rename_i g ci l
      have r0:wr.cell? ⟨b1,i*4,none⟩=some (.func (.func g) #[] #[]):=aJ tA.out (by have h:=pr _ i _ hp 0 (by omega);simpa[gF.cells] using h);have r1:wr.cell? ⟨b1,i*4+1,none⟩=some (.int .i64 l):=aJ tA.out (by have h:=pr _ i _ hp 1 (by omega);simpa[gF.cells] using h);have r2:wr.cell? ⟨b1,i*4+2,none⟩=some (.int .i64 1000000):=aJ tA.out (by have h:=pr _ i _ hp 2 (by omega);simpa[gF.cells] using h);have r3:wr.cell? ⟨b1,i*4+3,none⟩=some (.nilFunc):=aJ tA.out (by have h:=pr _ i _ hp 3 (by omega);simpa[gF.cells] using h);have kk:=aY wr (.cells #[.func (.func g) #[] #[],.int .i64 l,.int .i64 1000000,.nilFunc] 109);have Hp:=hZ (abA bw w.heap.size _ tz.out g ci l e (.num enters calls ix) (wr.alloc (.cells #[.func (.func g) #[] #[],.int .i64 l,.int .i64 1000000,.nilFunc] 109)) (eL.out.below kk) (aV aG.out.size kk.size) hwq);have wu:=hZ (cK.out.below kk);have EE:=ak kk tA;have jD:=aw aG kk;have EG:=hZ (bl (cs:=e.cells) wu.out);have Dt:po e (.num ci l)=gg (e.num ci):=rfl;rw[Dt] at eP;have HT:=hZ eP;clear kk eP Dt
      go_wp2_with (first
       |(with_reducible refine lm w.heap.size 0 EG.out IE.out bk ?_)
       | (go_at_call 64;(with_reducible refine Hp.out.mono ?_);rintro e5 w5 ⟨rfl,BA,cn,yQ⟩
          have ar:=aL.out;have aU:=gM.out;have tr:Hid (aR w5 w.heap.size e):=hZ (yQ _ _ wu.out (fun e9=>by have:=mR e9;omega) (fun c fz e9=>by injection e9 with e1 e2 e3;exact absurd e2 (by decide)));have Ho:=hZ (yQ _ _ EE.out (fun e9=>by have:=mR e9;omega) (fun c fz e9=>by injection e9 with e1 e2 e3;exact absurd e2 (by decide)));have gj:=hZ (jD.out.trans cn);have EK:=hZ BA
          clear BA cn yQ ar aU)
       |fail)
      go_round
      case rel=>exact⟨i+1,rfl,by omega,by rw[HT.out,←Ek];exact EK.out,tr.out,Ho.out,gj.out⟩
      case measure=>simp;omega
    | txt enters calls ix len=>
      rename_i g is
      have r0:wr.cell? ⟨b1,i*4,none⟩=some (.nilFunc):=aJ tA.out (by have h:=pr _ i _ hp 0 (by omega);simpa[gF.cells] using h);have r1:wr.cell? ⟨b1,i*4+1,none⟩=some (.int .i64 0):=aJ tA.out (by have h:=pr _ i _ hp 1 (by omega);simpa[gF.cells] using h);have r2:wr.cell? ⟨b1,i*4+2,none⟩=some (.int .i64 0):=aJ tA.out (by have h:=pr _ i _ hp 2 (by omega);simpa[gF.cells] using h);have r3:wr.cell? ⟨b1,i*4+3,none⟩=some (.func (.func g) #[] #[]):=aJ tA.out (by have h:=pr _ i _ hp 3 (by omega);simpa[gF.cells] using h);have kk:=aY wr (.cells #[.nilFunc,.int .i64 0,.int .i64 0,.func (.func g) #[] #[]] 109);have Hp:=hZ (al2 bw w.heap.size _ tz.out g is e (.txt enters calls ix len) (wr.alloc (.cells #[.nilFunc,.int .i64 0,.int .i64 0,.func (.func g) #[] #[]] 109)) (eL.out.below kk) (aV aG.out.size kk.size) hwq.2);have wu:=hZ (cK.out.below kk);have EE:=ak kk tA;have jD:=aw aG kk;have EG:=hZ (bl (cs:=e.cells) wu.out);have Dt:po e (.txt is)=pJ e is:=rfl;rw[Dt] at eP;have HT:=hZ eP;clear kk eP Dt
      go_wp2_with (first
       |(with_reducible refine lm w.heap.size 0 EG.out IE.out bk ?_)
       | (go_at_call 64;(with_reducible refine Hp.out.mono ?_);rintro e5 w5 ⟨rfl,BA,cn,yQ⟩
          have ar:=aL.out;have aU:=gM.out;have tr:Hid (aR w5 w.heap.size e):=hZ (yQ _ _ wu.out (fun e9=>by have:=mR e9;omega) (fun c fz e9=>by injection e9 with e1 e2 e3;exact absurd e2 (by decide)));have Ho:=hZ (yQ _ _ EE.out (fun e9=>by have:=mR e9;omega) (fun c fz e9=>by injection e9 with e1 e2 e3;exact absurd e2 (by decide)));have gj:=hZ (jD.out.trans cn);have EK:=hZ BA
          clear BA cn yQ ar aU)
       |fail)
      go_round
      case rel=>exact⟨i+1,rfl,by omega,by rw[HT.out,←Ek];exact EK.out,tr.out,Ho.out,gj.out⟩
      case measure=>simp;omega
  · have d1:decide (i<pl)=false:=by simp;omega
    have eP:qs.take i=qs:=eE (by rw[qR.out.1];omega);rw[eP] at eL;(have bf:pA e++qs.flatMap (po e)≠[]:=by unfold pA lE;simp[abF]);have PI:=hZ (acQ eL.out bf);clear eP bf
    go_wp2_with (first
     |(go_at_call 65;(with_reducible refine PI.out.mono ?_);rintro e6 w6 ⟨rfl,eB,hk6⟩)
     |fail)
    have tS:xV w (pA e++qs.flatMap (po e)) (.returned (.tuple #[.string ⟨(pA e++qs.flatMap (po e)).toArray⟩,.int .i64 0])) w6:=⟨rfl,aG.out.trans eB⟩
    go_ret2
    exact tS
end Go.Proofs.YteeifhlhpiimoaaGreatDoor
end
