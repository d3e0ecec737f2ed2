/-
  The contract of package integer's division of absolute values, walked; the like for what stands beside it. Conditions: the divisor is not 0; numbers of at most 900 groups.
-/
import Derived.Test.YteeifhlhpiimoaaGreatDoorXAa
import Derived.Test.YteeifhlhpiimoaaGreatDoorXAb
import Derived.Laws.EntriesVeiled
import Derived.Shelf.Strings.Builder1
import Derived.Shelf.Strings.Builder2
import Derived.Shelf.Strings.Trim
import Derived.Shelf.Small.Utf8
import Derived.Shelf.Small.Bits
import Derived.Shelf.Small.Strs
import Derived.Shelf.Strings.BuilderF
import Derived.Shelf.Strings.BuilderK
import Derived.Shelf.Strconv.Atoi
import Derived.Shelf.Strconv.Itoa0
import Derived.Shelf.Strconv.Itoa1
import Derived.Shelf.LaysM
import Derived.Shelf.Strconv.Itoa2
import Derived.Shelf.Strconv.Itoa3
import Derived.Shelf.Strings.Search1
import Derived.Shelf.Sort.Plain
import Derived.Shelf.Strings.Prefix
import Derived.Shelf.Strings.Runes
import Derived.Shelf.Strings.AsciiSet
import Derived.Shelf.Bits.Mul64
import Derived.Shelf.Strings.Repeat
import Derived.Shelf.Unicode.DecodeSlow
import Derived.Ground.Names2Prog
import Derived.Shelf.Slices.CompactI
import Derived.Shelf.Slices.In.SortNone
import Derived.Test.YteeifhlhpiimoaaGreatDoorProg
import Derived.Shelf.Strings.SlTrimAscii
set_option maxHeartbeats 8000000
set_option maxRecDepth 100000
open Bool renaming and_eq_true→sU,or_eq_true→Gr
open Go renaming Boxed→cG,Calls→ax,Value→ai,World→ae,madeCells→Aa,wpAnyH_done→Vc
open Go.Lib renaming IsBuilderF→ac2,byteCells→pL,compact→kY,hasPrefix→B7,trimPrefix→Ul,trimS→Um
open Go.Proofs.Lays renaming n101→apz,n105→apA,n160→apB,n169→apC,n172→apD,n189→apE,n99→apF
open Go.Proofs.Tryz renaming func165→Kv,func168→adr,func229→Uz,func242→Kw,func253→adJ,func267→adM,func283→adO,func296→adP,func297→adQ,func298→adR,func299→adS,func307→adU,func308→adV,func309→adW,func310→adX,func317→adY,func318→adZ,func65→ad3,isAgg0→zQ,isAgg115→aea,isAgg116→N5,isAgg118→aeb,isAgg163→D_,isAgg170→aed,isAgg171→aee,isAgg174→UE,isAgg2→aei,isAgg20→UF,isAgg201→Gt,isAgg203→Gu,isAgg21→aej,isAgg23→aek,isAgg230→ael,isAgg3→rM,isAgg309→aep,isAgg311→aeq,isAgg320→aer,isAgg321→aes,isAgg332→aet,isAgg333→aeu,isAgg4→ur,isAgg5→zR,isAgg9→xE,ntmps242→KC,prog→ah,sizeOf0→zS,sizeOf115→aeW,sizeOf116→N',sizeOf118→aeX,sizeOf163→Eb,sizeOf170→aeZ,sizeOf171→ae0,sizeOf174→UR,sizeOf2→ae4,sizeOf20→US,sizeOf201→Gv,sizeOf203→Gw,sizeOf21→ae5,sizeOf23→ae6,sizeOf3→vR,sizeOf309→afa,sizeOf311→afb,sizeOf320→afc,sizeOf321→afd,sizeOf332→afe,sizeOf333→aff,sizeOf4→xG,sizeOf5→zT,sizeOf9→xH,underlying0→zU,underlying115→KD,underlying116→uu,underlying118→afh,underlying163→Ec,underlying170→afj,underlying171→afk,underlying174→UT,underlying2→afp,underlying20→UU,underlying201→Gx,underlying203→Gy,underlying21→afq,underlying23→afr,underlying3→nL,underlying309→afx,underlying311→afy,underlying320→afz,underlying321→afA,underlying332→afB,underlying333→afC,underlying4→xJ,underlying5→zV,underlying9→qE,zeroValue0→zW,zeroValue115→afG,zeroValue116→Ob,zeroValue118→afH,zeroValue163→Ed,zeroValue170→afJ,zeroValue171→afK,zeroValue174→UW,zeroValue2→afO,zeroValue20→UX,zeroValue201→Gz,zeroValue203→GA,zeroValue21→afP,zeroValue23→afQ,zeroValue3→vT,zeroValue309→afU,zeroValue311→afV,zeroValue320→afW,zeroValue332→afX,zeroValue333→afY,zeroValue4→xK,zeroValue5→zX,zeroValue9→xL
open Go.RowKit.Below renaming drew→eR,heap_setCell→fA,refl→bK
open Go.Shelf renaming Ren→zY
open Go.World renaming cell?_setCell_other→zZ,setCell→uw,size_alloc→gI
open List renaming all_eq_true→Ej,head?_cons→Ou,length_append→eV,length_cons→eF,length_eq_zero_iff→rO,length_nil→pQ,length_pos_iff→Ov,length_take→gD,mem_append→pR,mem_singleton→fQ,replicate→jY
open Nat renaming add_mul→En,add_zero→Ce,div_add_mod→OA,eq_zero_or_pos→fL,le_of_lt→uz,le_refl→aB,lt_of_lt_of_le→iX,lt_or_ge→fB,mul_assoc→Cg,mul_comm→nN,mul_le_mul_right→GU,pow_pos→OD,pow_succ→mQ,strongRecOn→vX,zero_add→uA,zero_mul→OE
open UInt8 renaming ofNat→ml,toNat_inj→Ci,toNat_ofNat'→aha
section
namespace Go.Proofs.YteeifhlhpiimoaaGreatDoor
open Go Go.RowKit Go.Shelf
attribute [local go_sem] Oper.semAt_some
def ahK (w:ae) (q r:Nat) (e:Ending) (w':ae):Prop:=∃vq vr,e=.returned (.tuple #[vq,vr])∧aX w' vq (aD q)∧aX w' vr (aD r)∧Below w.heap.size w w'
theorem alv (n:Nat) (hn:n≤1000000) (w:ae):(Instr.makeSlice 230 (.int .i64 (n:Int)) (.int .i64 (n:Int))).run ah w=.ok (.slice (some ⟨w.heap.size,0,none⟩) n n) (w.alloc (.cells (Aa #[.int .i64 0] n) 3)):=
 run_make_row' (P:=ah) 230 3 (.int .i64 0) 8 Tryz.underlying230 (by kernel_rfl) rfl .i64 .i64 n (by omega) (by omega) w
theorem SN (n:Nat):(Aa #[.int .i64 0] n).toList=(jY n (0:Nat)).map nv:=by
 refine List.ext_getElem (by simp[Aa]) fun i h1 h2=>?_;simp[Aa,nv,Nat.mod_one]
theorem dJ.XA {w:ae} {B:Nat} {A:Option Addr} {l:List Nat} (h:dJ w B A nv l) {w':ae} (hb:Below B w w'):∀j x,(l.flatMap (one nv))[j]?=some x→∃a,A=some a∧w'.cell? (a.add j)=some x:=by
 intro j x hx;rw[wJ,List.getElem?_map] at hx;obtain⟨y,hy,rfl⟩:=Option.map_eq_some_iff.1 hx;obtain⟨a,e,hl,hc⟩:=h.below hb j y hy;exact⟨a,e,hc⟩
theorem OL.SK {B:Nat} (W:ae) (y:Nat) (hB:B≤W.heap.size):OL (W.alloc (.cells #[.int .i64 (y:Int)] 3)) B 3 1 (one nv) (.slice (some ⟨W.heap.size,0,none⟩) 1 1) [y]:=
 ⟨rfl,.inr ⟨W.heap.size,1,_,rfl,hB,World.alloc_heap_new W _,aB _,by unfold maxLen;omega,rfl,rfl⟩⟩
theorem aX.set {w:ae} {v:ai} {l:List Nat} (h:aX w v l) {B:Nat} (hf:gK B v) (p:Addr) (hp:p.block<B) (u:ai):aX (w.setCell p u) v l:=by
 obtain⟨A,c,rfl,h1,h2,h3,h4⟩:=h;refine⟨A,c,rfl,h1,h2,h3,fun i x hx=>?_⟩;obtain⟨a,rfl,hl,hc⟩:=h4 i x hx;have hb:=hf a _ _ rfl;refine⟨a,rfl,by simpa[uw] using hl,?_⟩;rw[zZ _ _ _ _ (fun e=>?_)]
 · exact hc
 · have:(a.add i).block=p.block:=by rw[e]
   rw[lr] at this;omega
structure EO (w:ae) (b3 b4 b5 g n:Nat) (vm vr:ai) (ql:List Nat) (R:Nat) (W:ae):Prop where
 bm:cG W b3 230 vm
 bq:cG W b4 230 (.slice (some ⟨g,0,none⟩) n n)
 br:cG W b5 230 vr
 row:ew W g nv ql
 rd:aX W vr (aD R)
 fr:gK (g+4) vr
 below:Below w.heap.size w W
theorem aX.turns {U V:ae} {v:ai} {l:List Nat} {Z:Nat→Prop} {B:Nat} (h:aX U v l) (t:aO Z U V) (hf:gK B v) (hz:∀k,Z k→k<B):aX V v l:=by
 obtain⟨A,c,rfl,h1,h2,h3,h4⟩:=h;refine⟨A,c,rfl,h1,h2,h3,fun i x hx=>?_⟩;obtain⟨a,rfl,hl,hc⟩:=h4 i x hx;have hb:=hf a _ _ rfl;refine⟨a,rfl,iX hl t.size,?_⟩;rw[t.cell (by rw[lr];exact hl) (fun e=>by rw[lr] at e;have:=hz _ e;omega)];exact hc
theorem ew.turns {W W':ae} {g:Nat} {α:Type} {f:α→ai} {l:List α} {Z:Nat→Prop} (h:ew W g f l) (t:aO Z W W') (hz:¬Z g):ew W' g f l:=
 ⟨iX h.lt t.size,fun i x hx=>(t.cell (p:=⟨g,i,none⟩) h.lt hz).trans (h.cell i x hx),fun i hi=>(t.frozen (p:=⟨g,i,none⟩) h.lt hz).trans (h.free i hi)⟩
theorem EO.turns {w U V:ae} {b3 b4 b5 g n:Nat} {vm vr:ai} {ql:List Nat} {R:Nat} {Z:Nat→Prop} (h:EO w b3 b4 b5 g n vm vr ql R U) (t:aO Z U V) (hz:∀k,Z k→g+2≤k∧k<g+4) (hb:b3≤g∧b4≤g∧b5≤g∧w.heap.size≤g):EO w b3 b4 b5 g n vm vr ql R V:=
 ⟨t.boxed h.bm (fun e=>by have:=hz _ e;omega),t.boxed h.bq (fun e=>by have:=hz _ e;omega),t.boxed h.br (fun e=>by have:=hz _ e;omega),h.row.turns t (fun e=>by have:=hz _ e;omega),
   h.rd.turns t h.fr (fun k e=>(hz k e).2),h.fr,t.below h.below (aB _) (fun k e=>by have:=hz _ e;omega)⟩
theorem KeepsFrom.rB {B:Nat} {W W':ae} {Z:Nat→Prop} (t:aO Z W W') (hz:∀k,Z k→k<B):KeepsFrom B W W':=
 ⟨t.size,fun j _ hj ZE _=>(t.block j (Array.getElem?_eq_some_iff.1 ZE).1 (fun e=>by have:=hz _ e;omega)).trans ZE⟩
theorem lP.rB {b1:Nat} {A:Option Addr} {U V:ae} {Z:Nat→Prop} (t:aO Z U V) (hb:b1<U.heap.size∧¬Z b1) (hA:∀a,A=some a→a.block<U.heap.size∧¬Z a.block):lP b1 A U V:=
 ⟨t.block _ hb.1 hb.2,fun a ha=>t.block _ (hA a ha).1 (hA a ha).2⟩
theorem amJ {P:Program} {fn:Func} {p q:Tmp} {ty Gf:TypeId} {a b:Addr} {v u:ai} (h:fn.results=#[.cell p ty,.cell q Gf]) (tmps:Array ai) (w:ae) (hp:tmps.getD p undef=.pointer (some a)) (hq:tmps.getD q undef=.pointer (some b))
 (ha:∀w,(isAgg ty).run P w=.ok false w) (hb:∀w,(isAgg Gf).run P w=.ok false w) (hc:w.cell? a=some v) (hd:w.cell? b=some u):(results fn tmps).run P w=.ok (.tuple #[v,u]) w:=by
 have ij:tmps[p]?.getD undef=.pointer (some a):=by simpa using hp
 have vu:tmps[q]?.getD undef=.pointer (some b):=by simpa using hq
 simp[results,h,ij,vu,asAddr,loadVar,ha,hb,hc,hd,go_sem]
theorem aX.putObj {W:ae} {v:ai} {l:List Nat} (h:aX W v l) {k:Nat} {x:Option (List Deferred)} (hk:W.heap[k]?=some (.deferred x)) (o:Obj):aX (W.putObj k o) v l:=by
 obtain⟨A,c,rfl,h1,h2,h3,h4⟩:=h;refine⟨A,c,rfl,h1,h2,h3,fun i y hy=>?_⟩;obtain⟨a,rfl,hl,hc⟩:=h4 i y hy
 have bf:(a.add i).block≠k:=fun e=>by
  unfold World.cell? at hc;rw[e,hk] at hc;cases hc
 refine⟨a,rfl,by simpa using hl,?_⟩;rw[←hc];exact World.cell?_of_block (World.putObj_heap_other bf)
theorem alX {w W:ae} {b3 b4 b5 g n D:Nat} {vm vr v9:ai} {ql l9:List Nat} {R:Nat} (HI:EO w b3 b4 b5 g n vm vr ql R W) (hb:b4<g∧b5<g∧b4≠b5∧w.heap.size≤b4∧w.heap.size≤b5∧w.heap.size≤D) (h9:aX W.drew v9 l9) (hf:gK g v9) (hK:W.heap[D]?=some (.deferred (some []))) (V:ae)
 (hV:V=(W.drew.setCell ⟨b4,0,none⟩ v9).setCell ⟨b5,0,none⟩ vr∨V=(W.drew.setCell ⟨b5,0,none⟩ vr).setCell ⟨b4,0,none⟩ v9):
 V.heap[D]?=some (.deferred (some []))∧(V.putObj D (.deferred none)).cell? ⟨b4,0,none⟩=some v9∧(V.putObj D (.deferred none)).cell? ⟨b5,0,none⟩=some vr∧aX (V.putObj D (.deferred none)) v9 l9∧aX (V.putObj D (.deferred none)) vr (aD R)∧Below w.heap.size w (V.putObj D (.deferred none)):=by
 obtain⟨h1,h2,h3,h4,h5,h6⟩:=hb;have d4:b4≠D:=fun e=>by have:=HI.bq;rw[e] at this;rw[cG,hK] at this;cases this
 have d5:b5≠D:=fun e=>by have:=HI.br;rw[e] at this;rw[cG,hK] at this;cases this
 have oP:gK g vr:=HI.fr.base (by omega);have x4:cG W.drew b4 230 (.slice (some ⟨g,0,none⟩) n n):=HI.bq;have x5:cG W.drew b5 230 vr:=HI.br;have YW:Below w.heap.size w W.drew:=eR HI.below
 have key:V.heap[D]?=some (.deferred (some []))∧cG V b4 230 v9∧cG V b5 230 vr∧aX V v9 l9∧aX V vr (aD R)∧Below w.heap.size w V:=by
  rcases hV with rfl|rfl
  · refine⟨?_,(x4.set v9).other h3 vr,?_,(h9.set hf ⟨b4,0,none⟩ h1 v9).set hf ⟨b5,0,none⟩ h2 vr,((HI.rd).set (w:=W.drew) oP ⟨b4,0,none⟩ h1 v9).set oP ⟨b5,0,none⟩ h2 vr,(YW.setCell h4 v9).setCell h5 vr⟩
    · exact(fA _ _ _ _ (fun e=>d5 e.symm)).trans ((fA _ _ _ _ (fun e=>d4 e.symm)).trans hK)
    · exact(x5.other h3.symm v9).set vr
  · refine⟨?_,(x4.other h3 vr).set v9,(x5.set vr).other h3.symm v9,(h9.set hf ⟨b5,0,none⟩ h2 vr).set hf ⟨b4,0,none⟩ h1 v9,((HI.rd).set (w:=W.drew) oP ⟨b5,0,none⟩ h2 vr).set oP ⟨b4,0,none⟩ h1 v9,(YW.setCell h5 vr).setCell h4 v9⟩
    exact(fA _ _ _ _ (fun e=>d4 e.symm)).trans ((fA _ _ _ _ (fun e=>d5 e.symm)).trans hK)
 obtain⟨k1,k2,k3,k4,k5,k6⟩:=key;have t:=aO.putObj (Z:=fun k=>k=D) V D (.deferred none) rfl;exact⟨k1,(t.boxed k2 d4).cell,(t.boxed k3 d5).cell,k4.putObj k1 _,k5.putObj k1 _,t.below k6 (aB _) (fun k e=>by omega)⟩
theorem MZ (X M:Nat) (hM:0<M) (v1 v2:ai) (w:ae) (h1:aX w v1 (aD X)) (h2:aX w v2 (aD M)) (hlX:(aD X).length≤900) (ZH:(aD M).length≤900):
 ax ah 204 #[v1,v2] w (ahK w (X/M) (X%M)):=by
 obtain⟨A,c,rfl,fX,eo,fh,hA⟩:=h1;obtain⟨n,hn⟩:=oQ ((aD X).length);rw[hn] at hlX;rw[hn];have HA:=hZ hA;have HN:=hZ hn;have H2:=hZ h2;have wW:=alv n (by omega);obtain⟨C,hC⟩:=oQ (Aa #[.int .i64 0] n);rw[hC] at wW;have HC:=hZ (show C.toList=(jY n (0:Nat)).map nv by rw[←hC];exact SN n);obtain⟨Bm,dm,rfl,-⟩:=h2;obtain⟨km,dR⟩:=oQ ((aD M).length);rw[dR] at H2;rw[dR];obtain⟨vm,hvm⟩:=oQ (Value.slice Bm km dm);have H9:=hZ hvm;clear hA hn hC dR hvm;refine(callsIn_wide (n:=3)).1 ?_;refine callsIn_of_wp_marks Tryz.func204 rfl trivial ?_ rfl;simp only[Tryz.ntmps204,List.size_toArray,eF,pQ,Nat.reduceAdd,Nat.reduceSub,Array.replicate_succ,Array.replicate_zero,List.push_toArray,List.append_toArray,List.nil_append,List.cons_append];refine wpIn_wide.2 ?_
 go_wp2_with (first
  |(go_at_call 244;refine(Qo _ _ _ _).mono ?_;rintro e w5 ⟨rfl,rfl⟩)
  |fail)
 rw[H9.out] at H2⊢;obtain⟨b3,aK⟩:=oQ (w.heap.size);rw[aK];obtain⟨b4,cQ⟩:=oQ (b3+1);rw[cQ];obtain⟨b5,cn⟩:=oQ (b4+1);rw[cn];obtain⟨g,hg⟩:=oQ (b5+1);rw[hg];obtain⟨b1,aq⟩:=oQ (g+1);rw[aq];obtain⟨l,hl⟩:=oQ (aD X);obtain⟨W1,b_⟩:=oQ (((((w.alloc (.cells #[vm] 230)).alloc (.cells #[.slice (some ⟨g,0,none⟩) n n] 230)).alloc (.cells #[.slice none 0 0] 230)).alloc (.cells C 3)).alloc (.cells #[.slice A n c] 230));have qn:l.length=n:=by rw[←hl];exact HN.out
 have wM:EO w b3 b4 b5 g n vm (.slice none 0 0) (nE l M []).1 (nE l M []).2 W1∧cG W1 b1 230 (.slice A n c)∧W1.heap.size=b1+1:=by
  have s1:(w.alloc (.cells #[vm] 230)).heap.size=b4:=by rw[gI,aK,cQ]
  obtain⟨u1,ob⟩:=oQ (w.alloc (.cells #[vm] 230));have y1:cG u1 b3 230 vm:=by rw[←ob,←aK];exact Boxed.new w _ _
  have c1:Below w.heap.size w u1:=by rw[←ob];exact pj _ _ _
  rw[ob] at s1 b_;obtain⟨u2,nB⟩:=oQ (u1.alloc (.cells #[.slice (some ⟨g,0,none⟩) n n] 230));have s2:u2.heap.size=b5:=by rw[←nB,gI,s1,cn]
  have y2:cG u2 b4 230 (.slice (some ⟨g,0,none⟩) n n):=by rw[←nB,←s1];exact Boxed.new u1 _ _
  have c2:Below u1.heap.size u1 u2:=by rw[←nB];exact pj _ _ _
  rw[nB] at b_;obtain⟨u3,lC⟩:=oQ (u2.alloc (.cells #[.slice none 0 0] 230));have s3:u3.heap.size=g:=by rw[←lC,gI,s2,hg]
  have y3:cG u3 b5 230 (.slice none 0 0):=by rw[←lC,←s2];exact Boxed.new u2 _ _
  have c3:Below u2.heap.size u2 u3:=by rw[←lC];exact pj _ _ _
  rw[lC] at b_;obtain⟨u4,rq⟩:=oQ (u3.alloc (.cells C 3));have s4:u4.heap.size=b1:=by rw[←rq,gI,s3,aq]
  have y4:ew u4 g nv (jY n 0):=by rw[←rq,←s3];exact ew.Qm u3 C 3 HC.out
  have c4:Below u3.heap.size u3 u4:=by rw[←rq];exact(bK _ _).alloc (aB _) _
  rw[rq] at b_;have s5:W1.heap.size=b1+1:=by rw[←b_,gI,s4]
  have y5:cG W1 b1 230 (.slice A n c):=by rw[←b_,←s4];exact Boxed.new u4 _ _
  have c5:Below u4.heap.size u4 W1:=by rw[←b_];exact pj _ _ _
  refine⟨⟨?_,?_,?_,?_,?_,gK.nil _,?_⟩,y5,s5⟩
  · exact(c5.block b3 (by omega)).trans ((c4.block b3 (by omega)).trans ((c3.block b3 (by omega)).trans ((c2.block b3 (by omega)).trans y1)))
  · exact(c5.block b4 (by omega)).trans ((c4.block b4 (by omega)).trans ((c3.block b4 (by omega)).trans y2))
  · exact(c5.block b5 (by omega)).trans ((c4.block b5 (by omega)).trans y3)
  · have:=y4.below c5 (by omega)
    show ew W1 g nv (jY l.length 0);rw[qn];exact this
  · show aX W1 (.slice none 0 0) (aD 0)
    rw[oY];exact aX.nil W1
  · exact(((c1.trans (c2.mono (by omega))).trans (c3.mono (by omega))).trans (c4.mono (by omega))).trans (c5.mono (by omega))
 have o_:=hZ wM.1;have x4:=wM.2.1;have aP:=wM.2.2;obtain⟨A0,mB,qe⟩:=HA.out.addr;rw[HN.out] at mB;have rR:=hZ ((HA.out.below o_.out.below).more o_.out.below.size);have yP:mr l:=by rw[←hl];exact rA X
 rw[hl] at rR;have Ct:=hZ yP;have HL:=hZ hl;have Hb:=hZ qn;have cy:Hid (w.heap.size=b3∧b3+1=b4∧b4+1=b5∧b5+1=g∧g+1=b1):=hZ ⟨aK,cQ,cn,hg,aq⟩;rw[b_];clear b_ wM yP hl qn wW;refine(wpIn_wide (n:=3)).1 ?_
 refine TV (gf:=265) (lb:=#[.pointer (some ⟨b1,0,none⟩)]) rfl (enters_of Tryz.func265 (by kernel_rfl) rfl)
  (Qp A A0 l n Hb.out mB c b1 (by omega) W1 x4 rR.out) (bK _ _) (fun k hk=>hk.elim) (fun _=>rfl) (fun h k=>h.trans k)
  (fun W o=>lP.put (n:=b1+1) (by omega) (fun q hq=>by have:=qe q hq;omega) (by omega) W o)
  (fun pre W=> ∃vr,EO w b3 b4 b5 g n vm vr (nE l M pre).1 (nE l M pre).2 W)
  (fun _ _ _=>False)
  (fun s U V h t=>by
    obtain⟨vr,h⟩:=h
    exact⟨vr,h.turns t (fun k e=>by rcases e with e|e|e;exact(e:False).elim;all_goals (have:=aP;omega)) ⟨by omega,by omega,by omega,by omega⟩⟩)
  (fun _ _ _ _ h _=>h.elim)
  ⟨_,o_.out⟩ ?a1 ?assign ?body ?done ?stop
 case assign=>
  intro l x W K hK
  dsimp only[tM]
  gi_wp2
  exact hK
 case body=>
  rintro l0 pre x W hW ⟨vr,hI⟩ pB;have oc:x.val<n:=by have:=x.isLt;have:=Hb.out;omega
  have hR:=(SX hM pre).1;have hq:=(SX hM pre).2;obtain⟨ql,oa⟩:=oQ ((nE l M pre).1);obtain⟨R,IQ⟩:=oQ ((nE l M pre).2);have tZ:=SY l M pre x;rw[oa] at hq hI tZ;rw[IQ] at hR hI tZ;obtain⟨d,hd⟩:=oQ (l.getD x.val 0);have lZ:=pw Ct.out x.val;rw[←ra x.isLt];rw[hd] at lZ tZ⊢;have pW:=hZ tZ;obtain⟨xi,xd⟩:=oQ (x.val);rw[xd] at oc pW⊢;have HXI:=hZ xd;have Wd:=hZ hR;have HI:=hZ hI;have qR:=hZ hq;have cr:=hI.br.cell;have fr:=hI.br.frozen;obtain⟨Ar,AK,JR,q1,q2,q3,q4⟩:=hI.rd;obtain⟨kr,yU⟩:=oQ ((aD R).length);rw[yU] at JR;have apZ:kr≤900:=by rw[←yU];have:=zm (uz hR);omega
  subst JR;have EF:=hZ q4;have EA:=hZ yU;have Wx:=hZ q3;have wP:=hI.below.size;have WL:=hZ (And.intro aP hW);have OM:=hZ qe;clear oa IQ tZ hd xd hI hR hq q1 q2 q3 q4 yU mB qe rR o_ x4 HC HA aK cQ cn hg aq;have cr2:(W.alloc (.cells #[.int .i64 (d:Int)] 3)).cell? ⟨b5,0,none⟩=some (.slice Ar kr AK):=((HI.out.br).alloc _).cell
  gi_wp2_with (first
   |(gi_at_builtin;refine ao3 rfl (.tmp 18) (.tmp 19) 230 rfl Iy (fun _=>rfl) _ [d] rfl (OL.SK W d (aB _)) Ar (aD R) kr AK EA.out rfl Wx.out (EF.out.XA (pj _ _ _)) (fun x _ u hu=>by simp[one,nv] at hu;subst hu;rfl) (by simp;unfold maxLen;omega) (by simp;omega) (by simp) ?_;intro v' w' ho n0 nk)
   |fail)
  have px:∀b,b<W.heap.size→w'.heap[b]?=W.heap[b]?:=fun b hb=>(nk.block b hb).trans ((pj W (.int .i64 (d:Int)) 3).block b hb);have oO:Below W.heap.size W w':=(pj W (.int .i64 (d:Int)) 3).trans nk;have hle:b5<W.heap.size∧g+4≤W.heap.size:=by have:=cy.out;omega
  obtain⟨A5,c5,ry,r1,r2,r3,r4⟩:=aX.iW ho;have Be:=ho.fresh;have RQ:([d]++aD R).length=kr+1:=by simp[EA.out]
  rw[RQ] at ry;subst ry;have LL:cG w' b5 230 (.slice Ar kr AK):=(px b5 hle.1).trans HI.out.br;have Xt:cG w' b3 230 vm:=(px b3 (by have:=cy.out;omega)).trans HI.out.bm;have oC:=hZ (D0 A5 c5 ([d]++aD R) (kr+1) RQ (by omega) r2 r3 w' r4 (by omega));have aan:gY ([d]++aD R)=aD (d+10000*R):=aol lZ;rw[aan] at oC;have fi:=hZ oO;have lK:=hZ Be;have jR:=hZ hle;have f5:=LL.frozen;have c5':=LL.cell;have cT:=hZ LL;have bf:b3≠b5:=by have:=cy.out;omega
  have c3:∀v,(w'.setCell ⟨b5,0,none⟩ v).cell? ⟨b3,0,none⟩=some vm:=fun v=>(zZ _ _ _ _ (fun e=>bf (by cases e;rfl))).trans Xt.cell;have VM:=hZ px;clear ho n0 nk px oO hle Be r1 r2 r3 r4 RQ aan LL Xt cr cr2 fr bf;refine⟨trivial,CallsIn.mono (F:=Fence.wide) (n:=0) (callsIn_wide.2 oC.out) ?_⟩;rintro e w6 ⟨⟨v2,rfl,gd,Zr⟩,rfl⟩;have VV:=hZ (Zr _ lK.out);have cI:=hZ gd;obtain⟨A2,k2,aau,-⟩:=gd;obtain⟨n2,cN⟩:=oQ ((aD (d+10000*R)).length);rw[cN] at aau;subst aau;have iz:=hZ cN;have c3':=c3 (.slice A2 n2 k2);clear Zr c3 cN oC
  gi_wp2_with fail
  obtain⟨W7,wO⟩:=oQ ((w6.setCell ⟨b5,0,none⟩ (.slice A2 n2 k2)).alloc (.cells #[.func (.func 246) #[vm] #[]] 272));obtain⟨b8,eN⟩:=oQ (w6.heap.size);have Sm:(w6.setCell ⟨b5,0,none⟩ (.slice A2 n2 k2)).heap.size=b8:=by rw[←eN];simp[uw]
  have sM:W7.heap.size=b8+1:=by rw[←wO,gI,Sm]
  have iQ:W.heap.size≤b8:=by rw[←eN];exact fi.out.size
  have y8:cG W7 b8 272 (.func (.func 246) #[vm] #[]):=by rw[←wO,←Sm];exact Boxed.new _ _ _
  have y5:cG W7 b5 230 (.slice A2 n2 k2):=by rw[←wO];exact(cT.out.set _).alloc _
  have JJ:aO (fun k=>k=b5) W W7:=by
   rw[←wO];exact((aO.gH fi.out).trans (aO.setCell (Z:=fun k=>k=b5) w6 ⟨b5,0,none⟩ (.slice A2 n2 k2) rfl)).trans (aO.alloc _ _)
  have Sc:aX W7 (.slice A2 n2 k2) (aD (d+10000*R)):=by
   rw[←wO];exact(cI.out.set VV.out ⟨b5,0,none⟩ jR.out.1 _).below (pj _ _ _)
  rw[wO,eN];clear wO eN c3' f5 c5' cT VM cI lK EF EA Wx Sm;have sK:cG W7 b4 230 (.slice (some ⟨g,0,none⟩) n n):=JJ.boxed HI.out.bq (by have:=cy.out;omega);have cL:ew W7 g nv ql:=HI.out.row.turns JJ (by have:=cy.out;omega);have Re:Below w.heap.size w W7:=JJ.below HI.out.below (aB _) (fun k e=>by have:=cy.out;omega);have Q4:=Wd.out;have YH:(d+10000*R)/M<10000:=(abx (X:=R) (Q:=0) (R:=R) hM (by omega) Q4 lZ).2.1
  have ZL:(aD (d+10000*R)).length≤1000:=by
   have h1:(aD (R*10000)).length≤(aD R).length+1:=MV R (aB _);have h2:=zm (uz Q4);have h3:(aD d).length≤1:=BJ (by omega);have h4:=SR d (R*10000);rw[nN 10000 R];omega
  have tX:ax ah 248 #[.int .i64 9999,.func (.func 247) #[] #[.pointer (some ⟨b8,0,none⟩),.pointer (some ⟨b5,0,none⟩)]] W7.drew (Xi W7.drew 9999 (sR (d+10000*R) M)):=
   anf 9999 (by omega) (sR (d+10000*R) M) aod 247 #[.pointer (some ⟨b8,0,none⟩),.pointer (some ⟨b5,0,none⟩)] (enters_of Tryz.func247 (by kernel_rfl) rfl) W7.drew (fun V i hV hi=>by
    have Md:Below W7.heap.size W7 V:=⟨hV.os,hV.tape,hV.output,hV.size,hV.block⟩
    exact alV i M (d+10000*R) (by omega) vm (.slice A2 n2 k2) b8 b5 V ((Md.cell (p:=⟨b8,0,none⟩) y8.lt).trans y8.cell) ((Md.cell (p:=⟨b5,0,none⟩) y5.lt).trans y5.cell)
     (((H2.out.below Re)).below Md) (Sc.below Md) ZH ZL)
  have jh:=hZ tX;have EF:=hZ sK;have Py:=hZ cL;have ahg:=hZ Re;have P6:=hZ y8;have P5:=hZ y5;have WM:=hZ JJ;have wC:=hZ Sc;have jF:=hZ YH;have tC:=hZ (And.intro sM iQ)
  have Hr:Hid (∀V,Below W7.heap.size W7 V→V.cell? ⟨b4,0,none⟩=some (.slice (some ⟨g,0,none⟩) n n)∧V.cell? ⟨g,xi,none⟩=some (.int .i64 ((ql.getD xi 0:Nat):Int))∧V.frozen? ⟨g,xi,none⟩=false):=hZ (fun V hV=>by
   (have oa:xi<ql.length:=by rw[qR.out,Hb.out];exact oc);refine⟨(hV.cell (p:=⟨b4,0,none⟩) (by have:=sK.lt;exact this)).trans sK.cell,?_,?_⟩
   · rw[ra oa];exact(hV.cell (p:=⟨g,xi,none⟩) cL.lt).trans (cL.get oa)
   · exact(hV.frozen (p:=⟨g,xi,none⟩) cL.lt).trans (cL.free xi oa))
  have z1:(0:Int)≤(xi:Int):=by omega
  have z2:(xi:Int)<(n:Int):=by omega
  have cq:=(Hr.out W7 (bK _ _)).1;clear sK cL Re Q4 YH ZL tX y8 y5 JJ Sc sM iQ aP hW pB;have hs8:∀V,Below W7.heap.size W7 V→V.cell? ⟨b4,0,none⟩=some (.slice (some ⟨g,0,none⟩) n n):=fun V hV=>(Hr.out V hV).1;have aaf:∀V u,Below W7.heap.size W7 V→(V.setCell ⟨g,xi,none⟩ u).cell? ⟨b4,0,none⟩=some (.slice (some ⟨g,0,none⟩) n n):=fun V u hV=>(zZ _ _ _ _ (fun e=>by have:=cy.out;cases e;omega)).trans (Hr.out V hV).1;have tD:=hZ hs8;have WH:=hZ aaf;clear hs8 aaf cq;refine NI (S:=fun V=>V.cell? ⟨b4,0,none⟩=some (.slice (some ⟨g,0,none⟩) n n)) (by kernel_rfl) (by kernel_rfl) (tD.out _ (eR (bK _ _))) fun hHeld=>?_;refine dr 0 1 2 ?_;refine rE 3 fun K hK=>?_;go_simp;refine jh.out.mono ?_;rintro e w9 ⟨q,rfl,jL,kQ,vw,sK⟩;have R_:Below W7.heap.size W7 w9:=⟨sK.os,sK.tape,sK.output,sK.size,sK.block⟩;have Pu:=hZ (And.intro jL (And.intro kQ vw));have eK:=hZ R_;obtain⟨c9,c10,f10⟩:=Hr.out w9 R_;clear jL kQ vw sK R_;refine kk hK (tD.out _ eK.out) fun hHeld=>?_;clear hK K;refine tk 4 ?_;refine rE 5 fun K hK=>?_;go_simp;refine kk hK (WH.out _ _ eK.out) fun hHeld=>?_;clear hK K;refine Vc (by kernel_rfl) ?_ _;refine qY.normal ?_;have yZ:q≤9999:=Pu.out.1;have pD:q=(d+10000*R)/M:=alW hM jF.out Pu.out.2.1 Pu.out.2.2 yZ;obtain⟨ja,Dg⟩:=oQ (w9.setCell ⟨g,xi,none⟩ (.int .i64 (q:Int)));have lB:aO (fun k=>k=b5∨k=g) W w9:=(WM.out.mono (fun k e=>Or.inl e)).trans (aO.gH eK.out);have zd:aO (fun k=>k=b5∨k=g) W ja:=by rw[←Dg];exact lB.trans (aO.setCell (Z:=fun k=>k=b5∨k=g) w9 ⟨g,xi,none⟩ (.int .i64 (q:Int)) (.inr rfl))
  have aka:ja.heap.size=w9.heap.size:=by rw[←Dg];simp[uw]
  have mE:g≠b5∧g≠b8∧g≠b4:=by have:=cy.out;have:=tC.out;have:=jR.out;omega
  have Mw:∀b,b≠g→ja.heap[b]?=w9.heap[b]?:=fun b hb=>by rw[←Dg];exact fA _ _ _ _ hb
  have y5:cG ja b5 230 (.slice A2 n2 k2):=(Mw b5 (fun e=>mE.1 e.symm)).trans ((eK.out.block b5 P5.out.lt).trans P5.out);have y8:cG ja b8 272 (.func (.func 246) #[vm] #[]):=(Mw b8 (fun e=>mE.2.1 e.symm)).trans ((eK.out.block b8 P6.out.lt).trans P6.out);have y4:cG ja b4 230 (.slice (some ⟨g,0,none⟩) n n):=(Mw b4 (fun e=>mE.2.2 e.symm)).trans ((eK.out.block b4 EF.out.lt).trans EF.out);have oa:xi<ql.length:=by rw[qR.out,Hb.out];exact oc
  have cL:ew ja g nv (ql.set xi q):=by rw[←Dg];exact(Py.out.below eK.out Py.out.lt).Tw xi oa q _ rfl
  have XC:ja.cell? ⟨g,xi,none⟩=some (.int .i64 (q:Int)):=by
   have:=cL.get (i:=xi) (by simpa using oa);rw[List.getElem_set_self] at this;exact this
  have YX:Below w.heap.size w ja:=zd.below HI.out.below (aB _) (fun k e=>by have:=cy.out;omega)
  have FG:aX ja (.slice A2 n2 k2) (aD (d+10000*R)):=by
   rw[←Dg];exact(wC.out.below eK.out).set VV.out ⟨g,xi,none⟩ (by have:=jR.out;show g<_;omega) _
  have YF:M*q≤d+10000*R:=by rw[pD];exact Nat.mul_div_le _ _
  have KZ:=hZ (Xy M q (by omega) vm ja.drew (aX.drewN (H2.out.below YX) 1) (by omega))
  have Pe:Hid (∀V v,Below ja.heap.size ja V→aX V v (aD (M*q))→ax ah 207 #[.slice A2 n2 k2,v] V (LF V (d+10000*R-M*q))):=hZ (fun V v hV hv=>
   aa8 _ _ YF _ v V (FG.below hV) hv (by
    have h1:(aD (R*10000)).length≤(aD R).length+1:=MV R (aB _);have h2:=zm (uz Wd.out);have h3:=zm (show d≤9999 by omega);have h3':(aD 9999).length≤1:=BJ (by omega);have h4:=SR d (R*10000);rw[nN 10000 R]
    omega))
  have ym:Hid (∀V,Below ja.heap.size ja V→V.cell? ⟨b4,0,none⟩=some (.slice (some ⟨g,0,none⟩) n n)∧V.cell? ⟨g,xi,none⟩=some (.int .i64 (q:Int))∧V.cell? ⟨b5,0,none⟩=some (.slice A2 n2 k2)∧V.cell? ⟨b8,0,none⟩=some (.func (.func 246) #[vm] #[])∧V.frozen? ⟨b5,0,none⟩=false∧cG V b5 230 (.slice A2 n2 k2)):=hZ (fun V hV=>by
   have T4:cG V b5 230 (.slice A2 n2 k2):=(hV.block b5 y5.lt).trans y5
   exact⟨(hV.cell (p:=⟨b4,0,none⟩) y4.lt).trans y4.cell,(hV.cell (p:=⟨g,xi,none⟩) cL.lt).trans XC,T4.cell,(hV.cell (p:=⟨b8,0,none⟩) y8.lt).trans y8.cell,T4.frozen,T4⟩)
  obtain⟨k4,kg,k5,k8,-,-⟩:=ym.out ja (bK _ _);have iM:=hZ zd;have Lp:=hZ cL;have CE:=hZ pD;have Lf:=hZ yZ;rw[Dg];clear yZ pD Dg lB zd aka mE Mw y5 y8 y4 oa cL XC YX FG YF c9 c10 f10 jh Py P6 P5 EF WM wC Hr ahg hHeld tD WH
  gi_wp2_with fail
  have hs9:∀V,Below ja.heap.size ja V→V.cell? ⟨b8,0,none⟩=some (.func (.func 246) #[vm] #[])∧V.cell? ⟨b4,0,none⟩=some (.slice (some ⟨g,0,none⟩) n n)∧V.cell? ⟨g,xi,none⟩=some (.int .i64 (q:Int)):=fun V hV=>by
   obtain⟨i4,ig,-,i8,-,-⟩:=ym.out V hV;exact⟨i8,i4,ig⟩
  have aag:∀V u,Below ja.heap.size ja V→(V.setCell ⟨b5,0,none⟩ u).cell? ⟨b8,0,none⟩=some (.func (.func 246) #[vm] #[])∧(V.setCell ⟨b5,0,none⟩ u).cell? ⟨b4,0,none⟩=some (.slice (some ⟨g,0,none⟩) n n)∧(V.setCell ⟨b5,0,none⟩ u).cell? ⟨g,xi,none⟩=some (.int .i64 (q:Int)):=fun V u hV=>by
   obtain⟨i4,ig,-,i8,-,-⟩:=ym.out V hV;have:=cy.out;have:=tC.out;have:=jR.out;exact⟨(zZ _ _ _ _ (fun e=>by cases e;omega)).trans i8,(zZ _ _ _ _ (fun e=>by cases e;omega)).trans i4,(zZ _ _ _ _ (fun e=>by cases e;omega)).trans ig⟩
  have CK:=hZ hs9;have WI:=hZ aag;clear hs9 aag k4 kg k8;refine NI (S:=fun V=>V.cell? ⟨b8,0,none⟩=some (.func (.func 246) #[vm] #[])∧V.cell? ⟨b4,0,none⟩=some (.slice (some ⟨g,0,none⟩) n n)∧V.cell? ⟨g,xi,none⟩=some (.int .i64 (q:Int))) (by kernel_rfl) (by kernel_rfl) (CK.out _ (eR (bK _ _))) fun hHeld=>?_;refine bg 1 2 3 4 ?_;refine tk 5 ?_;refine rd [0,6] ?_;refine rc (fun K hK=>?_) ?_
  ·
   go_simp;refine kk hK (CK.out _ (eR (bK _ _))) fun hHeld=>?_;clear hK K;refine rE 6 fun K hK=>?_;go_simp;refine KZ.out.mono ?_;rintro e Gj ⟨v3,rfl,rr,-,oK⟩;have Dj:Below ja.heap.size ja Gj:=⟨oK.os,oK.tape,oK.output,oK.size,oK.block⟩;have vY:=hZ Dj;have mu:=hZ rr;obtain⟨-,-,j5,-,-,-⟩:=ym.out Gj Dj;clear oK Dj rr;refine kk hK (CK.out _ vY.out) fun hHeld=>?_;clear hK K;refine rE 7 fun K hK=>?_;go_simp;refine(Pe.out _ _ vY.out mu.out).mono ?_;rintro e kX ⟨v4,rfl,oT,vg,uX⟩;have ox:=aw vY uX;have yn:=hZ oT;have j9:=hZ (vg.base (B':=ja.heap.size) vY.out.size);obtain⟨-,-,i5,-,g5,-⟩:=ym.out kX ox.out;clear vg uX;obtain⟨A4,c4,JP,-⟩:=oT;obtain⟨n4,ie⟩:=oQ ((aD (d+10000*R-M*q)).length);rw[ie] at JP;subst JP;have Cw:=hZ ie;clear ie;refine kk hK (CK.out _ ox.out) fun hHeld=>?_;clear hK K;refine rE 8 fun K hK=>?_;go_simp;refine kk hK (WI.out _ _ ox.out) fun hHeld=>?_;clear hK K;refine Vc (by kernel_rfl) ?_ _;refine qY.normal ?_
   gi_wp2_with fail
   have vC:aO (fun k=>k=b5∨k=g) W (kX.setCell ⟨b5,0,none⟩ (.slice A4 n4 c4)):=(iM.out.trans (aO.gH ox.out)).trans (aO.setCell (Z:=fun k=>k=b5∨k=g) kX ⟨b5,0,none⟩ _ (.inl rfl));have aC:=cy.out;have hle:=jR.out;refine⟨KeepsFrom.rB vC (fun k e=>by have:=WL.out;omega),lP.rB vC ⟨by omega,by omega⟩ (fun q hq=>by have:=OM.out q hq;exact⟨by omega,by omega⟩),.slice A4 n4 c4,?_⟩;rw[pW.out];refine⟨vC.boxed HI.out.bm (by omega),vC.boxed HI.out.bq (by omega),((ym.out kX ox.out).2.2.2.2.2).set _,?_,?_,j9.out.base (by have:=iM.out.size;omega),vC.below HI.out.below (aB _) (fun k e=>by omega)⟩
   · have:=(Lp.out.below ox.out Lp.out.lt).other ⟨b5,0,none⟩ (by show b5≠g;omega) (.slice A4 n4 c4)
     rw[CE.out] at this;exact this
   · have e:d+10000*R-M*q=(d+10000*R)%M:=by
      rw[CE.out];have:=OA (d+10000*R) M;omega
     rw[e] at yn;exact yn.out.set j9.out ⟨b5,0,none⟩ (by show b5<ja.heap.size;have:=iM.out.size;omega) _
  refine dx fun K hK=>?_;go_simp;refine KZ.out.mono ?_;rintro e Gj ⟨v3,rfl,rr,-,oK⟩;have Dj:Below ja.heap.size ja Gj:=⟨oK.os,oK.tape,oK.output,oK.size,oK.block⟩;have vY:=hZ Dj;have mu:=hZ rr;obtain⟨-,-,j5,-,-,-⟩:=ym.out Gj Dj;clear oK Dj rr;refine kk hK (CK.out _ vY.out) fun hHeld=>?_;clear hK K;refine rE 0 fun K hK=>?_;go_simp;refine kk hK (CK.out _ vY.out) fun hHeld=>?_;clear hK K;refine rE 7 fun K hK=>?_;go_simp;refine(Pe.out _ _ vY.out mu.out).mono ?_;rintro e kX ⟨v4,rfl,oT,vg,uX⟩;have ox:=aw vY uX;have yn:=hZ oT;have j9:=hZ (vg.base (B':=ja.heap.size) vY.out.size);obtain⟨-,-,i5,-,g5,-⟩:=ym.out kX ox.out;clear vg uX;obtain⟨A4,c4,JP,-⟩:=oT;obtain⟨n4,ie⟩:=oQ ((aD (d+10000*R-M*q)).length);rw[ie] at JP;subst JP;have Cw:=hZ ie;clear ie;refine kk hK (CK.out _ ox.out) fun hHeld=>?_;clear hK K;refine rE 8 fun K hK=>?_;go_simp;refine kk hK (WI.out _ _ ox.out) fun hHeld=>?_;clear hK K;refine Vc (by kernel_rfl) ?_ _;refine qY.normal ?_
  gi_wp2_with fail
  have vC:aO (fun k=>k=b5∨k=g) W (kX.setCell ⟨b5,0,none⟩ (.slice A4 n4 c4)):=(iM.out.trans (aO.gH ox.out)).trans (aO.setCell (Z:=fun k=>k=b5∨k=g) kX ⟨b5,0,none⟩ _ (.inl rfl));have aC:=cy.out;have hle:=jR.out;refine⟨KeepsFrom.rB vC (fun k e=>by have:=WL.out;omega),lP.rB vC ⟨by omega,by omega⟩ (fun q hq=>by have:=OM.out q hq;exact⟨by omega,by omega⟩),.slice A4 n4 c4,?_⟩;rw[pW.out];refine⟨vC.boxed HI.out.bm (by omega),vC.boxed HI.out.bq (by omega),((ym.out kX ox.out).2.2.2.2.2).set _,?_,?_,j9.out.base (by have:=iM.out.size;omega),vC.below HI.out.below (aB _) (fun k e=>by omega)⟩
  · have:=(Lp.out.below ox.out Lp.out.lt).other ⟨b5,0,none⟩ (by show b5≠g;omega) (.slice A4 n4 c4)
    rw[CE.out] at this;exact this
  · have e:d+10000*R-M*q=(d+10000*R)%M:=by
     rw[CE.out];have:=OA (d+10000*R) M;omega
    rw[e] at yn;exact yn.out.set j9.out ⟨b5,0,none⟩ (by show b5<ja.heap.size;have:=iM.out.size;omega) _
 case done=>
  rintro xs W hS ⟨vr,hI⟩ hK;have hinv:=alU Ct.out hM _ 0 xs rfl (by simpa using hS);obtain⟨hq,hr⟩:=hinv.done hM;obtain⟨ql,oa⟩:=oQ ((nE l M xs).1);obtain⟨R,IQ⟩:=oQ ((nE l M xs).2);have hlen:=(SX hM xs).2;rw[oa] at hq hI hlen;rw[IQ] at hr hI;have hX:cU l=X:=by rw[←HL.out,om]
  rw[hX] at hq hr;have c5:=hI.br.cell;have c4:=hI.bq.cell;have f5:=hI.br.frozen;have f4:=hI.bq.frozen;obtain⟨Ar,AK,JR,-⟩:=hI.rd;obtain⟨kr,yU⟩:=oQ ((aD R).length);rw[yU] at JR;subst JR;have Z7:ql.length=n:=by rw[hlen];exact Hb.out
  have ahC:=hZ (D0 (some ⟨g,0,none⟩) n ql n Z7 (aB _) (by unfold maxLen;omega) (fun e=>by cases e) W.drew (show dJ W.drew W.drew.heap.size (some ⟨g,0,none⟩) nv ql from hI.row.sl hI.row.lt) (by omega));have HI:=hZ hI;have HQ:=hZ hq;have HR:=hZ hr;have fR:=hZ hK;have bf:b4≠b5:=by have:=cy.out;omega
  have eu:=hZ bf;have qV:=hZ aP;clear hS hI hinv hq hr oa IQ hlen hX yU Z7 hK bf mB qe rR o_ x4 HC HA aK cQ cn hg aq aP;go_wp2_with fail;have WJ:Hid (∀v,(W.drew.setCell ⟨b4,0,none⟩ v).cell? ⟨b5,0,none⟩=some (.slice Ar kr AK)):=hZ (fun v=>(zZ _ _ _ _ (fun e=>eu.out (by cases e;rfl))).trans c5);have HSD:Hid (∀v,((W.drew.setCell ⟨b4,0,none⟩ v).setCell ⟨b5,0,none⟩ (.slice Ar kr AK)).cell? ⟨b5,0,none⟩=some (.slice Ar kr AK)):=hZ (fun v=>World.cell?_setCell_same' _ _ _ (by rw[WJ.out v];rfl));refine cJ (fun V=>V.cell? ⟨b5,0,none⟩=some (.slice Ar kr AK)) c5 fun hHeld=>?_;refine tk 2 ?_;refine rE 0 fun K hK=>?_;go_simp;refine kk hK (c5) fun hHeld=>?_;clear hK K;refine rE 1 fun K hK=>?_;go_simp
  go_at_call 245
  refine ahC.out.mono ?_;rintro e w9 ⟨⟨v9,rfl,mJ,Du⟩,rfl⟩;have H8:=hZ mJ;obtain⟨A9,c9,aaw,-⟩:=mJ;obtain⟨n9,lA⟩:=oQ ((gY ql).length);rw[lA] at aaw;subst aaw;have HF9:=hZ (Du g (fun a n c e=>by cases e;exact aB _));clear lA Du;refine kk hK (c5) fun hHeld=>?_;clear hK K;refine rE 3 fun K hK=>?_;go_simp;refine kk hK (WJ.out (.slice A9 n9 c9)) fun hHeld=>?_;clear hK K;refine rE 4 fun K hK=>?_;go_simp;refine kk hK (HSD.out (.slice A9 n9 c9)) fun hHeld=>?_;clear hK K;refine dn ?_;go_wp2_with fail;have hE:=alX (v9:=.slice A9 n9 c9) (HI:=HI.out) (hb:=⟨by have:=cy.out;omega,by have:=cy.out;omega,eu.out,by have:=cy.out;omega,by have:=cy.out;omega,by have:=qV.out;have:=cy.out;omega⟩) H8.out HF9.out fR.out;refine⟨by simp,.inl ⟨_,_,rfl,run_takeDeferred (hE _ (by first|exact .inl rfl|exact .inr rfl)).1,?_⟩⟩;obtain⟨-,e4,e5,e9,er,eb⟩:=hE _ (by first|exact Or.inl rfl|exact Or.inr rfl);refine⟨_,amJ rfl _ _ rfl rfl ael ael e4 e5,_,_,rfl,?_,?_,eb⟩
  · rw[←HQ.out];exact e9
  · rw[←HR.out];exact er
 case stop=>
  rintro c pre W _ h _;exact h.elim
end Go.Proofs.YteeifhlhpiimoaaGreatDoor
end
section
namespace Go.Proofs
open Go.Shelf
open Go.RowKit in
def Tryz.aaW:zY:=⟨fun|169=>65|n=>n,fun|70=>115|9=>9|0=>0|72=>118|37=>116|127=>174|3=>3|5=>5|n=>n,fun|n=>n⟩
theorem Tryz.ak1:apC ah Tryz.aaW:={
 mixed:=by kernel_rfl
 f169:=ad3.trans (congrArg some (by kernel_rfl))
 t0:=zU
 a0:=zQ
 z0:=zS
 v0:=zW
 t3:=nL
 a3:=rM
 z3:=vR
 v3:=vT
 t9:=qE
 a9:=xE
 z9:=xH
 v9:=xL
 t37:=uu
 a37:=N5
 z37:=N'
 v37:=Ob
 t70:=KD
 a70:=aea
 z70:=aeW
 v70:=afG
 t72:=afh
 a72:=aeb
 z72:=aeX
 v72:=afH
 t127:=UT
 a127:=UE
 z127:=UR
 v127:=UW}
theorem Tryz.ahb:Builder.Extra ah Tryz.aaW:={
 sizeBuilder:=by kernel_rfl
 liesBuilder:=by kernel_rfl
 t5:=zV
 a5:=zR
 z5:=zT
 v5:=zX
 infoByte:=by kernel_rfl
 cellsByte:=by kernel_rfl
 sizeByte:=by kernel_rfl
 neB5:=by decide}
open Go.RowKit in
open Go.RowKit in
open Go.RowKit in
open Go.RowKit in
open Go.RowKit in
open Go.RowKit in
open Go.RowKit in
def Tryz.ak0:zY:=⟨fun|160=>263|232=>275|231=>274|227=>276|234=>278|233=>277|236=>280|235=>279|228=>287|271=>290|151=>289|197=>288|120=>303|152=>302|260=>301|137=>311|119=>312|224=>313|225=>314|217=>319|266=>320|n=>n,fun|9=>9|4=>4|3=>3|5=>5|117=>289|116=>288|0=>0|124=>292|21=>21|105=>300|46=>163|119=>322|139=>325|138=>324|n=>n,fun|3=>4|4=>5|n=>n⟩
theorem Tryz.akZ:apB ah Tryz.ak0:={
 mixed:=by kernel_rfl
 f119:=Tryz.func312.trans (congrArg some (by kernel_rfl))
 f120:=Tryz.func303.trans (congrArg some (by kernel_rfl))
 f137:=Tryz.func311.trans (congrArg some (by kernel_rfl))
 f151:=Tryz.func289.trans (congrArg some (by kernel_rfl))
 f152:=Tryz.func302.trans (congrArg some (by kernel_rfl))
 f160:=Tryz.func263.trans (congrArg some (by kernel_rfl))
 f197:=Tryz.func288.trans (congrArg some (by kernel_rfl))
 f217:=Tryz.func319.trans (congrArg some (by kernel_rfl))
 f224:=Tryz.func313.trans (congrArg some (by kernel_rfl))
 f225:=Tryz.func314.trans (congrArg some (by kernel_rfl))
 f227:=Tryz.func276.trans (congrArg some (by kernel_rfl))
 f228:=Tryz.func287.trans (congrArg some (by kernel_rfl))
 f231:=Tryz.func274.trans (congrArg some (by kernel_rfl))
 f232:=Tryz.func275.trans (congrArg some (by kernel_rfl))
 f233:=Tryz.func277.trans (congrArg some (by kernel_rfl))
 f234:=Tryz.func278.trans (congrArg some (by kernel_rfl))
 f235:=Tryz.func279.trans (congrArg some (by kernel_rfl))
 f236:=Tryz.func280.trans (congrArg some (by kernel_rfl))
 f260:=Tryz.func301.trans (congrArg some (by kernel_rfl))
 f266:=Tryz.func320.trans (congrArg some (by kernel_rfl))
 f271:=Tryz.func290.trans (congrArg some (by kernel_rfl))
 t0:=zU
 a0:=zQ
 z0:=zS
 v0:=zW
 t3:=nL
 a3:=rM
 z3:=vR
 v3:=vT
 t4:=xJ
 a4:=ur
 z4:=xG
 v4:=xK
 t5:=zV
 a5:=zR
 z5:=zT
 v5:=zX
 t9:=qE
 a9:=xE
 z9:=xH
 v9:=xL
 t21:=afq
 a21:=aej
 z21:=ae5
 v21:=afP
 t46:=Ec
 a46:=D_
 z46:=Eb
 v46:=Ed
 t105:=Tryz.underlying300
 a105:=Tryz.isAgg300
 z105:=Tryz.sizeOf300
 v105:=Tryz.zeroValue300
 t116:=Tryz.underlying288
 a116:=Tryz.isAgg288
 z116:=Tryz.sizeOf288
 t117:=Tryz.underlying289
 a117:=Tryz.isAgg289
 z117:=Tryz.sizeOf289
 v117:=Tryz.zeroValue289
 t119:=Tryz.underlying322
 a119:=Tryz.isAgg322
 z119:=Tryz.sizeOf322
 t124:=Tryz.underlying292
 a124:=Tryz.isAgg292
 z124:=Tryz.sizeOf292
 v124:=Tryz.zeroValue292
 t138:=Tryz.underlying324
 a138:=Tryz.isAgg324
 z138:=Tryz.sizeOf324
 v138:=Tryz.zeroValue324
 t139:=Tryz.underlying325
 a139:=Tryz.isAgg325
 z139:=Tryz.sizeOf325
 v139:=Tryz.zeroValue325
 g3:=by kernel_rfl
 g4:=by kernel_rfl}
open Go.RowKit in
open Go.RowKit in
open Go.RowKit in
open Go.RowKit in
open Go.RowKit in
open Go.RowKit in
open Go.RowKit in
open Go.RowKit in
open Go.RowKit in
theorem Tryz.Builder_String_any_k (B b:Nat) (l:List UInt8) (w:ae) (h:ac2 118 5 B b (pL l) w) (hBw:B≤w.heap.size):
 ax ah 65 #[.pointer (some ⟨b,0,none⟩)] w fun e w'=>e=.returned (.string ⟨l.toArray⟩)∧(ac2 118 5 B b (pL l) w'∧Below B w w'∧Lib.OthersKept 5 (some b) w w'):=Any.Builder_String_any_k Tryz.ak1 Tryz.ahb B b l w h hBw
open Go.RowKit in
def Tryz.ak3:zY:=⟨fun|172=>264|244=>281|245=>282|247=>291|279=>292|280=>293|281=>294|282=>295|287=>304|316=>305|171=>253|205=>306|321=>315|322=>316|243=>267|246=>283|283=>296|284=>297|285=>298|286=>299|129=>165|317=>307|318=>308|319=>309|320=>310|337=>317|338=>318|n=>n,fun|9=>9|3=>3|75=>170|76=>171|4=>4|5=>5|167=>303|37=>116|0=>0|85=>304|2=>2|168=>306|53=>203|175=>315|46=>163|210=>318|127=>174|145=>331|143=>329|21=>21|171=>309|173=>311|212=>320|51=>201|20=>20|213=>321|232=>332|233=>333|80=>123|n=>n,fun|15=>0|16=>1|17=>2|18=>6|19=>7|n=>n⟩
theorem Tryz.ak2:apD ah Tryz.ak3:={
 mixed:=by kernel_rfl
 f129:=Kv.trans (congrArg some (by kernel_rfl))
 f171:=adJ.trans (congrArg some (by kernel_rfl))
 f172:=Tryz.func264.trans (congrArg some (by kernel_rfl))
 f205:=Tryz.func306.trans (congrArg some (by kernel_rfl))
 f243:=adM.trans (congrArg some (by kernel_rfl))
 f244:=Tryz.func281.trans (congrArg some (by kernel_rfl))
 f245:=Tryz.func282.trans (congrArg some (by kernel_rfl))
 f246:=adO.trans (congrArg some (by kernel_rfl))
 f247:=Tryz.func291.trans (congrArg some (by kernel_rfl))
 f279:=Tryz.func292.trans (congrArg some (by kernel_rfl))
 f280:=Tryz.func293.trans (congrArg some (by kernel_rfl))
 f281:=Tryz.func294.trans (congrArg some (by kernel_rfl))
 f282:=Tryz.func295.trans (congrArg some (by kernel_rfl))
 f283:=adP.trans (congrArg some (by kernel_rfl))
 f284:=adQ.trans (congrArg some (by kernel_rfl))
 f285:=adR.trans (congrArg some (by kernel_rfl))
 f286:=adS.trans (congrArg some (by kernel_rfl))
 f287:=Tryz.func304.trans (congrArg some (by kernel_rfl))
 f316:=Tryz.func305.trans (congrArg some (by kernel_rfl))
 f317:=adU.trans (congrArg some (by kernel_rfl))
 f318:=adV.trans (congrArg some (by kernel_rfl))
 f319:=adW.trans (congrArg some (by kernel_rfl))
 f320:=adX.trans (congrArg some (by kernel_rfl))
 f321:=Tryz.func315.trans (congrArg some (by kernel_rfl))
 f322:=Tryz.func316.trans (congrArg some (by kernel_rfl))
 f337:=adY.trans (congrArg some (by kernel_rfl))
 f338:=adZ.trans (congrArg some (by kernel_rfl))
 t0:=zU
 a0:=zQ
 z0:=zS
 v0:=zW
 t2:=afp
 a2:=aei
 z2:=ae4
 v2:=afO
 t3:=nL
 a3:=rM
 z3:=vR
 v3:=vT
 t4:=xJ
 a4:=ur
 z4:=xG
 v4:=xK
 t5:=zV
 a5:=zR
 z5:=zT
 v5:=zX
 t9:=qE
 a9:=xE
 z9:=xH
 v9:=xL
 t20:=UU
 a20:=UF
 z20:=US
 v20:=UX
 t21:=afq
 a21:=aej
 z21:=ae5
 v21:=afP
 t37:=uu
 a37:=N5
 z37:=N'
 v37:=Ob
 t46:=Ec
 a46:=D_
 z46:=Eb
 v46:=Ed
 t51:=Gx
 a51:=Gt
 z51:=Gv
 v51:=Gz
 t53:=Gy
 a53:=Gu
 z53:=Gw
 v53:=GA
 t75:=afj
 a75:=aed
 z75:=aeZ
 v75:=afJ
 t76:=afk
 a76:=aee
 z76:=ae0
 v76:=afK
 t85:=Tryz.underlying304
 a85:=Tryz.isAgg304
 z85:=Tryz.sizeOf304
 v85:=Tryz.zeroValue304
 t127:=UT
 a127:=UE
 z127:=UR
 v127:=UW
 t143:=Tryz.underlying329
 a143:=Tryz.isAgg329
 z143:=Tryz.sizeOf329
 v143:=Tryz.zeroValue329
 t145:=Tryz.underlying331
 a145:=Tryz.isAgg331
 z145:=Tryz.sizeOf331
 v145:=Tryz.zeroValue331
 t167:=Tryz.underlying303
 a167:=Tryz.isAgg303
 z167:=Tryz.sizeOf303
 v167:=Tryz.zeroValue303
 t168:=Tryz.underlying306
 a168:=Tryz.isAgg306
 z168:=Tryz.sizeOf306
 v168:=Tryz.zeroValue306
 t171:=afx
 a171:=aep
 z171:=afa
 v171:=afU
 t173:=afy
 a173:=aeq
 z173:=afb
 v173:=afV
 t175:=Tryz.underlying315
 a175:=Tryz.isAgg315
 z175:=Tryz.sizeOf315
 v175:=Tryz.zeroValue315
 t210:=Tryz.underlying318
 a210:=Tryz.isAgg318
 z210:=Tryz.sizeOf318
 v210:=Tryz.zeroValue318
 t212:=afz
 a212:=aer
 z212:=afc
 v212:=afW
 t213:=afA
 a213:=aes
 z213:=afd
 t232:=afB
 a232:=aet
 z232:=afe
 v232:=afX
 t233:=afC
 a233:=aeu
 z233:=aff
 v233:=afY
 g15:=by kernel_rfl
 g16:=by kernel_rfl
 g17:=by kernel_rfl
 g18:=by kernel_rfl
 g19:=by kernel_rfl}
open Go.RowKit in
theorem Tryz.strconv_Atoi (s:ByteArray) (n:Int) (hl:s.size≤18) (h:Lib.atoi s.data.toList=some n) (w:ae):
 ax ah 264 #[.string s] w fun e w'=>e=.returned (.tuple #[.int .i64 n,.nilIface])∧∃t,w'=Lib.bytesWorld w 5 t:=Any.strconv_Atoi Tryz.ak2 s n hl h w
open Go.Lib in
open Go.Lib in
open Go.Lib in
open Go.Lib in
open Go.RowKit Go.Sort Go.Lib in
open Go.RowKit Go.Sort Go.Lib in
open Go.RowKit Go.Sort Go.Lib in
open Go.RowKit Go.Sort Go.Lib in
open Go.RowKit Go.Sort Go.Lib in
def Tryz.ak8:zY:=⟨fun|171=>253|243=>267|246=>283|283=>296|284=>297|285=>298|286=>299|129=>165|317=>307|318=>308|319=>309|320=>310|337=>317|338=>318|n=>n,fun|3=>3|9=>9|2=>2|4=>4|171=>309|0=>0|53=>203|37=>116|5=>5|173=>311|212=>320|51=>201|20=>20|213=>321|46=>163|232=>332|233=>333|n=>n,fun|17=>2|18=>6|19=>7|n=>n⟩
theorem Tryz.ak7:Go.Proofs.LaysM.n171 ah Tryz.ak8:={
 mixed:=by kernel_rfl
 f129:=Kv.trans (congrArg some (by kernel_rfl))
 f171:=adJ.trans (congrArg some (by kernel_rfl))
 f243:=adM.trans (congrArg some (by kernel_rfl))
 f246:=adO.trans (congrArg some (by kernel_rfl))
 f283:=adP.trans (congrArg some (by kernel_rfl))
 f284:=adQ.trans (congrArg some (by kernel_rfl))
 f285:=adR.trans (congrArg some (by kernel_rfl))
 f286:=adS.trans (congrArg some (by kernel_rfl))
 f317:=adU.trans (congrArg some (by kernel_rfl))
 f318:=adV.trans (congrArg some (by kernel_rfl))
 f319:=adW.trans (congrArg some (by kernel_rfl))
 f320:=adX.trans (congrArg some (by kernel_rfl))
 f337:=adY.trans (congrArg some (by kernel_rfl))
 f338:=adZ.trans (congrArg some (by kernel_rfl))
 t0:=zU
 a0:=zQ
 z0:=zS
 v0:=zW
 t2:=afp
 a2:=aei
 z2:=ae4
 v2:=afO
 t3:=nL
 a3:=rM
 z3:=vR
 v3:=vT
 t4:=xJ
 a4:=ur
 z4:=xG
 v4:=xK
 t5:=zV
 a5:=zR
 z5:=zT
 v5:=zX
 t9:=qE
 a9:=xE
 z9:=xH
 v9:=xL
 t20:=UU
 a20:=UF
 z20:=US
 v20:=UX
 t37:=uu
 a37:=N5
 z37:=N'
 v37:=Ob
 t46:=Ec
 a46:=D_
 z46:=Eb
 v46:=Ed
 t51:=Gx
 a51:=Gt
 z51:=Gv
 v51:=Gz
 t53:=Gy
 a53:=Gu
 z53:=Gw
 v53:=GA
 t171:=afx
 a171:=aep
 z171:=afa
 v171:=afU
 t173:=afy
 a173:=aeq
 z173:=afb
 v173:=afV
 t212:=afz
 a212:=aer
 z212:=afc
 v212:=afW
 t213:=afA
 a213:=aes
 z213:=afd
 t232:=afB
 a232:=aet
 z232:=afe
 v232:=afX
 t233:=afC
 a233:=aeu
 z233:=aff
 v233:=afY
 g17:=by kernel_rfl
 g18:=by kernel_rfl
 g19:=by kernel_rfl
 i0:=by kernel_rfl
 i2:=by kernel_rfl
 i3:=by kernel_rfl
 i4:=by kernel_rfl
 i5:=by kernel_rfl
 i9:=by kernel_rfl
 i20:=by kernel_rfl
 i37:=by kernel_rfl
 i46:=by kernel_rfl
 i51:=by kernel_rfl
 i53:=by kernel_rfl
 i171:=by kernel_rfl
 i173:=by kernel_rfl
 i212:=by kernel_rfl
 i232:=by kernel_rfl
 i233:=by kernel_rfl
 m17:=by kernel_rfl
 m18:=by kernel_rfl
 m19:=by kernel_rfl}
open Go.RowKit Go.Sort Go.Lib in
theorem Tryz.strconv_Itoa (n:Int) (h0: -9223372036854775808≤n) (h1:n≤9223372036854775807) (w:ae) (JK:Lib.TabIs ah w "internal/strconv.uint64pow10" .u64 Lib.pow10Tab):
 ax ah 253 #[.int .i64 n] w fun e w'=>e=.returned (.string ⟨(Lib.itoa n).toArray⟩)∧∃k os,w'=grow (w.drewN k) os:=Any.strconv_Itoa Tryz.ak7 n h0 h1 w JK
open Go.RowKit Go.Sort Go.Lib in
open Go.RowKit Go.Lib in
open Go.RowKit Go.Lib in
def Tryz.ak4:zY:=⟨fun|189=>82|125=>103|257=>134|128=>164|129=>165|294=>181|295=>182|296=>183|297=>184|298=>185|299=>186|216=>187|300=>188|301=>189|328=>236|329=>225|330=>226|331=>237|332=>238|215=>104|343=>261|n=>n,fun|28=>23|3=>3|46=>163|0=>0|51=>201|53=>203|4=>4|183=>194|182=>193|131=>198|5=>5|9=>9|218=>255|222=>130|228=>276|229=>277|n=>n,fun|n=>n⟩
theorem Tryz.aaX:apE ah Tryz.ak4:={
 mixed:=by kernel_rfl
 f125:=Tryz.func103.trans (congrArg some (by kernel_rfl))
 f128:=Tryz.func164.trans (congrArg some (by kernel_rfl))
 f129:=Kv.trans (congrArg some (by kernel_rfl))
 f189:=Tryz.func82.trans (congrArg some (by kernel_rfl))
 f215:=Tryz.func104.trans (congrArg some (by kernel_rfl))
 f216:=Tryz.func187.trans (congrArg some (by kernel_rfl))
 f257:=Tryz.func134.trans (congrArg some (by kernel_rfl))
 f294:=Tryz.func181.trans (congrArg some (by kernel_rfl))
 f295:=Tryz.func182.trans (congrArg some (by kernel_rfl))
 f296:=Tryz.func183.trans (congrArg some (by kernel_rfl))
 f297:=Tryz.func184.trans (congrArg some (by kernel_rfl))
 f298:=Tryz.func185.trans (congrArg some (by kernel_rfl))
 f299:=Tryz.func186.trans (congrArg some (by kernel_rfl))
 f300:=Tryz.func188.trans (congrArg some (by kernel_rfl))
 f301:=Tryz.func189.trans (congrArg some (by kernel_rfl))
 f328:=Tryz.func236.trans (congrArg some (by kernel_rfl))
 f329:=Tryz.func225.trans (congrArg some (by kernel_rfl))
 f330:=Tryz.func226.trans (congrArg some (by kernel_rfl))
 f331:=Tryz.func237.trans (congrArg some (by kernel_rfl))
 f332:=Tryz.func238.trans (congrArg some (by kernel_rfl))
 f343:=Tryz.func261.trans (congrArg some (by kernel_rfl))
 t0:=zU
 a0:=zQ
 z0:=zS
 v0:=zW
 t3:=nL
 a3:=rM
 z3:=vR
 v3:=vT
 t4:=xJ
 a4:=ur
 z4:=xG
 v4:=xK
 t5:=zV
 a5:=zR
 z5:=zT
 v5:=zX
 t9:=qE
 a9:=xE
 z9:=xH
 v9:=xL
 t28:=afr
 a28:=aek
 z28:=ae6
 v28:=afQ
 t46:=Ec
 a46:=D_
 z46:=Eb
 v46:=Ed
 t51:=Gx
 a51:=Gt
 z51:=Gv
 v51:=Gz
 t53:=Gy
 a53:=Gu
 z53:=Gw
 v53:=GA
 t131:=Tryz.underlying198
 a131:=Tryz.isAgg198
 z131:=Tryz.sizeOf198
 v131:=Tryz.zeroValue198
 t182:=Tryz.underlying193
 a182:=Tryz.isAgg193
 z182:=Tryz.sizeOf193
 v182:=Tryz.zeroValue193
 t183:=Tryz.underlying194
 a183:=Tryz.isAgg194
 z183:=Tryz.sizeOf194
 v183:=Tryz.zeroValue194
 t218:=Tryz.underlying255
 a218:=Tryz.isAgg255
 z218:=Tryz.sizeOf255
 v218:=Tryz.zeroValue255
 t222:=Tryz.underlying130
 a222:=Tryz.isAgg130
 z222:=Tryz.sizeOf130
 v222:=Tryz.zeroValue130
 t228:=Tryz.underlying276
 a228:=Tryz.isAgg276
 z228:=Tryz.sizeOf276
 v228:=Tryz.zeroValue276
 t229:=Tryz.underlying277
 a229:=Tryz.isAgg277
 z229:=Tryz.sizeOf277
 v229:=Tryz.zeroValue277}
open Go.Sort Go.RowKit in
theorem Tryz.slices_Sort_int (fH off cap:Nat) (zs:List Int) (w:ae) (hH:Holds (Value.int .i64) w fH off zs.toArray) (hblk:fH<w.heap.size) (aU:zs.length<4611686018427387904):
 ax ah 82 #[.slice (some ⟨fH,off,none⟩) zs.length cap] w fun e w'=>
  e=.returned (.tuple #[])∧∃n os,w'=grow (putRow (Value.int .i64) (Sort.ahead w n) fH off (zs.mergeSort fun x y=>decide (x≤y)).toArray) os:=Any.slices_Sort_int Tryz.aaX fH off cap zs w hH hblk aU
open Go.RowKit Go.Lib in
def Tryz.ak6:zY:=⟨fun|99=>168|206=>229|n=>n,fun|9=>9|4=>4|3=>3|n=>n,fun|n=>n⟩
theorem Tryz.ak5:apF ah Tryz.ak6:={
 mixed:=by kernel_rfl
 f99:=adr.trans (congrArg some (by kernel_rfl))
 f206:=Uz.trans (congrArg some (by kernel_rfl))
 t3:=nL
 a3:=rM
 z3:=vR
 v3:=vT
 t4:=xJ
 a4:=ur
 z4:=xG
 v4:=xK
 t9:=qE
 a9:=xE
 z9:=xH
 v9:=xL}
open Go.RowKit Go.Lib in
theorem Tryz.strings_HasPrefix (s p:ByteArray) (w:ae):
 ax ah 168 #[.string s,.string p] w fun e w'=>e=.returned (.bool (B7 s.data.toList p.data.toList))∧w'=w:=Any.strings_HasPrefix Tryz.ak5 s p w
open Go.RowKit Go.Lib in
def Tryz.akY:zY:=⟨fun|101=>139|208=>202|206=>229|n=>n,fun|9=>9|4=>4|3=>3|n=>n,fun|n=>n⟩
theorem Tryz.akX:apz ah Tryz.akY:={
 mixed:=by kernel_rfl
 f101:=Tryz.func139.trans (congrArg some (by kernel_rfl))
 f206:=Uz.trans (congrArg some (by kernel_rfl))
 f208:=Tryz.func202.trans (congrArg some (by kernel_rfl))
 t3:=nL
 a3:=rM
 z3:=vR
 v3:=vT
 t4:=xJ
 a4:=ur
 z4:=xG
 v4:=xK
 t9:=qE
 a9:=xE
 z9:=xH
 v9:=xL}
open Go.RowKit Go.Lib in
theorem Tryz.strings_TrimPrefix (s p:ByteArray) (w:ae):
 ax ah 139 #[.string s,.string p] w fun e w'=>e=.returned (.string ⟨(Ul s.data.toList p.data.toList).toArray⟩)∧w'=w:=Any.strings_TrimPrefix Tryz.akX s p w
open Go.RowKit Go.Lib in
open Go.RowKit Go.Lib in
open Go.RowKit Go.Lib in
open Go.RowKit Go.Lib in
open Go.RowKit Go.Lib in
open Go.RowKit Go.Lib in
def Tryz.aaV:zY:=⟨fun|105=>254|212=>268|99=>168|165=>269|166=>123|170=>270|169=>65|263=>284|264=>285|206=>229|240=>170|241=>286|276=>231|277=>300|n=>n,fun|9=>9|3=>3|4=>4|20=>20|0=>0|46=>163|109=>282|5=>5|72=>118|76=>171|51=>201|146=>295|53=>203|148=>297|70=>115|37=>116|75=>170|127=>174|164=>261|80=>123|n=>n,fun|n=>n⟩
theorem Tryz.aaU:apA ah Tryz.aaV:={
 mixed:=by kernel_rfl
 f99:=adr.trans (congrArg some (by kernel_rfl))
 f105:=Tryz.func254.trans (congrArg some (by kernel_rfl))
 f165:=Tryz.func269.trans (congrArg some (by kernel_rfl))
 f166:=Tryz.func123.trans (congrArg some (by kernel_rfl))
 f169:=ad3.trans (congrArg some (by kernel_rfl))
 f170:=Tryz.func270.trans (congrArg some (by kernel_rfl))
 f206:=Uz.trans (congrArg some (by kernel_rfl))
 f212:=Tryz.func268.trans (congrArg some (by kernel_rfl))
 f240:=Tryz.func170.trans (congrArg some (by kernel_rfl))
 f241:=Tryz.func286.trans (congrArg some (by kernel_rfl))
 f263:=Tryz.func284.trans (congrArg some (by kernel_rfl))
 f264:=Tryz.func285.trans (congrArg some (by kernel_rfl))
 f276:=Tryz.func231.trans (congrArg some (by kernel_rfl))
 f277:=Tryz.func300.trans (congrArg some (by kernel_rfl))
 t0:=zU
 a0:=zQ
 z0:=zS
 v0:=zW
 t3:=nL
 a3:=rM
 z3:=vR
 v3:=vT
 t4:=xJ
 a4:=ur
 z4:=xG
 v4:=xK
 t5:=zV
 a5:=zR
 z5:=zT
 v5:=zX
 t9:=qE
 a9:=xE
 z9:=xH
 v9:=xL
 t20:=UU
 a20:=UF
 z20:=US
 v20:=UX
 t37:=uu
 a37:=N5
 z37:=N'
 v37:=Ob
 t46:=Ec
 a46:=D_
 z46:=Eb
 v46:=Ed
 t51:=Gx
 a51:=Gt
 z51:=Gv
 v51:=Gz
 t53:=Gy
 a53:=Gu
 z53:=Gw
 v53:=GA
 t70:=KD
 a70:=aea
 z70:=aeW
 v70:=afG
 t72:=afh
 a72:=aeb
 z72:=aeX
 v72:=afH
 t75:=afj
 a75:=aed
 z75:=aeZ
 v75:=afJ
 t76:=afk
 a76:=aee
 z76:=ae0
 v76:=afK
 t109:=Tryz.underlying282
 a109:=Tryz.isAgg282
 z109:=Tryz.sizeOf282
 v109:=Tryz.zeroValue282
 t127:=UT
 a127:=UE
 z127:=UR
 v127:=UW
 t146:=Tryz.underlying295
 a146:=Tryz.isAgg295
 z146:=Tryz.sizeOf295
 v146:=Tryz.zeroValue295
 t148:=Tryz.underlying297
 a148:=Tryz.isAgg297
 z148:=Tryz.sizeOf297
 v148:=Tryz.zeroValue297
 t164:=Tryz.underlying261
 a164:=Tryz.isAgg261
 z164:=Tryz.sizeOf261
 v164:=Tryz.zeroValue261}
theorem Tryz.Vv:Builder.Extra ah Tryz.aaV:={
 sizeBuilder:=by kernel_rfl
 liesBuilder:=by kernel_rfl
 t5:=zV
 a5:=zR
 z5:=zT
 v5:=zX
 infoByte:=by kernel_rfl
 cellsByte:=by kernel_rfl
 sizeByte:=by kernel_rfl
 neB5:=by decide}
open Go.RowKit Go.Lib in
open Go.RowKit Go.Lib in
open Go.RowKit Go.Lib in
open Go.RowKit Go.Lib in
open Go.RowKit Go.Lib in
open Go.RowKit Go.Lib in
open Go.RowKit Go.Lib in
theorem Tryz.strings_Repeat (s:ByteArray) (c:Nat) (w:ae) (hc:c≤9223372036854775807) (hlen:s.size*c≤140737488355328):
 ax ah 254 #[.string s,.int .i64 c] w fun e w'=>e=.returned (.string ⟨(Lib.repeatL s.data.toList c).toArray⟩)∧Below w.heap.size w w':=Any.strings_Repeat Tryz.aaU Tryz.Vv s c w hc hlen
open Go.RowKit Go.Lib in
def Tryz.ak9:zY:=⟨fun|20=>83|n=>n,fun|22=>23|3=>3|4=>4|0=>0|n=>n,fun|n=>n⟩
theorem Tryz.aaY:Go.Proofs.Lays2.n20 ah Tryz.ak9:={
 mixed:=by kernel_rfl
 f20:=Tryz.func83.trans (congrArg some (by kernel_rfl))
 t0:=zU
 a0:=zQ
 z0:=zS
 v0:=zW
 t3:=nL
 a3:=rM
 z3:=vR
 v3:=vT
 t4:=xJ
 a4:=ur
 z4:=xG
 v4:=xK
 t22:=afr
 a22:=aek
 z22:=ae6
 v22:=afQ
 i3:=by kernel_rfl}
open Go.RowKit Go.Lib Go.Sort in
open Go.RowKit Go.Lib Go.Sort in
theorem Tryz.slices_Compact_int (fH off cap:Nat) (zs:List Int) (w:ae) (hH:Holds (Value.int .i64) w fH off zs.toArray) (aU:zs.length≤9223372036854775807) (Y9:zs.length≤cap):
 ax ah 83 #[.slice (some ⟨fH,off,none⟩) zs.length cap] w fun e w'=>e=.returned (.slice (some ⟨fH,off,none⟩) (kY zs).length cap)∧∃q,w'=putRow (Value.int .i64) (Sort.ahead w q) fH off (kY zs++jY (zs.length-(kY zs).length) 0).toArray:=Any.slices_Compact_int Tryz.aaY fH off cap zs w hH aU Y9
open Go.RowKit Go.Lib Go.Sort in
theorem Tryz.slices_Compact_int_empty (a:Option Addr) (cap:Nat) (w:ae):
 ax ah 83 #[.slice a 0 cap] w fun e w'=>e=.returned (.slice a 0 cap)∧w'=w:=Any.slices_Compact_int_empty Tryz.aaY a cap w
open Go.RowKit Go.Sort in
theorem Tryz.slices_Sort_int_none (p:Option Addr) (cap:Nat) (w:ae):
 ax ah 82 #[.slice p 0 cap] w fun e w'=>e=.returned (.tuple #[])∧w'=w:=Any.slices_Sort_int_none Tryz.aaX p cap w
end Go.Proofs
end
section
namespace Go.Proofs.YteeifhlhpiimoaaGreatDoor
open Go Go.RowKit Go.Shelf
attribute [local go_sem] Oper.semAt_some
def dy (c:UInt8):Bool:=decide (48≤c.toNat∧c.toNat≤57)
def lU (c:UInt8):Nat:=c.toNat%48
def du:Nat→List UInt8→Nat
 |a,[]=>a
 |a,c::l=>du (a*10+lU c) l
def bX (n:Nat):List UInt8:=if n<10 then[ml (48+n)] else bX (n/10)++[ml (48+n%10)]
termination_by n
decreasing_by omega
theorem E6 (a:Nat) (l m:List UInt8):du a (l++m)=du (du a l) m:=by
 induction l generalizing a with
 |nil=>rfl
 |cons c l ih=>exact ih _
theorem Iu (a:Nat) (l:List UInt8):du a l=a*10^l.length+du 0 l:=by
 induction l generalizing a with
 |nil=>simp[du]
 | cons c l ih=>
   rw[du,ih,du,ih (0*10+lU c),eF,mQ];simp only[En,OE,uA,Cg,nN (10^l.length) 10,Nat.add_assoc]
theorem DZ {n:Nat} (h:n<10):(ml (48+n)).toNat=48+n:=by
 rw[aha];omega
theorem XX {n:Nat} (h:n<10):lU (ml (48+n))=n:=by unfold lU;rw[DZ h];omega
theorem p8 {n:Nat} (h:n<10):bX n=[ml (48+n)]:=by rw[bX,if_pos h]
theorem C7 {n:Nat} (h:10≤n):bX n=bX (n/10)++[ml (48+n%10)]:=by rw[bX,if_neg (by omega)]
theorem wI (n:Nat):du 0 (bX n)=n:=by
 induction n using vX with
 | ind n ih=>
   rcases fB n 10 with h|h
   · rw[p8 h,du,XX h,du];omega
   · rw[C7 h,E6,ih (n/10) (by omega),du,XX (by omega),du];omega
theorem C0 (n:Nat):∀c∈bX n,dy c=true:=by
 induction n using vX with
 | ind n ih=>
   intro c hc;rcases fB n 10 with h|h
   · rw[p8 h] at hc
     rw[fQ.1 hc];unfold dy;rw[DZ h];simp;omega
   · rw[C7 h] at hc
     rcases pR.1 hc with q|q
     · exact ih (n/10) (by omega) c q
     · rw[fQ.1 q]
       unfold dy;rw[DZ (by omega)];simp;omega
theorem XR:∀(k:Nat) (l:List UInt8),l.length=k→l≠[]→(∀c∈l,dy c=true)→(l.length=1∨∀c∈l.head?,c≠48)→bX (du 0 l)=l:=by
 intro k
 induction k with
 |zero=>intro l h hn;exact(hn (rO.1 h)).elim
 | succ k ih=>
   intro l hl hn hd hz;obtain⟨m,c,rfl⟩:∃m c,l=m++[c]:=⟨l.dropLast,l.getLast hn,(List.dropLast_concat_getLast hn).symm⟩;have hc:=hd c (by simp);unfold dy at hc;simp only[decide_eq_true_eq] at hc;have yZ:lU c≤9:=by unfold lU;omega
   have ec:ml (48+lU c)=c:=by
    apply Ci.1;rw[aha];unfold lU;omega
   rw[E6,du,du]
   by_cases hm:m=[]
   · subst hm
     rw[du,OE,uA,p8 (by omega),ec];rfl
   · have vt:0<m.length:=Ov.2 hm
     have Zx:∀b∈m.head?,b≠48:=fun b hb=>by
      rcases hz with q|q
      · rw[eV] at q;simp only[eF,pQ] at q;omega
      · refine q b ?_
        cases m with
        |nil=>exact(hm rfl).elim
        |cons x m=>exact hb
     have ihm:=ih m (by simp at hl;omega) hm (fun b hb=>hd b (by simp[hb])) (.inr Zx)
     have Z0:0<du 0 m:=by
      cases m with
      |nil=>exact(hm rfl).elim
      | cons x m=>
        have hx:=hd x (by simp);have akg:=Zx x rfl;unfold dy at hx;simp only[decide_eq_true_eq] at hx;have:x.toNat≠48:=fun e=>akg (Ci.1 e);rw[du,Iu];have:0<10^m.length:=OD (by decide);have h3:1*10^m.length≤(0*10+lU x)*10^m.length:=GU _ (by unfold lU;omega);omega
     rw[C7 (by omega),show(du 0 m*10+lU c)/10=du 0 m by omega,ihm,show(du 0 m*10+lU c)%10=lU c by omega,ec]
def qc (l:List UInt8):List Nat:=if l.length=0 then[] else du 0 (l.drop (l.length-4))::qc (l.take (l.length-4))
termination_by l.length
decreasing_by rw[gD];omega
theorem Is (l:List UInt8) (h:∀c∈l,dy c=true):du 0 l<10^l.length:=by
 induction l with
 |nil=>rw[du];decide
 | cons c l ih=>
   have hc:=h c (by simp);unfold dy at hc;simp only[decide_eq_true_eq] at hc;have:=ih fun d hd=>h d (by simp[hd]);rw[du,Iu,eF,mQ];(have h9:lU c≤9:=by unfold lU;omega);have h3:(0*10+lU c)*10^l.length≤9*10^l.length:=GU _ (by omega);omega
theorem ajv:∀(k:Nat) (l:List UInt8),l.length=k→(∀c∈l,dy c=true)→cU (qc l)=du 0 l∧mr (qc l):=by
 intro k
 induction k using vX with
 | ind k ih=>
   intro l hl hd;rw[qc]
   by_cases h0:l.length=0
   · rw[if_pos h0]
     obtain rfl:=rO.1 h0;exact⟨rfl,fun d hd=>by cases hd⟩
   · rw [if_neg h0]
     (have ht:(l.take (l.length-4)).length=l.length-4:=by rw[gD];omega);obtain⟨i1,i2⟩:=ih (l.length-4) (by omega) (l.take (l.length-4)) ht fun c hc=>hd c (List.mem_of_mem_take hc);have hdd:∀c∈l.drop (l.length-4),dy c=true:=fun c hc=>hd c (List.mem_of_mem_drop hc);have hb:=Is _ hdd;have hlen:(l.drop (l.length-4)).length=l.length-(l.length-4):=List.length_drop;have cQ:du 0 (l.drop (l.length-4))<10000:=iX hb (Nat.le_trans (Nat.pow_le_pow_right (by decide) (show _≤4 by rw[hlen];omega)) (by decide));refine⟨?_,fun d wQ=>?_⟩
     · rw[cU,i1]
       have e:du 0 l=du 0 (l.take (l.length-4))*10^(l.length-(l.length-4))+du 0 (l.drop (l.length-4)):=by
        conv=>lhs;rw[←List.take_append_drop (l.length-4) l]
        rw[E6,Iu,hlen]
       rw[e]
       by_cases h4:4≤l.length
       · rw[show l.length-(l.length-4)=4 by omega];omega
       · have:l.take (l.length-4)=[]:=by rw[show l.length-4=0 by omega];rfl
         rw[this,du];omega
     · rcases List.mem_cons.1 wQ with rfl|q
       · exact cQ
       · exact i2 d q
theorem aju {l:List UInt8} (hd:∀c∈l,dy c=true):gY (qc l)=aD (du 0 l):=by
 obtain⟨h1,h2⟩:=ajv _ l rfl hd;rw[←MW h2,h1]
def gA (z:Int):List UInt8:=if z<0 then 45::bX z.natAbs else bX z.natAbs
theorem Ir (n:Nat):bX n≠[]:=by
 intro h;rcases fB n 10 with q|q
 · rw[p8 q] at h;cases h
 · rw[C7 q] at h;simp at h
theorem Iq {n:Nat} (h:0<n):∀c∈(bX n).head?,c≠48:=by
 induction n using vX with
 | ind n ih=>
   intro c hc;rcases fB n 10 with q|q
   · rw[p8 q] at hc
     cases hc;intro e;have:=congrArg UInt8.toNat e;rw[DZ q] at this;have sA:(48:UInt8).toNat=48:=rfl;omega
   · rw[C7 q] at hc
     refine ih (n/10) (by omega) (by omega) c ?_
     cases hd:bX (n/10) with
     |nil=>exact(Ir _ hd).elim
     |cons x m=>rw[hd] at hc;exact hc
def o5 (d:Nat):List UInt8:=jY (4-(bX d).length) 48++bX d
theorem LM:∀(k n:Nat),0<k→n<10^k→(bX n).length≤k:=by
 intro k
 induction k with
 |zero=>intro n h;omega
 | succ k ih=>
   intro n _ h;rcases fB n 10 with q|q
   · rw[p8 q];simp
   · have hk:0<k:=by
      rcases fL k with rfl|hk
      · simp at h;omega
      · exact hk
     rw[mQ] at h;have:=ih (n/10) hk (by omega);rw[C7 q,eV];simp only[eF,pQ];omega
theorem aiG (a k:Nat):du a (jY k 48)=a*10^k:=by
 induction k generalizing a with
 |zero=>rw[List.replicate_zero,du,Nat.pow_zero,Nat.mul_one]
 | succ k ih=>
   (have h0:lU 48=0:=by decide);rw[List.replicate_succ,du,ih,h0,Ce,mQ,Cg,nN 10]
theorem aiF (a:Nat) {d:Nat} (hd:d<10000):du a (o5 d)=a*10000+d:=by
 have hl:=LM 4 d (by decide) (by omega);unfold o5;rw[E6,aiG,Iu,wI,Cg,←Nat.pow_add,show 4-(bX d).length+(bX d).length=4 by omega]
theorem alY (d:Nat):∀c∈o5 d,dy c=true:=fun c hc=>by
 unfold o5 at hc;rcases pR.1 hc with q|q
 · rw[List.eq_of_mem_replicate q];decide
 · exact C0 d c q
def AP (a:Nat):List Nat→Nat
 |[]=>a
 |d::l=>AP (a*10000+d) l
theorem aiE (a:Nat) {l:List Nat} (h:mr l):du a (l.flatMap o5)=AP a l:=by
 induction l generalizing a with
 |nil=>rw[List.flatMap_nil,du,AP]
 |cons d l ih=>rw[List.flatMap_cons,E6,aiF a (h d (by simp)),AP,ih _ (fun x hx=>h x (by simp[hx]))]
theorem aou (l:List Nat):∀a,AP a l=a*10000^l.length+cU l.reverse:=by
 induction l with
 |nil=>intro a;rw[AP];simp[cU]
 | cons d l ih=>
   intro a;rw[AP,ih,List.reverse_cons,NA,List.length_reverse,eF,mQ,cU,cU,En,Nat.mul_zero,Ce,Cg,nN 10000,nN d];omega
theorem an8 {top:Nat} {rest:List Nat} (h0:0<top) (h:mr rest):bX top++rest.flatMap o5=bX (cU (top::rest).reverse):=by
 have hv:du 0 (bX top++rest.flatMap o5)=cU (top::rest).reverse:=by
  rw[E6,wI,aiE _ h];have:=aou (top::rest) 0;rw[AP,OE,uA,OE,uA] at this;exact this
 have bf:bX top++rest.flatMap o5≠[]:=fun e=>Ir top (List.append_eq_nil_iff.1 e).1
 have hd:∀c∈bX top++rest.flatMap o5,dy c=true:=fun c hc=>by
  rcases pR.1 hc with q|q
  · exact C0 top c q
  · obtain⟨d,-,q2⟩:=List.mem_flatMap.1 q
    exact alY d c q2
 rw[←hv];refine(XR _ _ rfl bf hd (.inr fun c hc=>?_)).symm;refine Iq h0 c ?_
 cases e:bX top with
 |nil=>exact(Ir _ e).elim
 |cons x m=>rw[e] at hc;exact hc
def eU:List UInt8→List UInt8
 |[]=>[]
 |c::l=>if c=45 then l else c::l
theorem vO (c:UInt8) (l:List UInt8):eU (c::l)=if c=45 then l else c::l:=rfl
def cR (l:List UInt8):Bool:=decide (eU l≠[])&&decide ((eU l).length≤200)&&(eU l).all dy&&(decide (l=[48])||decide ((eU l).head?≠some 48))
def bC (l:List UInt8):Int:=if l.head?=some 45 then -(du 0 (eU l):Int) else du 0 (eU l)
theorem XV {l:List UInt8} (hn:l≠[]) (hd:∀c∈l,dy c=true) (hh:l.head?≠some 48):0<du 0 l:=by
 cases l with
 |nil=>exact(hn rfl).elim
 | cons x m=>
   have hx:=hd x (by simp);unfold dy at hx;simp only[decide_eq_true_eq] at hx;have:x.toNat≠48:=fun e=>hh (by rw[Ou];congr 1;exact Ci.1 e);rw[du,Iu];have h0:0<10^m.length:=OD (by decide);have h3:1*10^m.length≤(0*10+lU x)*10^m.length:=GU _ (by unfold lU;omega);omega
theorem XS {l:List UInt8} (hn:l≠[]) (hd:∀c∈l,dy c=true) (hh:l.head?≠some 48):bX (du 0 l)=l:=
 XR _ l rfl hn hd (.inr fun c hc e=>hh (by rw[e] at hc;exact hc))
theorem X4 {l:List UInt8} (hd:∀c∈l,dy c=true):l.head?≠some 45:=fun h=>by
 cases l with
 |nil=>cases h
 | cons x m=>
   rw[Ou] at h;have:=hd x (by simp);rw[Option.some.inj h] at this;exact absurd this (by decide)
theorem anT {l:List UInt8} (hd:∀c∈l,dy c=true):eU l=l:=by
 cases l with
 |nil=>rfl
 | cons x m=>
   rw[vO,if_neg];rintro rfl;exact X4 hd rfl
theorem acI {l:List UInt8} (h:cR l=true):gA (bC l)=l∧(bX (bC l).natAbs).length≤200:=by
 unfold cR at h;simp only[sU,Gr,decide_eq_true_eq,Ej] at h;obtain⟨⟨⟨h1,h2⟩,h3⟩,h4⟩:=h;unfold bC gA
 by_cases hm:l.head?=some 45
 · rw[if_pos hm]
   obtain⟨m,rfl⟩:∃m,l=45::m:=by
    cases l with
    |nil=>cases hm
    |cons x m=>rw[Ou] at hm;exact⟨m,by rw[Option.some.inj hm]⟩
   (have hs:eU (45::m)=m:=by rw[vO,if_pos rfl]);rw[hs] at h1 h2 h3 h4⊢
   have hh:m.head?≠some 48:=by
    rcases h4 with e|e
    · cases e
    · exact e
   have hp:=XV h1 h3 hh;rw[if_pos (by omega),show(-(du 0 m:Int)).natAbs=du 0 m by omega,XS h1 h3 hh];exact⟨rfl,h2⟩
 · rw [if_neg hm]
   have hs:eU l=l:=by
    cases l with
    |nil=>rfl
    | cons x m=>
      rw[vO,if_neg];rintro rfl;exact hm rfl
   rw[hs] at h1 h2 h3 h4⊢;rw[if_neg (by omega),Int.natAbs_natCast];rcases h4 with rfl|e
   · have:du 0 [48]=0:=by rw[du,du];decide
     rw[this,p8 (by decide)];exact⟨rfl,by decide⟩
   · rw[XS h1 h3 e]
     exact⟨rfl,h2⟩
theorem Nv {z:Int} (h:(bX z.natAbs).length≤200):cR (gA z)=true∧bC (gA z)=z:=by
 have hd:=C0 z.natAbs;have hn:=Ir z.natAbs;unfold gA
 by_cases hz:z<0
 · rw[if_pos hz]
   (have hs:eU (45::bX z.natAbs)=bX z.natAbs:=by rw[vO,if_pos rfl]);have hh:(bX z.natAbs).head?≠some 48:=fun e=>Iq (n:=z.natAbs) (by omega) 48 e rfl;unfold cR bC;rw[hs];refine⟨?_,?_⟩
   · simp only[sU,Gr,decide_eq_true_eq,Ej]
     exact⟨⟨⟨hn,h⟩,hd⟩,.inr hh⟩
   · rw[Ou,if_pos rfl,wI];omega
 · rw[if_neg hz]
   unfold cR bC;rw[anT hd];refine⟨?_,?_⟩
   · simp only[sU,Gr,decide_eq_true_eq,Ej]
     refine⟨⟨⟨hn,h⟩,hd⟩,?_⟩;rcases fL z.natAbs with q|q
     · left;rw[q,p8 (by decide)];rfl
     · right;exact fun e=>Iq q 48 e rfl
   · rw[if_neg (X4 hd),wI];omega
theorem TN (l:List UInt8):Ul l [45]=eU l:=by
 cases l with
 |nil=>rfl
 | cons c l=>
   unfold Ul B7;rw[vO]
   by_cases h:c=45
   · subst h;simp
   · have:¬(45:UInt8)=c:=fun e=>h e.symm
     simp[h,this]
def E7:List UInt8:=[48,49,50,51,52,53,54,55,56,57]
theorem aiM (c:UInt8):E7.contains c=dy c:=by
 have h:∀n:Fin 256,E7.contains (ml n.val)=dy (ml n.val):=by decide+kernel
 have:=h ⟨c.toNat,c.toNat_lt⟩;simpa using this
theorem dropWhile_nil {l:List UInt8} {p:UInt8→Bool}:l.dropWhile p=[]↔l.all p=true:=by
 induction l with
 |nil=>simp
 | cons c l ih=>
   rw[List.dropWhile_cons,List.all_cons]
   by_cases h:p c=true
   · rw[if_pos h,ih,h];simp
   · rw[if_neg h];simp[h]
theorem acC (l:List UInt8):(Um l E7=[])↔l.all dy=true:=by
 unfold Um Lib.trimLeftS Lib.trimRightS;have e:(fun x=>E7.contains x)=dy:=funext aiM;rw[e,dropWhile_nil];constructor
 · intro h
   have hr:(l.reverse.dropWhile dy)=[]:=by
    cases hq:l.reverse.dropWhile dy with
    |nil=>rfl
    | cons c q=>
      exfalso
      have h1:dy c=true:=by
       rw[hq] at h;rw[Ej] at h;exact h c (by simp)
      have h2:=List.head?_dropWhile_not dy l.reverse;rw[hq] at h2;simp at h2;rw[h2] at h1;cases h1
   rw[dropWhile_nil] at hr;simpa using hr
 · intro h
   (have hr:(l.reverse.dropWhile dy)=[]:=by rw[dropWhile_nil];simpa using h);rw[hr];rfl
theorem Nt {d:ByteArray} {l:List UInt8} (h:d=⟨l.toArray⟩):d.toList=l:=by rw[h,ByteArray.toList_mk]
theorem aoR {l:List UInt8} (h:eU l=[]):cR l=false:=by unfold cR;simp[h]
theorem aoQ {l:List UInt8} (h:200<(eU l).length):cR l=false:=by unfold cR;simp;intro _ h2;omega
theorem aoP {l:List UInt8} (h:(eU l).all dy=false):cR l=false:=by unfold cR;rw[h];simp
theorem aoT {l:List UInt8} (h1:eU l≠[]) (h2:(eU l).length≤200) (h3:(eU l).all dy=true):cR l=(decide (l=[48])||decide ((eU l).head?≠some 48)):=by
 unfold cR;rw[h3];simp[h1,h2]
def cC (w:ae) (b:Bool) (e:Ending) (w':ae):Prop:=e=.returned (.bool b)∧Below w.heap.size w w'
theorem JW (s:ByteArray) (hs:s.size≤1000000) (w:ae):
 ax ah 242 #[.string s] w (cC w (cR s.data.toList)):=by
 obtain⟨d,hd⟩:∃d:ByteArray,d=⟨(eU s.data.toList).toArray⟩:=⟨_,rfl⟩;have ua:=Tryz.strings_TrimPrefix s ⟨#[45]⟩ w;have e:(⟨#[45]⟩:ByteArray).data.toList=[45]:=rfl;rw[e,TN,←hd] at ua;have wD:=hZ ua;have gR:=Nt hd;have jU:d.size=(eU s.data.toList).length:=by rw[hd];rfl
 have hdd:d.data.toList=eU s.data.toList:=by rw[hd]
 have tY:(eU s.data.toList).length≤1000000:=by
  have:(eU s.data.toList).length≤s.data.toList.length:=by
   cases s.data.toList with
   |nil=>exact aB _
   |cons c l=>rw[vO];split<;>simp
  have h2:s.data.toList.length=s.size:=Array.length_toList;omega
 obtain⟨l,hl⟩:=oQ (s.data.toList);rw[hl] at gR jU tY hdd⊢;have HL:=hZ hl;have VQ:=hZ gR;have HDS:=hZ jU;have G5:=hZ hdd;clear hd ua e hl hdd
 by_cases h1:eU l=[]
 · rw[aoR h1]
   rw[h1] at gR;have b1:d.toList=[]:=gR;clear jU h1 gR
   go_enter Kw,KC
   go_wp2_with (first|(go_at_call 139;refine wD.out.mono ?_;rintro e w' ⟨rfl,rfl⟩)|fail)
   go_ret;exact⟨rfl,bK _ _⟩
 · have b1:d.toList.isEmpty=false:=by rw[gR];simpa using h1
   have b1':¬d.toList=[]:=by rw[gR];exact h1
   by_cases h2:200<(eU l).length
   · rw[aoQ h2]
     (have b2:decide (200<(d.size:Int))=true:=by rw[jU];exact decide_eq_true (by omega));clear jU h1 gR h2
     go_enter Kw,KC
     go_wp2_with (first|(go_at_call 139;refine wD.out.mono ?_;rintro e w' ⟨rfl,rfl⟩)|fail)
     go_ret;exact⟨rfl,bK _ _⟩
   · have b2:decide (200<(d.size:Int))=false:=by rw[jU];exact decide_eq_false (by omega)
     have JL:=Any.strings_Trim_laid Tryz.akZ (by kernel_rfl) d ⟨#[48,49,50,51,52,53,54,55,56,57]⟩ w (by rw[jU];omega) (by decide) (ascii_of_all (by decide));rw[show(⟨#[48,49,50,51,52,53,54,55,56,57]⟩:ByteArray).data.toList=E7 from rfl,G5.out] at JL
     change ax ah 263 _ _ _ at JL
     obtain⟨t,ht⟩:∃t:ByteArray,t=⟨(Um (eU l) E7).toArray⟩:=⟨_,rfl⟩;rw[←ht] at JL;have pF:=Nt ht;have PN:=hZ JL;clear JL ht
     by_cases h3:(eU l).all dy=true
     · rw [aoT h1 (by omega) h3]
       (have b3:t.toList=[]:=by rw[pF];exact(acC _).2 h3);have b3':(!t.toList.isEmpty)=false:=by rw[b3];rfl
       by_cases h4:l=[48]
       · have b4:(s.toList==[48])=true:=by rw[ByteArray.toList_eq,HL.out,h4];rfl
         (have e4:(decide (l=[48])||decide ((eU l).head?≠some 48))=true:=by simp[h4]);rw[e4];clear jU h1 gR h2 pF h3 h4 e4 tY
         go_enter Kw,KC
         go_wp2_with (first|(go_at_call 139;refine wD.out.mono ?_;rintro e w' ⟨rfl,rfl⟩)|(go_at_call 263;refine PN.out.mono ?_;rintro e w2 ⟨rfl,hb⟩)|fail)
         go_ret;exact⟨rfl,hb⟩
       · have b4:(s.toList==[48])=false:=by rw[ByteArray.toList_eq,HL.out];simpa using h4
         (have uZ:0<d.size:=by rw[jU];exact Ov.2 h1);obtain⟨c,hc⟩:=oQ (d[0]'uZ)
         have hh:(eU l).head?=some c:=by
          (have:d.data.toList[0]?=some c:=by rw[←hc];simp[uZ];rfl);rw[G5.out] at this;rw[List.head?_eq_getElem?];exact this
         have e4:(decide (l=[48])||decide ((eU l).head?≠some 48))=((c.toNat:Int) !=48):=by
          rw[hh]
          by_cases q:c=48
          · subst q;simp[h4]
          · have:(c.toNat:Int)≠48:=fun e=>q (Ci.1 (by show c.toNat=48;omega))
            simp[h4,q,this]
         rw[e4];obtain⟨x,hx⟩:=oQ (c.toNat);(have AZ:(d[0]'uZ).toNat=x:=by rw[hc];exact hx);rw[hx];clear jU h1 gR h2 pF h3 h4 e4 tY hc hh hx
         go_enter Kw,KC
         go_wp2_with (first|(go_at_call 139;refine wD.out.mono ?_;rintro e w' ⟨rfl,rfl⟩)|(go_at_call 263;refine PN.out.mono ?_;rintro e w2 ⟨rfl,hb⟩)|fail)
         go_ret;exact⟨rfl,hb⟩
     · have b3:(!t.toList.isEmpty)=true:=by
        (have:t.toList≠[]:=by rw[pF];exact fun e=>h3 ((acC _).1 e));simpa using this
       rw[aoP (by simpa using h3)];clear jU h1 gR h2 pF h3 tY
       go_enter Kw,KC
       go_wp2_with (first|(go_at_call 139;refine wD.out.mono ?_;rintro e w' ⟨rfl,rfl⟩)|(go_at_call 263;refine PN.out.mono ?_;rintro e w2 ⟨rfl,hb⟩)|fail)
       go_ret;exact⟨rfl,hb⟩
theorem acJ (s:ByteArray) (hs:s.size≤1000000) (w:ae):
 ax ah 200 #[.string s] w (cC w (cR s.data.toList)):=by
 have HV:=hZ (JW s hs w);obtain⟨b,hb⟩:=oQ (cR s.data.toList);rw[hb] at HV⊢;clear hb
 go_enter Tryz.func200,Tryz.ntmps200
 go_wp2_with (first|(go_at_call 242;refine HV.out.mono ?_;rintro e w' ⟨rfl,hb⟩)|fail)
 go_ret;exact⟨rfl,hb⟩
end Go.Proofs.YteeifhlhpiimoaaGreatDoor
end
