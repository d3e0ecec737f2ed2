/-
  Contract of package rational's Valid; the like for what stands beside it. Conditions: the texts have at most 1000000 bytes; the table of powers stands.
-/
import Derived.Test.YteeifhlhpiimoaaGreatDoorXAd
import Derived.KernelRfl
import Derived.Test.YteeifhlhpiimoaaGreatDoorXAa
import Derived.ScopeJumps
import Derived.WalkMore
import Derived.Deep.RegionHeld
import Derived.BigRegion
import Derived.Great.BuildSlice
import Derived.Laws.StructEq
set_option maxHeartbeats 8000000
set_option maxRecDepth 100000
open And renaming intro→ay
open Array renaming getElem?_modify→qB
open Go renaming Act→cu,Addr→bI,Calls→ax,Oper→aZ,Operand→ef,Program→eI,TypeId→bF,Value→ai,World→ae,binOp→KI,bodyPost_ret→et,callFunc→xM,execOp→ot,wpList→dT,wpListIn→vV,wpListIn_plain→agj
open Go.Exit renaming jump→D8
open Go.IntKind renaming i64→aQ,wrap_i64→aS
open Go.Oper renaming about→adb,semAt_plain→ade,wp→vQ,wpIn→adf
open Go.Proofs.Tryz renaming func113→Ur,func115→Us,func138→Ks,func167→adq,func68→ad4,func91→UD,ntmps113→UG,ntmps115→UH,ntmps138→Ky,ntmps167→aez,ntmps91→UQ,prog→ah,underlying109→afg
open Go.Result renaming andThen_ok→sX
open Go.RowKit.Below renaming drew→eR,heap_setCell→fA,refl→bK
open Go.Sem renaming run_bind→sY,run_pure→Ef
open Go.World renaming alloc_heap_new→bG,setCell→uw,setRow→qH
open Int renaming add_mul→Oj,lt_trichotomy→Vg,mul_assoc→Ac,mul_comm→xP,mul_le_mul_of_nonneg_right→agq,mul_neg→GI,mul_pos→agr,natCast_add→agt,neg_mul→KM,zero_mul→Ol
open List renaming flatMap_cons→rN,getElem?_append_left→agM,getElem?_append_right→Ot,getElem?_eq_some_iff→dL,map_cons→nM,mem_singleton→fQ,size_toArray→tf,take_of_length_le→eE
open Nat renaming le_of_eq→eJ,le_refl→aB,lt_of_le_of_lt→KQ
section
namespace Go.Proofs.YteeifhlhpiimoaaGreatDoor
open Go Go.RowKit Go.Shelf
attribute [local go_sem] Oper.semAt_some
def gT (n d:List UInt8):Bool:=cR n&&(cR d&&(decide (0<bC d)&&decide (Nat.gcd (bC n).natAbs (bC d).natAbs=1)))
theorem aii (d:List UInt8) (h:cR d=true):FO d [48]=dZ (bC d) 0:=by
 have h1:cR [48]=true:=by decide+kernel
 have h2:bC [48]=0:=by decide+kernel
 unfold FO;rw[h,h1,h2];rfl
theorem XT (g:Nat):bX g=[49]↔g=1:=by
 constructor
 · intro h
   have:=wI g;rw[h] at this;rw[←this];decide+kernel
 · rintro rfl;rw[p8 (by decide)];decide+kernel
theorem fe {W W':ae} {b:Nat} {cs:Array ai} {T:bF} (hb:Below W.heap.size W W') (h:W.heap[b]?=some (.cells cs T (0,0))):W'.heap[b]?=some (.cells cs T (0,0)):=(hb.block b (bt h)).trans h
theorem Kb (n d:ByteArray) (hn:n.size≤1000000) (hd:d.size≤1000000) (w:ae) (hp:dY w):
 ax ah 138 #[.agg #[.string n,.string d]] w (cC w (gT n.data.toList d.data.toList)):=by
 have x0:=bG w (.cells #[.string n,.string d] 29);have b0:Below w.heap.size w (w.alloc (.cells #[.string n,.string d] 29)):=(bK _ _).alloc (aB _) _;have H1:=hZ (fun W=>acJ n hn W);have H2:=hZ (fun W=>acJ d hd W);have X0:=hZ x0;have B0:=hZ b0;have HP:=hZ hp;clear x0 b0 hp
 by_cases h1:cR n.data.toList=true
 case neg=>
  have e:gT n.data.toList d.data.toList=false:=by unfold gT;simp[h1]
  rw[e];rw[show cR n.data.toList=false by simpa using h1] at H1;clear e h1
  go_enter Ks,Ky
  go_wp2_with (first
  |(go_at_call 200;(with_reducible refine(H1.out _).mono ?_);rintro e w1 ⟨rfl,hb⟩;have B1:=aw B0 hb;have X1:=ak hb X0;have y0:=fm X1.out;have y1:=fg X1.out;clear hb)
  |fail)
  go_ret;exact⟨rfl,B1.out⟩
 by_cases h2:cR d.data.toList=true
 case neg=>
  have e:gT n.data.toList d.data.toList=false:=by unfold gT;simp[h2]
  rw[e];rw[h1] at H1;rw[show cR d.data.toList=false by simpa using h2] at H2;clear e h1 h2
  go_enter Ks,Ky
  go_wp2_with (first
  |(go_at_call 200;(with_reducible refine(H1.out _).mono ?_);rintro e w1 ⟨rfl,hb⟩;have B1:=aw B0 hb;have X1:=ak hb X0;have y0:=fm X1.out;have y1:=fg X1.out;clear hb)
  |(go_at_call 200;(with_reducible refine(H2.out _).mono ?_);rintro e w2 ⟨rfl,hb⟩;have B2:=aw B1 hb;have X2:=ak hb X1;have y0:=fm X2.out;have y1:=fg X2.out;clear hb)
  |fail)
  go_ret;exact⟨rfl,B2.out⟩
 have HC:=hZ (fun W=>aaC d ⟨#[48]⟩ hd (by decide+kernel) W);rw[show(⟨#[48]⟩:ByteArray).data.toList=[48] from rfl,aii _ h2] at HC;have G8:=hZ (fun W (hb:Below w.heap.size w W)=>ajo n d hn hd h1 h2 W (HP.out.below hb));rw[h1] at H1;rw[h2] at H2;obtain⟨z,hz⟩:=oQ (dZ (bC d.data.toList) 0);rw[hz] at HC
 by_cases h3:0<bC d.data.toList
 case neg=>
  have e:gT n.data.toList d.data.toList=false:=by unfold gT;simp[h3]
  rw[e]
  have d3:decide (z≤0)=true:=by
   rw[←hz];unfold dZ;simp;split<;>(try split)<;>omega
  clear e h1 h2 h3 hz
  go_enter Ks,Ky
  go_wp2_with (first
  |(go_at_call 200;(with_reducible refine(H1.out _).mono ?_);rintro e w1 ⟨rfl,hb⟩;have B1:=aw B0 hb;have X1:=ak hb X0;have y0:=fm X1.out;have y1:=fg X1.out;clear hb)
  |(go_at_call 200;(with_reducible refine(H2.out _).mono ?_);rintro e w2 ⟨rfl,hb⟩;have B2:=aw B1 hb;have X2:=ak hb X1;have y0:=fm X2.out;have y1:=fg X2.out;clear hb)
  |(go_at_call 141;(with_reducible refine(HC.out _).mono ?_);rintro e w3 ⟨rfl,hb⟩;have B3:=aw B2 hb;have X3:=ak hb X2;have y0:=fm X3.out;have y1:=fg X3.out;clear hb)
  |fail)
  go_ret;exact⟨rfl,B3.out⟩
 have d3:decide (z≤0)=false:=by
  rw[←hz];unfold dZ;simp;split<;>(try split)<;>omega
 obtain⟨g,hg⟩:=oQ (Nat.gcd (bC n.data.toList).natAbs (bC d.data.toList).natAbs);have e:gT n.data.toList d.data.toList=decide (g=1):=by unfold gT;simp[h1,h2,h3,hg]
 rw[e];rw[hg] at G8;obtain⟨G,hG⟩:∃G:ByteArray,G=⟨(bX g).toArray⟩:=⟨_,rfl⟩;unfold OG at G8;rw[←hG] at G8
 by_cases ep:g=1
 · have d4:(G.toList==[49])=true:=by
    rw[Nt hG,(XT g).2 ep,beq_iff_eq]
   rw[decide_eq_true ep];clear e h1 h2 h3 hz hg hG ep
   go_enter Ks,Ky
   go_wp2_with (first
   |(go_at_call 200;(with_reducible refine(H1.out _).mono ?_);rintro e w1 ⟨rfl,hb⟩;have B1:=aw B0 hb;have X1:=ak hb X0;have y0:=fm X1.out;have y1:=fg X1.out;clear hb)
   |(go_at_call 200;(with_reducible refine(H2.out _).mono ?_);rintro e w2 ⟨rfl,hb⟩;have B2:=aw B1 hb;have X2:=ak hb X1;have y0:=fm X2.out;have y1:=fg X2.out;clear hb)
   |(go_at_call 141;(with_reducible refine(HC.out _).mono ?_);rintro e w3 ⟨rfl,hb⟩;have B3:=aw B2 hb;have X3:=ak hb X2;have y0:=fm X3.out;have y1:=fg X3.out;clear hb)
   |(go_at_call 201;(with_reducible refine(G8.out _ B3.out).mono ?_);rintro e w4 ⟨rfl,hb⟩;have B4:=aw B3 hb;clear hb)
   |fail)
   go_ret;exact⟨rfl,B4.out⟩
 · have d4:(G.toList==[49])=false:=by
    rw[Nt hG,beq_eq_false_iff_ne];intro h;exact ep ((XT g).1 h)
   rw[decide_eq_false ep];clear e h1 h2 h3 hz hg hG ep
   go_enter Ks,Ky
   go_wp2_with (first
   |(go_at_call 200;(with_reducible refine(H1.out _).mono ?_);rintro e w1 ⟨rfl,hb⟩;have B1:=aw B0 hb;have X1:=ak hb X0;have y0:=fm X1.out;have y1:=fg X1.out;clear hb)
   |(go_at_call 200;(with_reducible refine(H2.out _).mono ?_);rintro e w2 ⟨rfl,hb⟩;have B2:=aw B1 hb;have X2:=ak hb X1;have y0:=fm X2.out;have y1:=fg X2.out;clear hb)
   |(go_at_call 141;(with_reducible refine(HC.out _).mono ?_);rintro e w3 ⟨rfl,hb⟩;have B3:=aw B2 hb;have X3:=ak hb X2;have y0:=fm X3.out;have y1:=fg X3.out;clear hb)
   |(go_at_call 201;(with_reducible refine(G8.out _ B3.out).mono ?_);rintro e w4 ⟨rfl,hb⟩;have B4:=aw B3 hb;clear hb)
   |fail)
   go_ret;exact⟨rfl,B4.out⟩
def jj (x y:Int):Int:=if x<y then -1 else if y<x then 1 else 0
theorem AI {x y:Int} (h:x<y):jj x y=-1:=by unfold jj;rw[if_pos h]
theorem AH {x y:Int} (h:y<x):jj x y=1:=by unfold jj;rw[if_neg (by omega),if_pos h]
theorem CZ {x y:Int} (h:x=y):jj x y=0:=by unfold jj;rw[if_neg (by omega),if_neg (by omega)]
theorem aim (x y:Int):jj x y=-jj y x:=by
 rcases Vg x y with h|h|h
 · rw[AI h,AH h]
 · rw[CZ h,CZ h.symm];rfl
 · rw[AH h,AI h];rfl
theorem XH {a c p q r s b d:Int} (hb:0<b) (hd:0<d) (ha:a=p*b+r) (hr:r<b) (hc:c=q*d+s) (hs:0≤s) (kz:p<q):a*d<c*b:=by
 have h1:(p+1)*b≤q*b:=agq (by omega) (by omega);have h2:a<q*b:=by rw[Oj] at h1;omega
 have h3:a*d<q*b*d:=Int.mul_lt_mul_of_pos_right h2 hd;have h4:q*d*b≤c*b:=agq (by omega) (by omega);have e:q*b*d=q*d*b:=by rw[Ac,xP b d,←Ac]
 omega
theorem XI {a c p q r s b d:Int} (hb:0<b) (hd:0<d) (ha:a=p*b+r) (mG:0≤r) (hr:r<b) (hc:c=q*d+s) (bU:0≤s) (hs:s<d):
 jj (a*d) (c*b)=if jj p q≠0 then jj p q else if r=0∧s=0 then 0 else if r=0 then -1 else if s=0 then 1 else -jj (b*s) (d*r):=by
 rcases Vg p q with h|h|h
 · rw[AI h,if_pos (by decide),AI (XH hb hd ha hr hc bU h)]
 · subst h
   rw[CZ rfl,if_neg (by decide)];(have e:p*b*d=p*d*b:=by rw[Ac,xP b d,←Ac]);(have e1:a*d=p*d*b+r*d:=by rw[ha,Oj,e]);(have e2:c*b=p*d*b+s*b:=by rw[hc,Oj]);rw[e1,e2]
   by_cases r0:r=0
   · subst r0
     by_cases s0:s=0
     · subst s0;rw[if_pos ⟨rfl,rfl⟩,Ol,Ol];exact CZ rfl
     · rw[if_neg (fun q=>s0 q.2),if_pos rfl]
       have:0<s*b:=agr (by omega) hb;exact AI (by rw[Ol];omega)
   · rw[if_neg (fun q=>r0 q.1),if_neg r0]
     by_cases s0:s=0
     · subst s0
       rw[if_pos rfl];have:0<r*d:=agr (by omega) hd;exact AH (by rw[Ol];omega)
     · rw[if_neg s0,←aim,xP d r,xP b s]
       rcases Vg (r*d) (s*b) with h|h|h
       · rw[AI (by omega),AI h]
       · rw[CZ (by omega),CZ h]
       · rw[AH (by omega),AH h]
 · rw[AH h,if_pos (by decide),AH (XH hd hb hc hs ha mG h)]
theorem apc {P:eI} {a:cu} {w:ae} {Q:Exit→cu→ae→Prop} {c body:Code} (l:Nat) (J:cu→ae→Prop) (μ:cu→ae→Nat) (hf:findLabel c l=some (Code.skip.seq body))
 (pass:∀a w,J a w→body.wp P (D8 l (fun a' w'=>J a' w'∧μ a' w'<μ a w) Q) a w)
 (first:(∀a w,J a w→body.wp P (D8 l J Q) a w)→c.wp P (D8 l J Q) a w):(Code.scope c).wp P Q a w:=
 wp_scope_jumps l J μ hf (first fun a w h=>Code.wp_mono (fun e a' w' q=>by
  cases e with
  |goto l'=>exact⟨q.1,q.2.1⟩
  |normal=>exact q
  |exit id=>exact q
  |ret=>exact q
  |panic ch=>exact q
  |outgrown=>exact q) (pass a w h)) fun a w h=>wp_seq (wp_skip (pass a w h))
structure ahd (x y:Int) (pt rt:ByteArray):Prop where
 vp:cR pt.data.toList=true
 vr:cR rt.data.toList=true
 sp:pt.size≤1000000
 sr:rt.size≤1000000
 eq:x=bC pt.data.toList*y+bC rt.data.toList
 r0:0≤bC rt.data.toList
 rl:bC rt.data.toList<y
 z:(rt.toList==[48])=decide (bC rt.data.toList=0)
theorem XU (g:Nat):bX g=[48]↔g=0:=by
 constructor
 · intro h
   have:=wI g;rw[h] at this;rw[←this];decide+kernel
 · rintro rfl;rw[p8 (by decide)];decide+kernel
theorem aiN {x y:Int} (hy:0<y):x=(if decide (x<0) then -((sw (decide (x<0)) x.natAbs y.natAbs:Nat):Int) else(sw (decide (x<0)) x.natAbs y.natAbs:Nat))*y+(sx (decide (x<0)) x.natAbs y.natAbs:Nat)∧(sx (decide (x<0)) x.natAbs y.natAbs:Int)<y:=by
 obtain⟨b,hb⟩:=oQ (y.natAbs);obtain⟨a,ha⟩:=oQ (x.natAbs);obtain rfl:y=(b:Int):=by omega
 rw[hb,ha];have dt:0<b:=by omega
 have h1:=Nat.div_add_mod a b;have h2:=Nat.mod_lt a dt;obtain⟨q,hq⟩:=oQ (a/b);obtain⟨r,hr⟩:=oQ (a%b);unfold sw sx;rw[hq,hr] at h1⊢;rw[hr] at h2;have e:(a:Int)=(q:Int)*(b:Int)+(r:Int):=by rw[←h1,agt,Int.natCast_mul,xP]
 by_cases hx:x<0
 · rw[decide_eq_true hx]
   obtain rfl:x=-(a:Int):=by omega
   by_cases h0:0<r
   · simp only[h0,decide_true,Bool.and_self,if_true]
     constructor
     · rw[e,agt,KM,Oj];omega
     · omega
   · obtain rfl:r=0:=by omega
     simp only[Nat.lt_irrefl,decide_false,Bool.and_false,Bool.false_eq_true,if_false,if_true];constructor
     · rw[e,KM];omega
     · omega
 · rw[decide_eq_false hx]
   (obtain rfl:x=(a:Int):=by omega);simp only[Bool.false_and,Bool.false_eq_true,if_false];exact⟨e,by omega⟩
theorem aks {z:Int} (h:(bX z.natAbs).length≤200):(gA z).length≤1000000:=by
 unfold gA
 split
 · rw[List.length_cons];omega
 · omega
theorem X' (s t:ByteArray) (hs:s.size≤1000000) (ht:t.size≤1000000) (h1:cR s.data.toList=true) (h2:cR t.data.toList=true) (h3:0<bC t.data.toList):
 ∃pt rt,ahd (bC s.data.toList) (bC t.data.toList) pt rt∧∀W,dY W→ax ah 140 #[.string s,.string t] W fun e w'=>e=.returned (.tuple #[.string pt,.string rt,.int .i64 0])∧Below W.heap.size W w':=by
 refine⟨_,_,?_,fun W hp=>aiO s t hs ht h1 h2 h3 W hp⟩;obtain⟨e1,e2⟩:=aiN (x:=bC s.data.toList) h3;have zf:0<(bC t.data.toList).natAbs:=by omega
 have hq:=C8 h1 (X5 (decide (bC s.data.toList<0)) _ _ zf);have hr:=C8 h2 (X8 (decide (bC s.data.toList<0)) (bC s.data.toList).natAbs _ zf);obtain⟨p,hp⟩:=oQ (decide (bC s.data.toList<0));rw[hp] at e1 e2 hq hr⊢;obtain⟨q,DM⟩:=oQ (sw p (bC s.data.toList).natAbs (bC t.data.toList).natAbs);obtain⟨r,DN⟩:=oQ (sx p (bC s.data.toList).natAbs (bC t.data.toList).natAbs);rw[DM] at e1 hq⊢;rw[DN] at e1 e2 hr⊢;rw[anj];obtain⟨z,hz⟩:=oQ ((if p=true then -(q:Int) else q));rw[hz] at e1⊢;have hzq:z.natAbs=q:=by rw[←hz];split<;>omega
 have t1:=Nv (z:=z) (by rw[hzq];exact hq);have t2:=Nv (z:=(r:Int)) (by simpa using hr);have hri:gA (r:Int)=bX r:=by unfold gA;rw[if_neg (by omega)];rfl
 rw[hri] at t2
 exact⟨t1.1,t2.1,by show(gA z).toArray.size≤_;rw[tf];exact aks (by rw[hzq];exact hq),by show(bX r).toArray.size≤_;rw[tf];omega,
  by rw[show(⟨(gA z).toArray⟩:ByteArray).data.toList=gA z from rfl,show(⟨(bX r).toArray⟩:ByteArray).data.toList=bX r from rfl,t1.2,t2.2];exact e1,by rw[show(⟨(bX r).toArray⟩:ByteArray).data.toList=bX r from rfl,t2.2];omega,
  by rw[show(⟨(bX r).toArray⟩:ByteArray).data.toList=bX r from rfl,t2.2];exact e2,by
   rw[show(⟨(bX r).toArray⟩:ByteArray).data.toList=bX r from rfl,t2.2,ByteArray.toList_mk]
   by_cases h:r=0
   · rw[decide_eq_true (by omega),(XU r).2 h];rfl
   · rw[decide_eq_false (by omega),beq_eq_false_iff_ne];intro e;exact h ((XU r).1 e)⟩
def ahc (w:ae) (b0 b1:Nat) (n10 d10 n20 d20:ByteArray) (z:Int) (a:cu) (W:ae):Prop:=
 ∃(n1 d1 n2 d2:ByteArray) (sg:Int) (u6 u7 u8 u9 u10 u11 u12 u13 u14 u15 u16 u17 u18 u19 u20 u21 u22 u23 u24 u25 u26 u27 u28 u29 u30 u31 u32 u33 u34 u35 u36 u37 u38 u39 u40 u41 u42 u43 u44 u45 u46 u47 u48 u49 u50 u51 u52 u53 u54 u55 u56 u57 u58 u59 u60 u61 u62 u63 u64 u65 u66 u67 u68 u69 u70 u71 u72 u73:ai),a={tmps:=#[.agg #[.string n10,.string d10],.agg #[.string n20,.string d20],.pointer (some ⟨b0,0,none⟩),.pointer (some ⟨b1,0,none⟩),.int .i64 0,.int .i64 sg,u6,u7,u8,u9,u10,u11,u12,u13,u14,u15,u16,u17,u18,u19,u20,u21,u22,u23,u24,u25,u26,u27,u28,u29,u30,u31,u32,u33,u34,u35,u36,u37,u38,u39,u40,u41,u42,u43,u44,u45,u46,u47,u48,u49,u50,u51,u52,u53,u54,u55,u56,u57,u58,u59,u60,u61,u62,u63,u64,u65,u66,u67,u68,u69,u70,u71,u72,u73],defers:=[]}∧
  W.heap[b0]?=some (.cells #[.string n1,.string d1] 29 (0,0))∧W.heap[b1]?=some (.cells #[.string n2,.string d2] 29 (0,0))∧
  Hid ((n1.size≤1000000∧d1.size≤1000000∧n2.size≤1000000∧d2.size≤1000000)∧(cR n1.data.toList=true∧cR d1.data.toList=true∧cR n2.data.toList=true∧cR d2.data.toList=true)∧0<bC d1.data.toList∧0<bC d2.data.toList)∧
  Hid ((sg=1∨sg=-1)∧sg*jj (bC n1.data.toList*bC d2.data.toList) (bC n2.data.toList*bC d1.data.toList)=z)∧Below w.heap.size w W
def OF (b0:Nat) (W:ae):Nat:=match W.cell? ⟨b0,1,none⟩ with|some (.string d)=>(bC d.data.toList).natAbs|_=>0
theorem Eo {b0:Nat} {W:ae} {d:ByteArray} (h:W.cell? ⟨b0,1,none⟩=some (.string d)):OF b0 W=(bC d.data.toList).natAbs:=by unfold OF;rw[h]
theorem amh (n10 d10 n20 d20:ByteArray) (cO:n10.size≤1000000) (fY:d10.size≤1000000) (cN:n20.size≤1000000) (gQ:d20.size≤1000000) (h1:gT n10.data.toList d10.data.toList=true) (h2:gT n20.data.toList d20.data.toList=true) (w:ae) (hp:dY w):
 ax ah 90 #[.agg #[.string n10,.string d10],.agg #[.string n20,.string d20]] w fun e w'=>e=.returned (.int .i64 (jj (bC n10.data.toList*bC d20.data.toList) (bC n20.data.toList*bC d10.data.toList)))∧Below w.heap.size w w':=by
 have H1:=hZ (fun W (hb:Below w.heap.size w W)=>Kb n10 d10 cO fY W (hp.below hb));have H2:=hZ (fun W (hb:Below w.heap.size w W)=>Kb n20 d20 cN gQ W (hp.below hb));rw[h1] at H1;rw[h2] at H2;have HP:=hZ hp;obtain⟨z,hz⟩:=oQ (jj (bC n10.data.toList*bC d20.data.toList) (bC n20.data.toList*bC d10.data.toList));rw[hz];have HZ:=hZ hz;have lM:=hZ (ay h1 h2);obtain⟨k1,k2,k3,k4⟩:=kV w #[.string n10,.string d10] #[.string n20,.string d20] 29 29;have K1:=hZ k1;have K2:=hZ k2;have K4:=hZ k4;have HS:=hZ (ay (ay cO fY) (ay cN gQ));clear hz hp k1 k2 k3 k4 h1 h2 cO fY cN gQ
 go_enter Tryz.func90,Tryz.ntmps90
 go_wp2;refine apc 0 (ahc w w.heap.size (w.heap.size+1) n10 d10 n20 d20 z) (fun _ W=>OF w.heap.size W) rfl ?pass ?first
 case first=>
  intro aj7
  go_wp2_with (first
   |(go_at_call 138;(with_reducible refine(H1.out _ K4.out).mono ?_);rintro e w1 ⟨rfl,hb⟩;have B1:=aw K4 hb;have X1:=ak hb K1;have Y1:=ak hb K2;have y0:=fm Y1.out;have y1:=fg Y1.out;clear hb)
   |(go_at_call 138;(with_reducible refine(H2.out _ B1.out).mono ?_);rintro e w2 ⟨rfl,hb⟩;have B2:=aw B1 hb;have X2:=ak hb X1;have Y2:=ak hb Y1;clear hb)
   |fail)
  go_step3
  rename_i hK
  refine hK _ _ (aj7 _ _ ⟨n10,d10,n20,d20,1,_,_,_,_,_,_,_,_,_,_,_,_,_,_,_,_,_,_,_,_,_,_,_,_,_,_,_,_,_,_,_,_,_,_,_,_,_,_,_,_,_,_,_,_,_,_,_,_,_,_,_,_,_,_,_,_,_,_,_,_,_,_,_,_,_,_,_,_,rfl,X2.out,Y2.out,hZ ?_,hZ ⟨.inl rfl,by rw[Int.one_mul];exact HZ.out⟩,B2.out⟩);have h:=lM.out;have hs:=HS.out;unfold gT at h;simp only[Bool.and_eq_true,decide_eq_true_eq] at h;exact⟨⟨hs.1.1,hs.1.2,hs.2.1,hs.2.2⟩,⟨h.1.1,h.1.2.1,h.2.1,h.2.2.1⟩,h.1.2.2.1,h.2.2.2.1⟩
 case pass=>
  rintro a W ⟨n1,d1,n2,d2,sg,u6,u7,u8,u9,u10,u11,u12,u13,u14,u15,u16,u17,u18,u19,u20,u21,u22,u23,u24,u25,u26,u27,u28,u29,u30,u31,u32,u33,u34,u35,u36,u37,u38,u39,u40,u41,u42,u43,u44,u45,u46,u47,u48,u49,u50,u51,u52,u53,u54,u55,u56,u57,u58,u59,u60,u61,u62,u63,u64,u65,u66,u67,u68,u69,u70,u71,u72,u73,rfl,x0,y0,hv,hsg,hB⟩;obtain⟨⟨s1,s2,s3,s4⟩,⟨v1,v2,v3,v4⟩,p1,p2⟩:=hv.out;obtain⟨Bw,qu⟩:=hsg.out;obtain⟨pt,rt,E1,Yz⟩:=X' n1 d1 s1 s2 v1 v2 p1;obtain⟨qt,st,E2,YA⟩:=X' n2 d2 s3 s4 v3 v4 p2;have bW:=XI p1 p2 E1.eq E1.r0 E1.rl E2.eq E2.r0 E2.rl;have C1:=hZ Yz;have C2:=hZ YA;have C3:=hZ (fun W=>aaC pt qt E1.sp E2.sp W);have Zz:FO pt.data.toList qt.data.toList=jj (bC pt.data.toList) (bC qt.data.toList):=by unfold FO;rw[E1.vp,E2.vp];rfl
  rw[Zz] at C3;obtain⟨c,hc⟩:=oQ (jj (bC pt.data.toList) (bC qt.data.toList));rw[hc] at C3 bW;have Ro:c=-1∨c=0∨c=1:=by rw[←hc];unfold jj;split;exact .inl rfl;split;exact .inr (.inr rfl);exact .inr (.inl rfl)
  have X0:=hZ x0;have Y0:=hZ y0;have HB:=hZ hB;have x0:=fm X0.out;have x1:=fg X0.out;have DO:=E1.z;have aU:=E2.z;have KK:=hZ (ay E1 E2);rw[bW] at qu;clear bW Zz hc s1 s2 s3 s4 v1 v2 v3 v4 p1 p2 y0 hB E1 E2 H1 H2 HZ lM HS K1 K2 K4 Yz YA;have D5:aQ.wrap (-sg)=-sg:=by rw[aS];rcases Bw with rfl|rfl<;>rfl
  by_cases lz:c=0
  case neg=>
   rw[if_pos lz] at qu;(have wm:aQ.wrap (sg*c)=z:=by rw[←qu,aS];rcases Bw with rfl|rfl<;>rcases Ro with rfl|rfl|rfl<;>rfl);(have dg:(c !=0)=true:=by simpa using lz);clear Bw qu Ro lz DO aU D5
   go_wp2_with (first
   |(go_at_call 140;(with_reducible refine(C1.out _ (HP.out.below HB.out)).mono ?_);rintro e w1 ⟨rfl,hb⟩;have B1:=aw HB hb;have X1:=ak hb X0;have Y1:=ak hb Y0;have y0:=fm Y1.out;have y1:=fg Y1.out;clear hb)
   |(go_at_call 140;(with_reducible refine(C2.out _ (HP.out.below B1.out)).mono ?_);rintro e w2 ⟨rfl,hb⟩;have B2:=aw B1 hb;have X2:=ak hb X1;have Y2:=ak hb Y1;clear hb)
   | (go_at_call 141;(with_reducible refine(C3.out _).mono ?_);rintro e w3 ⟨rfl,hb⟩;have B3:=aw B2 hb;have X3:=ak hb X2;have Y3:=ak hb Y2;have y0:=fm Y3.out;have y1:=fg Y3.out;have x0:=fm X3.out;have x1:=fg X3.out
      have f0:=cY X3.out 0;have f1:=cY X3.out 1;have g0:=cY Y3.out 0;have g1:=cY Y3.out 1;clear hb)
   |fail)
   simp only[D8];go_ret;exact⟨rfl,B3.out⟩
  subst lz;rw[if_neg (by simp)] at qu;have dg:((0:Int) !=0)=false:=by decide
  clear Ro
  by_cases mG:bC rt.data.toList=0
  · have e1:(rt.toList==[48])=true:=by rw[DO,decide_eq_true mG]
    by_cases bU:bC st.data.toList=0
    · have e2:(st.toList==[48])=true:=by rw[aU,decide_eq_true bU]
      rw[if_pos ⟨mG,bU⟩,Int.mul_zero] at qu;subst qu;clear Bw DO aU D5 mG bU
      go_wp2_with (first
    |(go_at_call 140;(with_reducible refine(C1.out _ (HP.out.below HB.out)).mono ?_);rintro e w1 ⟨rfl,hb⟩;have B1:=aw HB hb;have X1:=ak hb X0;have Y1:=ak hb Y0;have y0:=fm Y1.out;have y1:=fg Y1.out;clear hb)
    |(go_at_call 140;(with_reducible refine(C2.out _ (HP.out.below B1.out)).mono ?_);rintro e w2 ⟨rfl,hb⟩;have B2:=aw B1 hb;have X2:=ak hb X1;have Y2:=ak hb Y1;clear hb)
    | (go_at_call 141;(with_reducible refine(C3.out _).mono ?_);rintro e w3 ⟨rfl,hb⟩;have B3:=aw B2 hb;have X3:=ak hb X2;have Y3:=ak hb Y2;have y0:=fm Y3.out;have y1:=fg Y3.out;have x0:=fm X3.out;have x1:=fg X3.out
       have f0:=cY X3.out 0;have f1:=cY X3.out 1;have g0:=cY Y3.out 0;have g1:=cY Y3.out 1;clear hb)
    | fail)
      simp only[D8];go_ret;exact⟨rfl,B3.out⟩
    · have e2:(st.toList==[48])=false:=by rw[aU,decide_eq_false bU]
      rw[if_neg (fun q=>bU q.2),if_pos mG] at qu;(have wn:aQ.wrap (-sg)=z:=by rw[D5,←qu];omega);clear Bw qu DO aU D5 mG bU
      go_wp2_with (first
    |(go_at_call 140;(with_reducible refine(C1.out _ (HP.out.below HB.out)).mono ?_);rintro e w1 ⟨rfl,hb⟩;have B1:=aw HB hb;have X1:=ak hb X0;have Y1:=ak hb Y0;have y0:=fm Y1.out;have y1:=fg Y1.out;clear hb)
    |(go_at_call 140;(with_reducible refine(C2.out _ (HP.out.below B1.out)).mono ?_);rintro e w2 ⟨rfl,hb⟩;have B2:=aw B1 hb;have X2:=ak hb X1;have Y2:=ak hb Y1;clear hb)
    | (go_at_call 141;(with_reducible refine(C3.out _).mono ?_);rintro e w3 ⟨rfl,hb⟩;have B3:=aw B2 hb;have X3:=ak hb X2;have Y3:=ak hb Y2;have y0:=fm Y3.out;have y1:=fg Y3.out;have x0:=fm X3.out;have x1:=fg X3.out
       have f0:=cY X3.out 0;have f1:=cY X3.out 1;have g0:=cY Y3.out 0;have g1:=cY Y3.out 1;clear hb)
    | fail)
      simp only[D8];go_ret;exact⟨rfl,B3.out⟩
  · have e1:(rt.toList==[48])=false:=by rw[DO,decide_eq_false mG]
    by_cases bU:bC st.data.toList=0
    · have e2:(st.toList==[48])=true:=by rw[aU,decide_eq_true bU]
      rw[if_neg (fun q=>mG q.1),if_neg mG,if_pos bU,Int.mul_one] at qu;subst qu;clear Bw DO aU D5 mG bU
      go_wp2_with (first
    |(go_at_call 140;(with_reducible refine(C1.out _ (HP.out.below HB.out)).mono ?_);rintro e w1 ⟨rfl,hb⟩;have B1:=aw HB hb;have X1:=ak hb X0;have Y1:=ak hb Y0;have y0:=fm Y1.out;have y1:=fg Y1.out;clear hb)
    |(go_at_call 140;(with_reducible refine(C2.out _ (HP.out.below B1.out)).mono ?_);rintro e w2 ⟨rfl,hb⟩;have B2:=aw B1 hb;have X2:=ak hb X1;have Y2:=ak hb Y1;clear hb)
    | (go_at_call 141;(with_reducible refine(C3.out _).mono ?_);rintro e w3 ⟨rfl,hb⟩;have B3:=aw B2 hb;have X3:=ak hb X2;have Y3:=ak hb Y2;have y0:=fm Y3.out;have y1:=fg Y3.out;have x0:=fm X3.out;have x1:=fg X3.out
       have f0:=cY X3.out 0;have f1:=cY X3.out 1;have g0:=cY Y3.out 0;have g1:=cY Y3.out 1;clear hb)
    | fail)
      simp only[D8];go_ret;exact⟨rfl,B3.out⟩
    · have e2:(st.toList==[48])=false:=by rw[aU,decide_eq_false bU]
      rw[if_neg (fun q=>mG q.1),if_neg mG,if_neg bU] at qu;have uP:=hZ (ay Bw qu);have tB:=hZ (ay mG bU);obtain⟨Nc,Sn⟩:=oQ (-sg);(have wn:aQ.wrap (-sg)=Nc:=by rw[D5,Sn]);have EH:=hZ Sn;clear Bw qu DO aU D5 mG bU Sn
      go_wp2_with (first
    |(go_at_call 140;(with_reducible refine(C1.out _ (HP.out.below HB.out)).mono ?_);rintro e w1 ⟨rfl,hb⟩;have B1:=aw HB hb;have X1:=ak hb X0;have Y1:=ak hb Y0;have y0:=fm Y1.out;have y1:=fg Y1.out;clear hb)
    |(go_at_call 140;(with_reducible refine(C2.out _ (HP.out.below B1.out)).mono ?_);rintro e w2 ⟨rfl,hb⟩;have B2:=aw B1 hb;have X2:=ak hb X1;have Y2:=ak hb Y1;clear hb)
    | (go_at_call 141;(with_reducible refine(C3.out _).mono ?_);rintro e w3 ⟨rfl,hb⟩;have B3:=aw B2 hb;have X3:=ak hb X2;have Y3:=ak hb Y2;have y0:=fm Y3.out;have y1:=fg Y3.out;have x0:=fm X3.out;have x1:=fg X3.out
       have f0:=cY X3.out 0;have f1:=cY X3.out 1;have g0:=cY Y3.out 0;have g1:=cY Y3.out 1;clear hb)
    | fail)
      refine cJ (fun _=>True) trivial fun hHeld=>?_;refine bg 0 2 4 6 ?_;refine eC 8 9 ?_;refine rd [1,5] ?_;refine rc (fun K hK=>?_) ?_
      ·
       go_simp;refine kk hK trivial fun hHeld=>?_;clear hK K;refine tk 3 ?_;refine rd [5,10] ?_;refine rc (fun K hK=>?_) ?_
       ·
        go_simp;refine kk hK trivial fun hHeld=>?_;clear hK K;refine tk 7 ?_;refine rE 10 fun K hK=>?_;go_simp;refine kk hK trivial fun hHeld=>?_;clear hK K;refine rE 11 fun K hK=>?_;go_simp;refine kk hK trivial fun hHeld=>?_;clear hK K;refine tk 12 ?_;refine dn ?_;go_wp2
        go_step3
        have HT:oD w.heap.size 29 29 (.string n1) (.string d1) (.string n2) (.string d2) w3.drew:=⟨X3.out,Y3.out⟩;have hT:=HT.put (.string d1) (.string rt) (.string d2) (.string st);obtain⟨E1,E2⟩:=KK.out;obtain⟨⟨s1,s2,s3,s4⟩,⟨v1,v2,v3,v4⟩,p1,p2⟩:=hv.out;have mG:=tB.out.1;have bU:=tB.out.2;have Z9:=E1.r0;have pE:=E1.rl;have aP:=E2.r0;refine⟨rfl,⟨d1,rt,d2,st,Nc,_,_,_,_,_,_,_,_,_,_,_,_,_,_,_,_,_,_,_,_,_,_,_,_,_,_,_,_,_,_,_,_,_,_,_,_,_,_,_,_,_,_,_,_,_,_,_,_,_,_,_,_,_,_,_,_,_,_,_,_,_,_,_,_,_,_,_,_,rfl,hT.1,hT.2,hZ ⟨⟨s2,E1.sr,s4,E2.sr⟩,⟨v2,E1.vr,v4,E2.vr⟩,by omega,by omega⟩,hZ ⟨?_,?_⟩,(((((eR B3.out).setCell (p:=⟨w.heap.size,0,none⟩) (aB _) _).setCell (p:=⟨w.heap.size,1,none⟩) (aB _) _).setCell (p:=⟨w.heap.size+1,0,none⟩) (by simp) _).setCell (p:=⟨w.heap.size+1,1,none⟩) (by simp) _)⟩,?_⟩
        · rw[←EH.out];rcases uP.out.1 with e|e<;>rw[e];exact .inr rfl;exact .inl rfl
        · rw[←EH.out,←uP.out.2,KM,GI]
        · have e1:=Eo hT.facts.1.2.1
          rw[Eo (fg X0.out)];exact KQ (eJ e1) (by omega)
       refine dx fun K hK=>?_;go_simp;refine kk hK trivial fun hHeld=>?_;clear hK K;refine rE 5 fun K hK=>?_;go_simp;refine kk hK trivial fun hHeld=>?_;clear hK K;refine tk 7 ?_;refine rE 11 fun K hK=>?_;go_simp;refine kk hK trivial fun hHeld=>?_;clear hK K;refine tk 12 ?_;refine dn ?_;go_wp2
       go_step3
       have HT:oD w.heap.size 29 29 (.string n1) (.string d1) (.string n2) (.string d2) w3.drew:=⟨X3.out,Y3.out⟩;have hT:=HT.put (.string d1) (.string rt) (.string d2) (.string st);obtain⟨E1,E2⟩:=KK.out;obtain⟨⟨s1,s2,s3,s4⟩,⟨v1,v2,v3,v4⟩,p1,p2⟩:=hv.out;have mG:=tB.out.1;have bU:=tB.out.2;have Z9:=E1.r0;have pE:=E1.rl;have aP:=E2.r0;refine⟨rfl,⟨d1,rt,d2,st,Nc,_,_,_,_,_,_,_,_,_,_,_,_,_,_,_,_,_,_,_,_,_,_,_,_,_,_,_,_,_,_,_,_,_,_,_,_,_,_,_,_,_,_,_,_,_,_,_,_,_,_,_,_,_,_,_,_,_,_,_,_,_,_,_,_,_,_,_,_,rfl,hT.1,hT.2,hZ ⟨⟨s2,E1.sr,s4,E2.sr⟩,⟨v2,E1.vr,v4,E2.vr⟩,by omega,by omega⟩,hZ ⟨?_,?_⟩,(((((eR B3.out).setCell (p:=⟨w.heap.size,0,none⟩) (aB _) _).setCell (p:=⟨w.heap.size,1,none⟩) (aB _) _).setCell (p:=⟨w.heap.size+1,0,none⟩) (by simp) _).setCell (p:=⟨w.heap.size+1,1,none⟩) (by simp) _)⟩,?_⟩
       · rw[←EH.out];rcases uP.out.1 with e|e<;>rw[e];exact .inr rfl;exact .inl rfl
       · rw[←EH.out,←uP.out.2,KM,GI]
       · have e1:=Eo hT.facts.1.2.1
         rw[Eo (fg X0.out)];exact KQ (eJ e1) (by omega)
      refine dx fun K hK=>?_;go_simp;refine kk hK trivial fun hHeld=>?_;clear hK K;refine tk 7 ?_;refine rE 1 fun K hK=>?_;go_simp;refine kk hK trivial fun hHeld=>?_;clear hK K;refine tk 3 ?_;refine rE 10 fun K hK=>?_;go_simp;refine kk hK trivial fun hHeld=>?_;clear hK K;refine rE 11 fun K hK=>?_;go_simp;refine kk hK trivial fun hHeld=>?_;clear hK K;refine tk 12 ?_;refine dn ?_;go_wp2
      go_step3
      have HT:oD w.heap.size 29 29 (.string n1) (.string d1) (.string n2) (.string d2) w3.drew:=⟨X3.out,Y3.out⟩;have hT:=HT.put (.string d1) (.string rt) (.string d2) (.string st);obtain⟨E1,E2⟩:=KK.out;obtain⟨⟨s1,s2,s3,s4⟩,⟨v1,v2,v3,v4⟩,p1,p2⟩:=hv.out;have mG:=tB.out.1;have bU:=tB.out.2;have Z9:=E1.r0;have pE:=E1.rl;have aP:=E2.r0;refine⟨rfl,⟨d1,rt,d2,st,Nc,_,_,_,_,_,_,_,_,_,_,_,_,_,_,_,_,_,_,_,_,_,_,_,_,_,_,_,_,_,_,_,_,_,_,_,_,_,_,_,_,_,_,_,_,_,_,_,_,_,_,_,_,_,_,_,_,_,_,_,_,_,_,_,_,_,_,_,_,rfl,hT.1,hT.2,hZ ⟨⟨s2,E1.sr,s4,E2.sr⟩,⟨v2,E1.vr,v4,E2.vr⟩,by omega,by omega⟩,hZ ⟨?_,?_⟩,(((((eR B3.out).setCell (p:=⟨w.heap.size,0,none⟩) (aB _) _).setCell (p:=⟨w.heap.size,1,none⟩) (aB _) _).setCell (p:=⟨w.heap.size+1,0,none⟩) (by simp) _).setCell (p:=⟨w.heap.size+1,1,none⟩) (by simp) _)⟩,?_⟩
      · rw[←EH.out];rcases uP.out.1 with e|e<;>rw[e];exact .inr rfl;exact .inl rfl
      · rw[←EH.out,←uP.out.2,KM,GI]
      · have e1:=Eo hT.facts.1.2.1
        rw[Eo (fg X0.out)];exact KQ (eJ e1) (by omega)
theorem aJ {W:ae} {b:Nat} {cs:Array ai} {T:bF} {v:ai} (h:W.heap[b]?=some (.cells cs T (0,0))) {i:Nat} (hv:cs[i]?=some v):W.cell? ⟨b,i,none⟩=some v:=by simp[World.cell?,h,hv]
def qa (a b c d:List UInt8):Bool:=gT a b&&(gT c d&&decide (jj (bC a*bC d) (bC c*bC b)≤0))
theorem ai9 (a b c d:ByteArray) (ha:a.size≤1000000) (hb:b.size≤1000000) (hc:c.size≤1000000) (hd:d.size≤1000000) (w:ae) (hp:dY w):
 ax ah 91 #[.agg #[.string a,.string b,.string c,.string d]] w (cC w (qa a.data.toList b.data.toList c.data.toList d.data.toList)):=by
 have x0:=bG w (.cells #[.string a,.string b,.string c,.string d] 31);have b0:Below w.heap.size w (w.alloc (.cells #[.string a,.string b,.string c,.string d] 31)):=(bK _ _).alloc (aB _) _;have H1:=hZ (fun W (h:Below w.heap.size w W)=>Kb a b ha hb W (hp.below h));have H2:=hZ (fun W (h:Below w.heap.size w W)=>Kb c d hc hd W (hp.below h));have X0:=hZ x0;have B0:=hZ b0;clear x0 b0
 by_cases h1:gT a.data.toList b.data.toList=true
 case neg=>
  have e:qa a.data.toList b.data.toList c.data.toList d.data.toList=false:=by unfold qa;simp[h1]
  rw[e];rw[show gT a.data.toList b.data.toList=false by simpa using h1] at H1;clear e h1 hp
  go_enter UD,UQ
  go_wp2_with (first
  |(go_at_call 138;(with_reducible refine(H1.out _ B0.out).mono ?_);rintro e w1 ⟨rfl,hb⟩;have B1:=aw B0 hb;clear hb)
  |fail)
  go_ret;exact⟨rfl,B1.out⟩
 by_cases h2:gT c.data.toList d.data.toList=true
 case neg=>
  have e:qa a.data.toList b.data.toList c.data.toList d.data.toList=false:=by unfold qa;simp[h2]
  rw[e];rw[h1] at H1;rw[show gT c.data.toList d.data.toList=false by simpa using h2] at H2;clear e h1 h2 hp
  go_enter UD,UQ
  go_wp2_with (first
  |(go_at_call 138;(with_reducible refine(H1.out _ B0.out).mono ?_);rintro e w1 ⟨rfl,hb⟩;have B1:=aw B0 hb;have X1:=ak hb X0;have y2:=aJ (i:=2) X1.out rfl;have y3:=aJ (i:=3) X1.out rfl;clear hb)
  |(go_at_call 138;(with_reducible refine(H2.out _ B1.out).mono ?_);rintro e w2 ⟨rfl,hb⟩;have B2:=aw B1 hb;clear hb)
  |fail)
  go_ret;exact⟨rfl,B2.out⟩
 have H3:=hZ (fun W (h:Below w.heap.size w W)=>amh a b c d ha hb hc hd h1 h2 W (hp.below h));obtain⟨z,hz⟩:=oQ (jj (bC a.data.toList*bC d.data.toList) (bC c.data.toList*bC b.data.toList));have e:qa a.data.toList b.data.toList c.data.toList d.data.toList=decide (z≤0):=by unfold qa;simp[h1,h2,hz]
 rw[e];rw[hz] at H3;rw[h1] at H1;rw[h2] at H2;clear e h1 h2 hp hz
 go_enter UD,UQ
 go_wp2_with (first
  |(go_at_call 138;(with_reducible refine(H1.out _ B0.out).mono ?_);rintro e w1 ⟨rfl,hb⟩;have B1:=aw B0 hb;have X1:=ak hb X0;have y2:=aJ (i:=2) X1.out rfl;have y3:=aJ (i:=3) X1.out rfl;clear hb)
  |(go_at_call 138;(with_reducible refine(H2.out _ B1.out).mono ?_);rintro e w2 ⟨rfl,hb⟩;have B2:=aw B1 hb;have X2:=ak hb X1;have z0:=aJ (i:=0) X2.out rfl;have z1:=aJ (i:=1) X2.out rfl;have z2:=aJ (i:=2) X2.out rfl;have z3:=aJ (i:=3) X2.out rfl;clear hb)
  |(go_at_call 90;(with_reducible refine(H3.out _ B2.out).mono ?_);rintro e w3 ⟨rfl,hb⟩;have B3:=aw B2 hb;clear hb)
  |fail)
 go_ret;exact⟨rfl,B3.out⟩
def Db (g:Nat):ai:=.func (.func g) #[] #[]
theorem Qn (w:ae) (cs:List ai) (T:bF):(w.alloc (.cells cs.toArray T)).rangeAt w.heap.size 0 cs:=fun i v hv=>by
 have h:=bG w (.cells cs.toArray T);exact aJ h (by simpa using hv)
theorem aY (w:ae) (o:Obj):Below w.heap.size w (w.alloc o):=(bK _ _).alloc (aB _) _
theorem iV (g:Nat) (w:ae):ax ah 105 #[.func (.func g) #[] #[]] w fun e w'=>e=.returned (.agg #[.func (.func g) #[] #[],.int .i64 1,.int .i64 1000000,.nilFunc])∧Below w.heap.size w w':=by
 go_enter Tryz.func105,Tryz.ntmps105
 go_wp2;refine et (BL rfl _ _ w.heap.size [.func (.func g) #[] #[],.int .i64 1,.int .i64 1000000,.nilFunc] _ rfl (Qn w _ _) afg rfl (by kernel_rfl)) rfl ⟨rfl,aY _ _⟩
theorem nI (g:Nat) (w:ae):ax ah 109 #[.func (.func g) #[] #[]] w fun e w'=>e=.returned (.agg #[.func (.func g) #[] #[],.int .i64 0,.int .i64 1000000,.nilFunc])∧Below w.heap.size w w':=by
 go_enter Tryz.func109,Tryz.ntmps109
 go_wp2;refine et (BL rfl _ _ w.heap.size [.func (.func g) #[] #[],.int .i64 0,.int .i64 1000000,.nilFunc] _ rfl (Qn w _ _) afg rfl (by kernel_rfl)) rfl ⟨rfl,aY _ _⟩
theorem zn (g:Nat) (l m:Int) (A B:Option bI) (n1 c1 n2 c2:Nat) (w:ae):ax ah 108 #[.agg #[.func (.func g) #[] #[],.int .i64 l,.int .i64 m,.nilFunc],.slice A n1 c1,.slice B n2 c2] w fun e w'=>e=.returned (.agg #[.slice A n1 c1,.func (.func g) #[] #[],.int .i64 l,.int .i64 m,.nilFunc,.slice B n2 c2])∧Below w.heap.size w w':=by
 go_enter Tryz.func108,Tryz.ntmps108
 go_wp2;refine et (BL rfl _ _ (w.heap.size+1) [.slice A n1 c1,.func (.func g) #[] #[],.int .i64 l,.int .i64 m,.nilFunc,.slice B n2 c2] _ rfl (by have:=Qn (w.alloc (.cells #[.func (.func g) #[] #[],.int .i64 l,.int .i64 m,.nilFunc] 109)) [.slice A n1 c1,.func (.func g) #[] #[],.int .i64 l,.int .i64 m,.nilFunc,.slice B n2 c2] 112;rw[World.size_alloc] at this;exact this) Tryz.underlying112 rfl (by kernel_rfl)) rfl ⟨rfl,(aY _ _).alloc (by simp) _⟩
inductive gF where
 |num (g:Nat) (l:Int)
 |txt (g:Nat)
def gF.cells:gF→List ai
 |.num g l=>[.func (.func g) #[] #[],.int .i64 l,.int .i64 1000000,.nilFunc]
 |.txt g=>[.nilFunc,.int .i64 0,.int .i64 0,.func (.func g) #[] #[]]
structure AB where
 parts:List gF
 key:Nat
 rest:List Nat
def ET (W:ae) (B:Nat) (v:ai) (d:AB):Prop:=
 ∃b1 R cr,v=.agg #[.slice (some ⟨b1,0,none⟩) d.parts.length d.parts.length,.func (.func d.key) #[] #[],.int .i64 1,.int .i64 1000000,.nilFunc,.slice R d.rest.length cr]∧B≤b1∧
  W.heap[b1]?=some (.cells (d.parts.flatMap gF.cells).toArray 109 (0,0))∧
  ((d.rest=[]∧R=none∧cr=0)∨∃b2,R=some ⟨b2,0,none⟩∧cr=d.rest.length∧B≤b2∧W.heap[b2]?=some (.cells (d.rest.map Db).toArray 45 (0,0)))
theorem ET.below {W W':ae} {B:Nat} {v:ai} {d:AB} (h:ET W B v d) (hb:Below W.heap.size W W'):ET W' B v d:=by
 obtain⟨b1,R,cr,rfl,h1,h2,h3⟩:=h;refine⟨b1,R,cr,rfl,h1,fe hb h2,?_⟩;rcases h3 with h3|⟨b2,r1,r2,r3,r4⟩
 · exact .inl h3
 · exact .inr ⟨b2,r1,r2,r3,fe hb r4⟩
def sq (w:ae) (d:AB) (e:Ending) (w':ae):Prop:=∃v,e=.returned (.tuple #[v,.bool true])∧ET w' w.heap.size v d∧Below w.heap.size w w'
theorem xk {W:ae} {r:Nat} {T:bF} {a0 a1 a2 a3 a4 a5:ai} (h:W.heap[r]?=some (.cells #[a0,a1,a2,a3,a4,a5] T (0,0))) (v0 v1 v2 v3 v4 v5:ai):
 ((((((W.setCell ⟨r,0,none⟩ v0).setCell ⟨r,1,none⟩ v1).setCell ⟨r,2,none⟩ v2).setCell ⟨r,3,none⟩ v3).setCell ⟨r,4,none⟩ v4).setCell ⟨r,5,none⟩ v5).heap[r]?=some (.cells #[v0,v1,v2,v3,v4,v5] T (0,0)):=by
 simp only[uw,qB,h];simp
theorem iG {W:ae} {r k:Nat} (h:k≠r) (v0 v1 v2 v3 v4 v5:ai):
 ((((((W.setCell ⟨r,0,none⟩ v0).setCell ⟨r,1,none⟩ v1).setCell ⟨r,2,none⟩ v2).setCell ⟨r,3,none⟩ v3).setCell ⟨r,4,none⟩ v4).setCell ⟨r,5,none⟩ v5).heap[k]?=W.heap[k]?:=by
 refine(fA _ _ _ _ h).trans ((fA _ _ _ _ h).trans ((fA _ _ _ _ h).trans ((fA _ _ _ _ h).trans ((fA _ _ _ _ h).trans (fA _ _ _ _ h)))))
theorem xm {w W:ae} {B r:Nat} (hb:Below B w W) (h:B≤r) (v0 v1 v2 v3 v4 v5:ai):
 Below B w ((((((W.setCell ⟨r,0,none⟩ v0).setCell ⟨r,1,none⟩ v1).setCell ⟨r,2,none⟩ v2).setCell ⟨r,3,none⟩ v3).setCell ⟨r,4,none⟩ v4).setCell ⟨r,5,none⟩ v5):=
 (((((hb.setCell (p:=⟨r,0,none⟩) h _).setCell (p:=⟨r,1,none⟩) h _).setCell (p:=⟨r,2,none⟩) h _).setCell (p:=⟨r,3,none⟩) h _).setCell (p:=⟨r,4,none⟩) h _).setCell (p:=⟨r,5,none⟩) h _
theorem nF {P:eI} {fn:Func} {p t:Tmp} {ty:bF} (h:fn.results=#[.cell p ty,.tmp t]) (tmps:Array ai) (w:ae) (b:Nat) (cs:List ai) (d:TypeDesc)
 (hp:tmps.getD p undef=.pointer (some ⟨b,0,none⟩)) (hc:w.rangeAt b 0 cs) (hu:P.underlying ty=some d) (hr:d.isRow=true) (hi:(P.info? ty).map (·.size)=some cs.length):
 (results fn tmps).run P w=.ok (.tuple #[.agg cs.toArray,tmps.getD t undef]) w:=by
 have ij:tmps[p]?.getD undef=.pointer (some ⟨b,0,none⟩):=by simpa using hp
 simp[results,h,ij,asAddr,run_loadVar_mid w b 0 ty cs d hc hu hr hi]
theorem bl {W:ae} {b:Nat} {cs:List ai} {T:bF} (h:W.heap[b]?=some (.cells cs.toArray T (0,0))):W.rangeAt b 0 cs:=fun i v hv=>aJ h (by simpa using hv)
structure af where
 kind:Int
 id:Int
 bR:Int
 day:Int
 gone:Bool
 az:Int
 bj:Int
 bQ:Int
 item:Int
 dj:Int
 iJ:Int
 ln:ByteArray
 ld:ByteArray
 hn:ByteArray
 hd:ByteArray
 rn:ByteArray
 rd:ByteArray
 text:ByteArray
def af.cells (e:af):List ai:=[.int .i64 e.kind,.int .i64 e.id,.int .i64 e.bR,.int .i64 e.day,.bool e.gone,.int .i64 e.az,.int .i64 e.bj,.int .i64 e.bQ,.int .i64 e.item,.int .i64 e.dj,.int .i64 e.iJ,
 .string e.ln,.string e.ld,.string e.hn,.string e.hd,.string e.rn,.string e.rd,.string e.text]
abbrev af.val (e:af):ai:=.agg e.cells.toArray
def aR (W:ae) (b:Nat) (e:af):Prop:=W.heap[b]?=some (.cells e.cells.toArray 33 (0,0))
theorem aR.below {W W':ae} {b:Nat} {e:af} (h:aR W b e) (hb:Below W.heap.size W W'):aR W' b e:=fe hb h
theorem aR.cell {W:ae} {b:Nat} {e:af} (h:aR W b e) {i:Nat} {v:ai} (hv:e.cells[i]?=some v):W.cell? ⟨b,i,none⟩=some v:=aJ h (by simpa using hv)
theorem aR.free {W:ae} {b:Nat} {e:af} (h:aR W b e) (i:Nat):W.frozen? ⟨b,i,none⟩=false:=cY h i
theorem akj (b:Nat) (w:ae):ax ah 106 #[.pointer (some ⟨b,0,none⟩)] w fun e w'=>e=.returned (.pointer (some ⟨b,1,none⟩))∧w'=w:=by
 go_enter Tryz.func106,Tryz.ntmps106
 go_wp2;go_ret;exact⟨rfl,rfl⟩
theorem aky (b:Nat) (w:ae):ax ah 107 #[.pointer (some ⟨b,0,none⟩)] w fun e w'=>e=.returned (.pointer (some ⟨b,8,none⟩))∧w'=w:=by
 go_enter Tryz.func107,Tryz.ntmps107
 go_wp2;go_ret;exact⟨rfl,rfl⟩
theorem ajn (b:Nat) (w:ae):ax ah 110 #[.pointer (some ⟨b,0,none⟩)] w fun e w'=>e=.returned (.pointer (some ⟨b,5,none⟩))∧w'=w:=by
 go_enter Tryz.func110,Tryz.ntmps110
 go_wp2;go_ret;exact⟨rfl,rfl⟩
theorem aos (b:Nat) (w:ae):ax ah 116 #[.pointer (some ⟨b,0,none⟩)] w fun e w'=>e=.returned (.pointer (some ⟨b,6,none⟩))∧w'=w:=by
 go_enter Tryz.func116,Tryz.ntmps116
 go_wp2;go_ret;exact⟨rfl,rfl⟩
theorem akU (b:Nat) (w:ae):ax ah 111 #[.pointer (some ⟨b,0,none⟩)] w fun e w'=>e=.returned (.pointer (some ⟨b,7,none⟩))∧w'=w:=by
 go_enter Tryz.func111,Tryz.ntmps111
 go_wp2;go_ret;exact⟨rfl,rfl⟩
theorem al4 (b:Nat) (w:ae):ax ah 120 #[.pointer (some ⟨b,0,none⟩)] w fun e w'=>e=.returned (.pointer (some ⟨b,9,none⟩))∧w'=w:=by
 go_enter Tryz.func120,Tryz.ntmps120
 go_wp2;go_ret;exact⟨rfl,rfl⟩
theorem ano (b:Nat) (w:ae):ax ah 121 #[.pointer (some ⟨b,0,none⟩)] w fun e w'=>e=.returned (.pointer (some ⟨b,10,none⟩))∧w'=w:=by
 go_enter Tryz.func121,Tryz.ntmps121
 go_wp2;go_ret;exact⟨rfl,rfl⟩
def ptr (b:Nat) (i:Nat):ai:=.pointer (some ⟨b,i,none⟩)
def CT (w:ae) (b:Nat) (l:List Nat) (e:Ending) (w':ae):Prop:=∃v,e=.returned v∧OL w' w.heap.size 129 1 (one (ptr b)) v l∧Below w.heap.size w w'
theorem OL.ah9 {α:Type} {w:ae} {B:Nat} {e:bF} {size:Nat} {f:α→List ai} {A:Option bI} {n c:Nat} {l:List α} (h:OL w B e size f (.slice A n c) l):A=none→c=0:=fun hA=>by
 rcases h.2 with⟨he,-⟩|⟨g,cap,cur,he,-⟩
 · injection he
 · injection he with e1 _ _;rw[hA] at e1;cases e1
theorem QL {α:Type} (f:α→ai) (l:List α):l.flatMap (one f)=l.map f:=by
 induction l with
 |nil=>rfl
 |cons x l ih=>rw[rN,nM,ih];rfl
theorem OL.lits {b:Nat} (W:ae) (l:List Nat) (hm:l.length≤100) {B:Nat} (hB:B≤W.heap.size):OL (W.alloc (.cells (l.map (ptr b)).toArray 129)) B 129 1 (one (ptr b)) (.slice (some ⟨W.heap.size,0,none⟩) l.length l.length) l:=
 ⟨by rw[QL];simp,.inr ⟨W.heap.size,l.length,_,rfl,hB,bG _ _,aB _,by unfold maxLen;omega,by simp,by rw[QL];simp only[Nat.mul_one];exact eE (by simp)⟩⟩
theorem dJ.cat {α:Type} {w:ae} {B:Nat} {A:Option bI} {f:α→ai} {l:List α} (h:dJ w B A f l):∀j x,(l.flatMap (one f))[j]?=some x→∃a,A=some a∧w.cell? (a.add j)=some x:=fun j x hx=>by
 rw[QL,List.getElem?_map] at hx;obtain⟨y,hy,rfl⟩:=Option.map_eq_some_iff.1 hx;obtain⟨a,ha,-,hc⟩:=h j y hy;exact⟨a,ha,hc⟩
theorem anJ {P:eI} {α:Type} {w:ae} {B:Nat} {e:bF} {size bytes:Nat} {f:α→List ai} {ops:Array aZ} {o:aZ} {a:cu} {K:cu→ae→Prop} {Q:Exit→cu→ae→Prop} {D:Prop} (ct:o.guard=none) (s x:ef) (t:bF)
 (ho:o.op=.call {callee:=.builtin .append,args:=#[s,x],argTypes:=#[t,t]}) (E:gi P t e size bytes) (hf:∀x,(f x).length=size) (v:ai) (l:List α) (hs:a.eval s=v) (h:OL w B e size f v l) (A:Option bI) (m:List α) (k c:Nat) (hk:m.length=k) (hx:a.eval x=.slice A k c) (lz:A=none→c=0)
 (hA:∀j x,(m.flatMap f)[j]?=some x→∃a,A=some a∧w.cell? (a.add j)=some x) (kP:∀x∈m,∀u∈f x,u.oneCell'=true) (qd:l.length+k≤maxLen) (qj:(l.length+k)*bytes≤140737488355328) (hB:B≤w.heap.size)
 (sI:∀v' w',OL w' B e size f v' (l++m)→w.grownBy w' v.ownBlock→Below B w w'→K (a.put o.dst v') w'):
 if Region.wanted o (yielded ops a.tmps)=true then vQ P o a w K Q else D:=by
 have hw:Region.wanted o (yielded ops a.tmps)=true:=by simp[Region.wanted,ct]
 rw[if_pos hw];obtain⟨v',w',r1,r2,r3,r4⟩:=h.Ts (P:=P) E o.type hf A m k c hk lz hA kP qd qj hB;unfold vQ ot;simp only[ho,resolve,invoke,builtin,sY,Ef,sX,List.map_toArray,nM,List.map_nil,hs,hx,r1];exact sI v' w' r2 r3 r4
theorem aiY:gi ah 127 129 1 8:=gi.mk' (z:=.pointer none) Tryz.underlying127 (by kernel_rfl) rfl (by decide)
theorem S8 (b k:Nat) (w:ae):ax ah 166 #[.pointer (some ⟨b,k,none⟩)] w (CT w b [k,k+1]):=by
 have hT:CT w b [k,k+1] (.returned (.slice (some ⟨w.heap.size,0,none⟩) 2 2)) (w.drew.alloc (.cells #[ptr b k,ptr b (k+1)] 129)):=⟨_,rfl,OL.lits w.drew [k,k+1] (by simp) (aB _),(eR (bK _ _)).alloc (aB _) _⟩;unfold ptr at hT
 go_enter Tryz.func166,Tryz.ntmps166
 go_wp2;refine cJ (fun _=>True) trivial fun hHeld=>?_;refine bg 0 1 2 3 ?_;refine eC 4 5 ?_;refine rE 6 fun K hK=>?_;go_simp;refine kk hK trivial fun hHeld=>?_;clear hK K;refine tk 7 ?_;refine dn ?_;go_wp2;go_ret;exact hT
theorem amf (b:Nat) (w:ae):ax ah 114 #[.pointer (some ⟨b,0,none⟩)] w (CT w b [15,16]):=by
 go_enter Tryz.func114,Tryz.ntmps114
 go_wp2_with (first|(go_at_call 166;(with_reducible refine(S8 _ _ _).mono ?_);rintro e w1 ⟨v,rfl,hv,hb⟩)|fail)
 go_ret;exact⟨_,rfl,hv,hb⟩
theorem an7 (b:Nat) (w:ae):ax ah 118 #[.pointer (some ⟨b,0,none⟩)] w (CT w b [17]):=by
 have hT:CT w b [17] (.returned (.slice (some ⟨w.heap.size,0,none⟩) 1 1)) (w.alloc (.cells #[ptr b 17] 129)):=⟨_,rfl,OL.lits w [17] (by simp) (aB _),aY _ _⟩;unfold ptr at hT
 go_enter Tryz.func118,Tryz.ntmps118
 go_wp2;go_ret;exact hT
theorem aoU (b:Nat) (w:ae):ax ah 112 #[.pointer (some ⟨b,0,none⟩)] w (CT w b [11,12,13,14]):=by
 go_enter Tryz.func112,Tryz.ntmps112
 go_wp2;refine cJ (fun _=>True) trivial fun hHeld=>?_;refine bg 0 1 2 3 ?_;refine bg 5 6 7 8 ?_;refine rE 4 fun K hK=>?_;go_simp
 (with_reducible refine(S8 _ _ _).mono ?_)
 rintro e w1 ⟨v,rfl,hv,hb⟩;have HV:=hZ hv;have aF:=hZ (show Below w.heap.size w w1 from(eR (bK w.heap.size w)).trans hb);obtain⟨A1,c1,rfl,-⟩:=hv.slice;clear hv hb;refine kk hK trivial fun hHeld=>?_;clear hK K;refine rE 9 fun K hK=>?_;go_simp
 (with_reducible refine(S8 _ _ _).mono ?_)
 rintro e w2 ⟨v,rfl,gd,aA⟩;have cI:=hZ gd;have aG:=hZ aA;obtain⟨A2,c2,rfl,-⟩:=gd.slice;have qO:=hZ gd.MK;clear gd aA;refine kk hK trivial fun hHeld=>?_;clear hK K;refine rE 10 fun K hK=>?_;refine anJ (by rfl) (.tmp 7) (.tmp 12) 127 (by rfl) aiY (fun _=>rfl) (.slice A1 2 c1) [11,12] (by rfl) (HV.out.below aG.out (aB _)) A2 [13,14] 2 c2 rfl (by rfl) (OL.ah9 cI.out) qO.out.cat (fun x _ u hu=>by rw[fQ.1 hu];rfl) (by unfold maxLen;decide) (by decide) (Nat.le_trans aF.out.size aG.out.size) ?_;intro v3 w3 h3 _ aK;have a_:=hZ ((aF.out.trans (aG.out.mono aF.out.size)).trans (aK.mono (by have:=aF.out.size;simp at this⊢)));have H3:=hZ h3;clear aK h3;refine kk hK trivial fun hHeld=>?_;clear hK K;refine tk 11 ?_;refine dn ?_;go_wp2;go_ret;exact⟨_,rfl,H3.out.base (by simp),a_.out⟩
structure af.Small (e:af):Prop where
 ln:e.ln.size≤1000000
 ld:e.ld.size≤1000000
 hn:e.hn.size≤1000000
 hd:e.hd.size≤1000000
 rn:e.rn.size≤1000000
 rd:e.rd.size≤1000000
 text:e.text.size≤1000000
theorem af.NB (e:af):e.val=.agg #[.int .i64 e.kind,.int .i64 e.id,.int .i64 e.bR,.int .i64 e.day,.bool e.gone,.int .i64 e.az,.int .i64 e.bj,.int .i64 e.bQ,.int .i64 e.item,.int .i64 e.dj,.int .i64 e.iJ,
 .string e.ln,.string e.ld,.string e.hn,.string e.hd,.string e.rn,.string e.rd,.string e.text]:=rfl
theorem af.new (w:ae) (e:af):aR (w.alloc (.cells e.cells.toArray 33)) w.heap.size e:=bG w _
theorem akw (e:af) (w:ae):ax ah 117 #[e.val] w (cC w (decide (e.az≤e.bj))):=by
 obtain⟨b,hb⟩:=oQ (decide (e.az≤e.bj));have hT:cC w b (.returned (.bool b)) (w.alloc (.cells e.cells.toArray 33)):=⟨rfl,aY _ _⟩;rw[hb];unfold af.cells at hT;rw[af.NB]
 go_enter Tryz.func117,Tryz.ntmps117
 go_wp2;go_ret;exact hT
theorem akv (e:af) (w:ae):ax ah 119 #[e.val] w (cC w (decide (e.text.size=32))):=by
 obtain⟨b,hb⟩:=oQ (decide (e.text.size=32));have aA:(((e.text.size:Nat):Int)==32)=b:=by rw[←hb];by_cases h:e.text.size=32<;>simp[h]<;>omega
 have hT:cC w b (.returned (.bool b)) (w.alloc (.cells e.cells.toArray 33)):=⟨rfl,aY _ _⟩;rw[hb];clear hb;unfold af.cells at hT;rw[af.NB]
 go_enter Tryz.func119,Tryz.ntmps119
 go_wp2;go_ret;exact hT
def mM (n d:List UInt8):Bool:=decide ((eU n).length≤40)&&decide (d.length≤40)
theorem SD (n d:ByteArray) (w:ae):ax ah 167 #[.agg #[.string n,.string d]] w (cC w (mM n.data.toList d.data.toList)):=by
 have ua:=fun W=>Tryz.strings_TrimPrefix n ⟨#[45]⟩ W;rw[show(⟨#[45]⟩:ByteArray).data.toList=[45] from rfl,TN] at ua;obtain⟨T,hT⟩:∃T:ByteArray,(⟨(eU n.data.toList).toArray⟩:ByteArray)=T:=⟨_,rfl⟩;rw[hT] at ua;have wD:=hZ ua;have FL:(eU n.data.toList).length=T.size:=by rw[←hT];rfl
 have jU:d.data.toList.length=d.size:=Array.length_toList;have hR:∀b,cC w b (.returned (.bool b)) (w.alloc (.cells #[.string n,.string d] 29)):=fun b=>⟨rfl,aY _ _⟩;unfold mM;rw[FL,jU];obtain⟨b1,aq⟩:=oQ (decide (T.size≤40));obtain⟨b2,aA⟩:=oQ (decide (d.size≤40));rw[aq,aA];have Mn:decide ((T.size:Int)≤40)=b1:=by rw[←aq];by_cases h:T.size≤40<;>simp[h]<;>omega
 have Bg:decide ((d.size:Int)≤40)=b2:=by rw[←aA];by_cases h:d.size≤40<;>simp[h]<;>omega
 have HR:=hZ hR;clear hT ua FL jU hR aq aA;cases b1
 · go_enter adq,aez
   go_wp2_with (first|(go_at_call 139;(with_reducible refine(wD.out _).mono ?_);rintro e w1 ⟨rfl,rfl⟩)|fail)
   go_ret;exact HR.out false
 · go_enter adq,aez
   go_wp2_with (first|(go_at_call 139;(with_reducible refine(wD.out _).mono ?_);rintro e w1 ⟨rfl,rfl⟩)|fail)
   go_ret;exact HR.out b2
def af.qA (e:af):Bool:=qa e.ln.data.toList e.ld.data.toList e.hn.data.toList e.hd.data.toList&&(mM e.ln.data.toList e.ld.data.toList&&mM e.hn.data.toList e.hd.data.toList)
def af.o6 (e:af):Bool:=gT e.rn.data.toList e.rd.data.toList&&(mM e.rn.data.toList e.rd.data.toList&& !(Lib.hasPrefix e.rn.data.toList [45]))
theorem akx (e:af) (hs:e.Small) (w:ae) (hp:dY w):ax ah 113 #[e.val] w (cC w e.qA):=by
 have B0:=hZ (aY w (.cells e.cells.toArray 33));have X0:=hZ (af.new w e);have H1:=hZ (fun W (h:Below w.heap.size w W)=>ai9 e.ln e.ld e.hn e.hd hs.ln hs.ld hs.hn hs.hd W (hp.below h));have H2:=hZ (fun W=>SD e.ln e.ld W);have H3:=hZ (fun W=>SD e.hn e.hd W);unfold af.qA;obtain⟨b1,aq⟩:=oQ (qa e.ln.data.toList e.ld.data.toList e.hn.data.toList e.hd.data.toList);obtain⟨b2,aA⟩:=oQ (mM e.ln.data.toList e.ld.data.toList);obtain⟨b3,aK⟩:=oQ (mM e.hn.data.toList e.hd.data.toList);rw[aq] at H1⊢;rw[aA] at H2⊢;rw[aK] at H3⊢;clear aq aA aK hs hp;unfold af.cells at B0;rw[af.NB];cases b1
 · go_enter Ur,UG
   go_wp2_with (first
    |(go_at_call 91;(with_reducible refine(H1.out _ B0.out).mono ?_);rintro e1 w1 ⟨rfl,hb⟩;have B1:=aw B0 hb;clear hb)
    |fail)
   go_ret;exact⟨rfl,B1.out⟩
 cases b2
 · go_enter Ur,UG
   go_wp2_with (first
    |(go_at_call 91;(with_reducible refine(H1.out _ B0.out).mono ?_);rintro e1 w1 ⟨rfl,hb⟩;have B1:=aw B0 hb;have X1:=hZ (X0.out.below hb);have y0:=X1.out.cell (i:=11) rfl;have y1:=X1.out.cell (i:=12) rfl;clear hb)
    |(go_at_call 167;(with_reducible refine(H2.out _).mono ?_);rintro e2 w2 ⟨rfl,hb⟩;have B2:=aw B1 hb;clear hb)
    |fail)
   go_ret;exact⟨rfl,B2.out⟩
 · go_enter Ur,UG
   go_wp2_with (first
    |(go_at_call 91;(with_reducible refine(H1.out _ B0.out).mono ?_);rintro e1 w1 ⟨rfl,hb⟩;have B1:=aw B0 hb;have X1:=hZ (X0.out.below hb);have y0:=X1.out.cell (i:=11) rfl;have y1:=X1.out.cell (i:=12) rfl;clear hb)
    |(go_at_call 167;(with_reducible refine(H2.out _).mono ?_);rintro e2 w2 ⟨rfl,hb⟩;have B2:=aw B1 hb;have X2:=hZ (X1.out.below hb);have z0:=X2.out.cell (i:=13) rfl;have z1:=X2.out.cell (i:=14) rfl;clear hb)
    |(go_at_call 167;(with_reducible refine(H3.out _).mono ?_);rintro e3 w3 ⟨rfl,hb⟩;have B3:=aw B2 hb;clear hb)
    |fail)
   go_ret;exact⟨rfl,B3.out⟩
theorem aku (e:af) (hs:e.Small) (w:ae) (hp:dY w):ax ah 115 #[e.val] w (cC w e.o6):=by
 have B0:=hZ (aY w (.cells e.cells.toArray 33));have X0:=hZ (af.new w e);have H1:=hZ (fun W (h:Below w.heap.size w W)=>Kb e.rn e.rd hs.rn hs.rd W (hp.below h));have H2:=hZ (fun W=>SD e.rn e.rd W);have H3:=hZ (fun W=>Tryz.strings_HasPrefix e.rn ⟨#[45]⟩ W);rw[show(⟨#[45]⟩:ByteArray).data.toList=[45] from rfl] at H3;unfold af.o6;obtain⟨b1,aq⟩:=oQ (gT e.rn.data.toList e.rd.data.toList);obtain⟨b2,aA⟩:=oQ (mM e.rn.data.toList e.rd.data.toList);obtain⟨b3,aK⟩:=oQ (Lib.hasPrefix e.rn.data.toList [45]);rw[aq] at H1⊢;rw[aA] at H2⊢;rw[aK] at H3⊢;clear aq aA aK hs hp;unfold af.cells at B0;rw[af.NB];cases b1
 · go_enter Us,UH
   go_wp2_with (first
    |(go_at_call 138;(with_reducible refine(H1.out _ B0.out).mono ?_);rintro e1 w1 ⟨rfl,hb⟩;have B1:=aw B0 hb;clear hb)
    |fail)
   go_ret;exact⟨rfl,B1.out⟩
 cases b2
 · go_enter Us,UH
   go_wp2_with (first
    |(go_at_call 138;(with_reducible refine(H1.out _ B0.out).mono ?_);rintro e1 w1 ⟨rfl,hb⟩;have B1:=aw B0 hb;have X1:=hZ (X0.out.below hb);have y0:=X1.out.cell (i:=15) rfl;have y1:=X1.out.cell (i:=16) rfl;clear hb)
    |(go_at_call 167;(with_reducible refine(H2.out _).mono ?_);rintro e2 w2 ⟨rfl,hb⟩;have B2:=aw B1 hb;clear hb)
    |fail)
   go_ret;exact⟨rfl,B2.out⟩
 · go_enter Us,UH
   go_wp2_with (first
    |(go_at_call 138;(with_reducible refine(H1.out _ B0.out).mono ?_);rintro e1 w1 ⟨rfl,hb⟩;have B1:=aw B0 hb;have X1:=hZ (X0.out.below hb);have y0:=X1.out.cell (i:=15) rfl;have y1:=X1.out.cell (i:=16) rfl;clear hb)
    |(go_at_call 167;(with_reducible refine(H2.out _).mono ?_);rintro e2 w2 ⟨rfl,hb⟩;have B2:=aw B1 hb;have X2:=hZ (X1.out.below hb);have z0:=X2.out.cell (i:=15) rfl;clear hb)
    |(go_at_call 168;(with_reducible refine(H3.out _).mono ?_);rintro e3 w3 ⟨rfl,rfl⟩)
    |fail)
   go_ret;exact⟨rfl,B2.out⟩
structure uB (w:ae) (v:ai) (g:Nat) (b:Bool):Prop where
 enters:∀args W,(xM g args).run ah W=.ok (.enter g args) W
 calls:∀W,Below w.heap.size w W→ax ah g #[v] W (cC W b)
theorem af.size (e:af):e.cells.length=18:=rfl
theorem di {e:af}:(ah.info? 33).map (·.size)=some e.cells.length:=by rw[af.size];kernel_rfl
theorem aow (g:Nat) (AF:Bool) (b:Nat) (e:af) (w0 w:ae) (h:uB w0 e.val g AF) (hb:Below w0.heap.size w0 w) (hE:aR w b e):
 ax ah 68 #[.func (.func g) #[] #[],.pointer (some ⟨b,0,none⟩)] w (cC w (!AF)):=by
 have HC:=hZ (h.calls w hb);have eg:=h.enters;have HE:=hZ (bl (cs:=e.cells) hE);have IE:=hZ (di (e:=e));clear h hb hE
 go_enter ad4,Tryz.ntmps68
 go_wp2_with (first
  |(with_reducible refine lm b 0 HE.out IE.out Tryz.underlying33 ?_)
  |((with_reducible refine HC.out.mono ?_);rintro e1 w1 ⟨rfl,hb⟩)
  |fail)
 go_ret;exact⟨rfl,hb⟩
theorem akk (rs:List (Nat×Bool)) (A:Option bI) (n c:Nat) (hn:rs.length=n) (qo:n≤1000) (b:Nat) (e:af) (w:ae) (hA:dJ w w.heap.size A (fun p:Nat×Bool=>Db p.1) rs) (hE:aR w b e) (hR:∀p∈rs,uB w e.val p.1 p.2):
 ax ah 125 #[.slice A n c,.func (.func 68) #[] #[.pointer (some ⟨b,0,none⟩)]] w fun e' w'=>(∃i:Int,e'=.returned (.int .i64 i)∧(0≤i↔rs.all (·.2)=false))∧Below w.heap.size w w':=by
 have HA:=hZ hA;have HE:=hZ hE;have HR:=hZ hR;have HN:=hZ hn;clear hA hE hR hn;have e68:∀args W,(xM 68 args).run ah W=.ok (.enter 68 args) W:=enters_of ad4 (by kernel_rfl) rfl
 go_enter Tryz.func125,Tryz.ntmps125
 go_wp2_with fail
 go_loopw [5,8] (fun _ v wr=> ∃i:Nat,v=.int .i64 (i:Int)∧i≤n∧Hid (∀p∈rs.take i,p.2=true)∧Below w.heap.size w wr) (fun _ v _=>match v with|.int _ k=>n-k.toNat|_=>0)
 case atStart=>exact⟨0,rfl,Nat.zero_le _,hZ (by simp),bK _ _⟩
 case round=>
  obtain⟨i,rfl,hi,HT,hB⟩:=hrel;have HB:=hZ hB;clear hB
  by_cases ar:i<n
  · have hl:i<rs.length:=by rw[HN.out];exact ar
    obtain⟨a,rfl,d_,gq⟩:=(HA.out.below HB.out).get hl;have ky:rs[i]∈rs:=List.getElem_mem hl;obtain⟨p,hp⟩:=oQ (rs[i]);rw[hp] at gq ky;obtain⟨g,AF⟩:=p;have ask:=HR.out _ ky;have HV:=hZ (aow g AF b e w wr ask HB.out (HE.out.below HB.out));(have eH:rs[i]?=some (g,AF):=by rw[List.getElem?_eq_getElem hl,hp]);have HP:=hZ eH;have gq:wr.cell? (a.add i)=some (.func (.func g) #[] #[]):=gq;(have d1:decide (i<n)=true:=by simp[ar]);(have z1:(0:Int)≤(i:Int):=by omega);(have z2:(i:Int)<(n:Int):=by omega);(have w1:aQ.wrap ((i:Int)+1)=((i+1:Nat):Int):=by rw[aS];omega);have EC:=hZ ky;clear ky ask hp hl eH;cases AF
    · go_wp2_with (first
       |(go_at_call 68;(with_reducible refine HV.out.mono ?_);rintro e1 w2 ⟨rfl,hb⟩;have aG:=aw HB hb;clear hb)
       |fail)
      go_ret;refine⟨⟨_,rfl,?_⟩,aG.out⟩;refine⟨fun _=>?_,fun _=>by omega⟩;rw[List.all_eq_false];exact⟨_,EC.out,by simp⟩
    · go_wp2_with (first
       |(go_at_call 68;(with_reducible refine HV.out.mono ?_);rintro e1 w2 ⟨rfl,hb⟩;have aG:=aw HB hb;clear hb)
       |fail)
      go_round
      case rel=>
       refine⟨i+1,rfl,by omega,hZ ?_,aG.out⟩;rw[List.take_add_one,HP.out];intro q hq;rcases List.mem_append.1 hq with h|h
       · exact HT.out q h
       · rw[Option.toList_some] at h;rw[fQ.1 h]
      case measure=>simp;omega
  · have d1:decide (i<n)=false:=by simp;omega
    go_wp2_with fail;go_ret;refine⟨⟨_,rfl,?_⟩,HB.out⟩
    have:rs.all (·.2)=true:=by
     rw[List.all_eq_true];intro q hq;refine HT.out q ?_;rw[eE (by rw[HN.out];omega)];exact hq
    rw[this];exact⟨fun h=>by omega,fun h=>by cases h⟩
theorem XL (rs:List (Nat×Bool)) (A:Option bI) (n c:Nat) (hn:rs.length=n) (qo:n≤1000) (b:Nat) (e:af) (w:ae) (hA:dJ w w.heap.size A (fun p:Nat×Bool=>Db p.1) rs) (hE:aR w b e) (hR:∀p∈rs,uB w e.val p.1 p.2):
 ax ah 67 #[.slice A n c,.func (.func 68) #[] #[.pointer (some ⟨b,0,none⟩)]] w (cC w (!(rs.all (·.2)))):=by
 have HI:=hZ (akk rs A n c hn qo b e w hA hE hR);obtain⟨z,hz⟩:=oQ (rs.all (·.2));rw[hz] at HI⊢;clear hz hA hE hR hn qo
 go_enter Tryz.func67,Tryz.ntmps67
 go_wp2_with (first
  | (go_at_call 125;(with_reducible refine HI.out.mono ?_);rintro e1 w2 ⟨⟨i,rfl,hi⟩,hb⟩
     have hd:decide (0≤i)= !z:=by cases z<;>simp at hi⊢ <;>omega
     clear hi)
  |fail)
 go_ret;exact⟨rfl,hb⟩
def af.ji (e:af) (i:Nat):af:=
 match i with
 |1=>{e with id:=0}
 |5=>{e with az:=0}
 |6=>{e with bj:=0}
 |7=>{e with bQ:=0}
 |8=>{e with item:=0}
 |9=>{e with dj:=0}
 |10=>{e with iJ:=0}
 |11=>{e with ln:=⟨#[]⟩}
 |12=>{e with ld:=⟨#[]⟩}
 |13=>{e with hn:=⟨#[]⟩}
 |14=>{e with hd:=⟨#[]⟩}
 |15=>{e with rn:=⟨#[]⟩}
 |16=>{e with rd:=⟨#[]⟩}
 |17=>{e with text:=⟨#[]⟩}
 |_=>e
def af.num (e:af) (i:Nat):Int:=
 match i with
 |1=>e.id
 |5=>e.az
 |6=>e.bj
 |7=>e.bQ
 |8=>e.item
 |9=>e.dj
 |10=>e.iJ
 |_=>0
def SQ (i:Nat):Prop:=i=1∨i=5∨i=6∨i=7∨i=8∨i=9∨i=10
def D3 (i:Nat):Prop:=i=11∨i=12∨i=13∨i=14∨i=15∨i=16∨i=17
theorem abm {i:Nat} (h:SQ i) (e:af):e.cells[i]?=some (.int .i64 (e.num i)):=by
 rcases h with rfl|rfl|rfl|rfl|rfl|rfl|rfl<;>rfl
theorem aoq {i:Nat} (h:D3 i) (e:af):∃s,e.cells[i]?=some (.string s):=by
 rcases h with rfl|rfl|rfl|rfl|rfl|rfl|rfl<;>exact⟨_,rfl⟩
theorem aif {i:Nat} (h:SQ i) (e:af):(e.ji i).cells=e.cells.set i (.int .i64 0):=by
 rcases h with rfl|rfl|rfl|rfl|rfl|rfl|rfl<;>rfl
theorem aih {i:Nat} (h:D3 i) (e:af):(e.ji i).cells=e.cells.set i (.string ⟨#[]⟩):=by
 rcases h with rfl|rfl|rfl|rfl|rfl|rfl|rfl<;>rfl
theorem Ye {W:ae} {b:Nat} {e e':af} (h:aR W b e) {i:Nat} {z:ai} (he:e'.cells=e.cells.set i z):aR (W.setCell ⟨b,i,none⟩ z) b e':=by
 unfold aR at h⊢;rw[he];obtain⟨cs,hcs⟩:=oQ (e.cells);rw[hcs] at h⊢;simp only[uw,qB,h];simp
inductive mW where
 |num (i:Nat) (l:Int)
 |txt (l:List Nat)
def fW:List mW→af→Bool
 |[],e=>decide (e.id=0∧e.az=0∧e.bj=0∧e.bQ=0∧e.item=0∧e.dj=0∧e.iJ=0∧e.ln.toList=[]∧e.ld.toList=[]∧e.hn.toList=[]∧e.hd.toList=[]∧e.rn.toList=[]∧e.rd.toList=[]∧e.text.toList=[])
 |.num i l::qs,e=>decide (l≤e.num i)&&(decide (e.num i≤1000000)&&fW qs (e.ji i))
 |.txt l::qs,e=>fW qs (l.foldl af.ji e)
inductive Fits:gF→mW→Prop
 |num {g i:Nat} {l:Int} (enters:∀args W,(xM g args).run ah W=.ok (.enter g args) W) (calls:∀b W,ax ah g #[.pointer (some ⟨b,0,none⟩)] W fun e w'=>e=.returned (.pointer (some ⟨b,i,none⟩))∧w'=W) (ix:SQ i):Fits (.num g l) (.num i l)
 |txt {g:Nat} {is:List Nat} (enters:∀args W,(xM g args).run ah W=.ok (.enter g args) W) (calls:∀b W,ax ah g #[.pointer (some ⟨b,0,none⟩)] W (CT W b is)) (ix:∀i∈is,D3 i) (len:is.length≤10):Fits (.txt g) (.txt is)
theorem ff {P:eI} {ops:Array aZ} {rest:List aZ} {op:aZ} {a:cu} {w:ae} {Q:Exit→cu→ae→Prop} (ct:op.guard=none) (x:ef) (ho:op.op=.box 33 x) (e:af) (hx:a.eval x=.agg e.cells.toArray)
 (h:∀w',aR w' w.heap.size e→Below w.heap.size w w'→w'.heap.size=w.heap.size+1→dT P ops Q rest (a.put op.dst (.pointer (some ⟨w.heap.size,0,none⟩))) w'):dT P ops Q (op::rest) a w:=
 wpList_plain ct fun _ hK=>by
  have h2:=hK _ _ (h (w.alloc (.cells e.cells.toArray 33)) (bG w _) (aY _ _) (by simp));obtain⟨cs,hcs⟩:=oQ (e.cells.toArray);rw[hcs] at hx h2;unfold vQ ot;simp only[ho,hx,Instr.box,sY,Ef,newVar,newRow,Value.cells];simpa[go_sem] using h2
theorem rC (e:af):e.cells.toArray.all (·.oneCell')=true:=by simp[af.cells,Value.oneCell']
theorem FY (V:ae) (old:Array ai) (T:bF) (e:af) (hT:T=33):aR ((V.alloc (.cells old T)).setRow V.heap.size e.cells.toArray) V.heap.size e∧Below V.heap.size V ((V.alloc (.cells old T)).setRow V.heap.size e.cells.toArray)∧((V.alloc (.cells old T)).setRow V.heap.size e.cells.toArray).heap.size=V.heap.size+1:=by
 subst hT;obtain⟨cs,hcs⟩:=oQ (e.cells.toArray);have h:=bG V (.cells old 33);unfold aR;rw[hcs];refine⟨?_,⟨rfl,rfl,rfl,by simp[qH],fun k hk=>?_⟩,by simp[qH]⟩
 · simp only[qH,qB,h]
   simp
 · simp only[qH,qB]
   rw[if_neg (by omega)];exact Below.heap_alloc _ _ _ hk
theorem oh {P:eI} {ops:Array aZ} {rest:List aZ} {o:aZ} {a:cu} {V:ae} {old:Array ai} {Q:Exit→cu→ae→Prop} (ct:o.guard=none) (x y:ef) (ho:o.op=.store 33 x y) (hd:o.dst=none) (e:af)
 (hx:a.eval x=.pointer (some ⟨V.heap.size,0,none⟩)) (hy:a.eval y=.agg e.cells.toArray) (hi:(P.info? 33).map (·.size)=some e.cells.toArray.size) (hold:old.size=e.cells.toArray.size)
 (h:∀w',aR w' V.heap.size e→Below V.heap.size V w'→w'.heap.size=V.heap.size+1→dT P ops Q rest a w'):dT P ops Q (o::rest) a (V.alloc (.cells old 33)):=
 wpList_store_rowTo ct 33 x y ho hd V.heap.size e.cells.toArray hx hy 33 old (bG _ _) hi hold (rC e) (h _ (FY V old _ e rfl).1 (FY V old _ e rfl).2.1 (FY V old _ e rfl).2.2)
theorem pr (ps:List gF):∀(i:Nat) (p:gF),ps[i]?=some p→∀j,j<4→(ps.flatMap gF.cells)[i*4+j]?=p.cells[j]?:=by
 have l4:∀p:gF,p.cells.length=4:=fun p=>by cases p<;>rfl
 induction ps with
 |nil=>intro i p h;simp at h
 | cons q ps ih=>
   intro i p h j hj;rw[rN]
   cases i with
   |zero=>cases h;rw[agM (by rw[l4];omega)];congr 1;omega
   | succ i=>
     rw[Ot (by rw[l4];omega),l4,show(i+1)*4+j-4=i*4+j by omega];exact ih i p (by simpa using h) j hj
theorem aly (w:ae):(KI .neq 107 .nilFunc .nilFunc).run ah w=.ok (.bool false) w:=by kernel_rfl
theorem alw (g:Nat) (w:ae):(KI .neq 107 (.func (.func g) #[] #[]) .nilFunc).run ah w=.ok (.bool true) w:=by kernel_rfl
def ES (e' e:af):Prop:=e'.kind=e.kind∧e'.bR=e.bR∧e'.day=e.day∧e'.gone=e.gone
theorem ES.ji {e' e:af} (h:ES e' e) (i:Nat):ES (e'.ji i) e:=by
 unfold af.ji
 split<;>exact h
theorem ai4 (e':af) (W:ae):(KI .eql 33 (.agg e'.cells.toArray) (.agg #[.int .i64 e'.kind,.int .i64 0,.int .i64 e'.bR,.int .i64 e'.day,.bool e'.gone,.int .i64 0,.int .i64 0,.int .i64 0,.int .i64 0,.int .i64 0,.int .i64 0,.string ⟨#[]⟩,.string ⟨#[]⟩,.string ⟨#[]⟩,.string ⟨#[]⟩,.string ⟨#[]⟩,.string ⟨#[]⟩,.string ⟨#[]⟩])).run ah W=.ok (.bool (fW [] e')) W:=by
 obtain⟨kind,id,bR,day,gone,az,bj,bQ,item,dj,iJ,ln,ld,hn,hd,rn,rd,text⟩:=e';unfold af.cells fW;simp only[];go_simp
 by_cases h0:id=0
 case neg=>simp[h0]
 rw[if_pos h0]
 by_cases h1:az=0
 case neg=>simp[h1]
 rw[if_pos h1]
 by_cases h2:bj=0
 case neg=>simp[h2]
 rw[if_pos h2]
 by_cases h3:bQ=0
 case neg=>simp[h3]
 rw[if_pos h3]
 by_cases h4:item=0
 case neg=>simp[h4]
 rw[if_pos h4]
 by_cases h5:dj=0
 case neg=>simp[h5]
 rw[if_pos h5]
 by_cases h6:iJ=0
 case neg=>simp[h6]
 rw[if_pos h6]
 by_cases h7:ln.toList=[]
 case neg=>simp[h7]
 rw[if_pos h7]
 by_cases h8:ld.toList=[]
 case neg=>simp[h8]
 rw[if_pos h8]
 by_cases h9:hn.toList=[]
 case neg=>simp[h9]
 rw[if_pos h9]
 by_cases uT:hd.toList=[]
 case neg=>simp[uT]
 rw[if_pos uT]
 by_cases yE:rn.toList=[]
 case neg=>simp[yE]
 rw[if_pos yE]
 by_cases yF:rd.toList=[]
 case neg=>simp[yF]
 rw[if_pos yF]
 by_cases yG:text.toList=[]
 case neg=>simp[yG]
 rw[if_pos yG];simp[h0,h1,h2,h3,h4,h5,h6,h7,h8,h9,uT,yE,yF,yG]
theorem ai5 {e' e:af} (h:ES e' e) (W:ae):(KI .eql 33 (.agg e'.cells.toArray) (.agg #[.int .i64 e.kind,.int .i64 0,.int .i64 e.bR,.int .i64 e.day,.bool e.gone,.int .i64 0,.int .i64 0,.int .i64 0,.int .i64 0,.int .i64 0,.int .i64 0,.string ⟨#[]⟩,.string ⟨#[]⟩,.string ⟨#[]⟩,.string ⟨#[]⟩,.string ⟨#[]⟩,.string ⟨#[]⟩,.string ⟨#[]⟩])).run ah W=.ok (.bool (fW [] e')) W:=by
 obtain⟨h1,h2,h3,h4⟩:=h;rw[←h1,←h2,←h3,←h4];exact ai4 e' W
theorem anK {P:eI} {ops:Array aZ} {rest:List aZ} {o:aZ} {a:cu} {w:ae} {Q:Exit→cu→ae→Prop} (ct:o.guard=none) (t t':bF) (x y:ef) (ho:o.op=.binOp .eql t x y t') (u v:ai) (hx:a.eval x=u) (hy:a.eval y=v) (b:Bool)
 (n0:(eqGuard .eql t x y u v).run P w=.ok () w) (hr:(KI .eql t u v).run P w=.ok (.bool b) w) (h:dT P ops Q rest (a.put o.dst (.bool b)) w):dT P ops Q (o::rest) a w:=
 wpList_plain ct fun _ hK=>by
  have h2:=hK _ _ h;unfold vQ ot;simp only[ho,hx,hy];simp only[sY,Ef,n0,hr,sX];exact h2
theorem ajy (x y:ef) (cs ds:Array ai) (W:ae):(eqGuard .eql 33 x y (.agg cs) (.agg ds)).run ah W=.ok () W:=by kernel_rfl
def ej (Y:Nat→Prop) (w W:ae):Prop:=∀k,Y k→W.heap[k]?=w.heap[k]?
theorem ej.refl (Y:Nat→Prop) (w:ae):ej Y w w:=fun _ _=>rfl
theorem ej.trans {Y:Nat→Prop} {a b c:ae} (h:ej Y a b) (k:ej Y b c):ej Y a c:=fun i hi=>(k i hi).trans (h i hi)
theorem ej.gH {Y:Nat→Prop} {n:Nat} {w W:ae} (h:Below n w W) (hY:∀k,Y k→k<n):ej Y w W:=fun k hk=>h.block k (hY k hk)
theorem ej.mono {Y Y':Nat→Prop} {w W:ae} (h:ej Y w W) (hY:∀k,Y' k→Y k):ej Y' w W:=fun k hk=>h k (hY k hk)
theorem ej.boxed {Y:Nat→Prop} {w W:ae} (h:ej Y w W) {b:Nat} {t:bF} {v:ai} (hb:Boxed w b t v) (hY:Y b):Boxed W b t v:=(h b hY).trans hb
def eW (w:ae) (Y:Nat→Prop) (A:Option bI) (l:List af):Prop:=∀(i:Nat) (e:af),l[i]?=some e→∃b,A=some ⟨b,0,none⟩∧Y b∧w.rangeAt b (i*18) e.cells
theorem eW.keeps {w W:ae} {Y:Nat→Prop} {A:Option bI} {l:List af} (h:eW w Y A l) (k:ej Y w W):eW W Y A l:=fun i e he=>by
 obtain⟨b,e1,e2,e3⟩:=h i e he;exact⟨b,e1,e2,fun j v hv=>(World.cell?_of_block (w:=w) (k b e2)).trans (e3 j v hv)⟩
theorem eW.mono {w:ae} {Y Y':Nat→Prop} {A:Option bI} {l:List af} (h:eW w Y A l) (hY:∀k,Y k→Y' k):eW w Y' A l:=fun i e he=>by
 obtain⟨b,e1,e2,e3⟩:=h i e he;exact⟨b,e1,hY b e2,e3⟩
theorem mA {α:Type} {f:α→List ai} {s:Nat} (hf:∀x,(f x).length=s):∀(l:List α) (i:Nat) (x:α),l[i]?=some x→∀j,j<s→(l.flatMap f)[i*s+j]?=(f x)[j]?:=by
 intro l
 induction l with
 |nil=>intro i x h;simp at h
 | cons y l ih=>
   intro i x h j hj;rw[rN]
   cases i with
   |zero=>cases h;rw[agM (by rw[hf];omega)];congr 1;omega
   | succ i=>
     (have:(i+1)*s+j=s+(i*s+j):=by rw[Nat.succ_mul];omega);rw[this,Ot (by rw[hf];omega),hf,Nat.add_sub_cancel_left];exact ih i x (by simpa using h) j hj
theorem eW.iW {w:ae} {B n c:Nat} {A:Option bI} {l:List af} {Y:Nat→Prop} (h:OL w B 33 18 af.cells (.slice A n c) l) (hY:∀b,A=some ⟨b,0,none⟩→Y b):eW w Y A l:=by
 intro i e he;have hi:i<l.length:=(dL.1 he).1;obtain⟨g,cap,hv,_,ar,_⟩:=h.form (by omega);cases hv;refine⟨g,rfl,hY g rfl,fun j v hv=>?_⟩;have hj:j<18:=by have:=(dL.1 hv).1;simpa[af.cells] using this
 have hlen:(l.flatMap af.cells).length=l.length*18:=m_ (fun _=>rfl);rw[World.ownsRow.cellAt h (i*18+j) (by omega),mA (f:=af.cells) (s:=18) (fun _=>rfl) l i e he j hj];exact hv
section
variable {F:Fence} {n:Nat} {P:eI} {ops:Array aZ} {Q:Exit→cu→ae→Prop} {a:cu} {w:ae} {rest:List aZ} {o:aZ}
theorem Gk (ct:o.guard=none) (ty:bF) (x:ef) (ho:o.op=.load ty x)
 (b k:Nat) (hx:a.eval x=.pointer (some ⟨b,k,none⟩)) (cs:List ai) (d:TypeDesc) (hc:w.rangeAt b k cs)
 (hu:P.underlying ty=some d) (hd:d.isRow=true) (hi:(P.info? ty).map (·.size)=some cs.length)
 (h:vV F n P ops Q rest (a.put o.dst (.agg cs.toArray)) w):vV F n P ops Q (o::rest) a w:=by
 refine agj ct fun K hK=>?_;unfold adf;refine⟨?_,?_⟩
 · simp[adb,ho]
 · rw[ade F _ _ (by rw[ho];intro c kM;cases kM)]
   have hr:=run_loadAt_mid (P:=P) w b k ty cs d hc hu hd hi;obtain⟨z,hz⟩:=oQ (cs.toArray);rw[hz] at hr h;simp[ot,ho,hx,hr,Result.andThen];exact hK _ _ h
theorem Gl {V:ae} {old:Array ai} (ct:o.guard=none) (x y:ef) (ho:o.op=.store 33 x y) (hd:o.dst=none) (e:af)
 (hx:a.eval x=.pointer (some ⟨V.heap.size,0,none⟩)) (hy:a.eval y=.agg e.cells.toArray) (hi:(P.info? 33).map (·.size)=some e.cells.toArray.size) (hold:old.size=e.cells.toArray.size)
 (h:∀w',aR w' V.heap.size e→Below V.heap.size V w'→w'.heap.size=V.heap.size+1→vV F n P ops Q rest a w'):vV F n P ops Q (o::rest) a (V.alloc (.cells old 33)):=by
 have h2:=h _ (FY V old _ e rfl).1 (FY V old _ e rfl).2.1 (FY V old _ e rfl).2.2;refine agj ct fun K hK=>?_;unfold adf;refine⟨?_,?_⟩
 · simp[adb,ho]
 · rw[ade F _ _ (by rw[ho];intro c kM;cases kM)]
   have hr:=run_storeVar_row (P:=P) (V.alloc (.cells old 33)) V.heap.size 33 33 old e.cells.toArray (bG _ _) hi hold (rC e);obtain⟨z,hz⟩:=oQ (e.cells.toArray);rw[hz] at hr h2 hy;have h3:=hK _ _ h2;unfold ot;simp only[ho,hx,hy,Instr.storeAt,Instr.sureAddr,sY,Ef,sX,hr];show K (a.put o.dst undef) _;rw[hd];exact h3
end
end Go.Proofs.YteeifhlhpiimoaaGreatDoor
end
