/-
  The law KnownLate returns true. Conditions: its arguments lie in memory; the table of powers stands. A pair of integers, opened as an argument. Condition: the argument is what the row's first reading says.
-/
import Derived.Test.YteeifhlhpiimoaaGreatDoorZAa
import Derived.Test.YteeifhlhpiimoaaGreatDoorZAu
import Derived.Test.YteeifhlhpiimoaaGreatDoorZAp
import Derived.Lib.SmallJoins
set_option maxHeartbeats 8000000
set_option maxRecDepth 100000
section
namespace Go.Proofs.YteeifhlhpiimoaaGreatDoor
open Go Go.RowKit Go.Shelf Wr
attribute [local go_sem] Oper.semAt_some
theorem hu {U V W:World} (h:Hid (Below U.heap.size U V)) (hb:Below V.heap.size V W):Hid (Below U.heap.size U W):=bTr h hb
theorem hc {V W:World} {b:Nat} {cs:Array Value} {T:TypeId} (h:Hid (V.heap[b]?=some (.cells cs T (0,0)))) (hb:Below V.heap.size V W):Hid (W.heap[b]?=some (.cells cs T (0,0))):=bAt hb h
theorem hh {V W:World} {A:Option Addr} {n:Nat} {l:List D3} (h:Hid (HiAt V A n l)) (hb:Below V.heap.size V W):Hid (HiAt W A n l):=hZ (h.out.below hb)
theorem hl {V W:World} {N:Nat} {v:Value} {l:List Ent} (h:Hid (OL V N 33 18 Ent.cells v l)) (hb:Below V.heap.size V W):Hid (OL W N 33 18 Ent.cells v l):=hZ (h.out.below hb (Nat.le_refl _))
theorem hk {V W:World} {B:Bas} {P:Prop} (h:Hid (BasAt V (Old V) B∧P)) (hb:Below V.heap.size V W):Hid (BasAt W (Old W) B∧P):=hZ ⟨h.out.1.below hb,h.out.2⟩
theorem h8 {V W:World} {b n:Nat} {cs:Array Value} {T:TypeId} (h:Hid (V.heap[b]?=some (.cells cs T (0,0))∧n≤b)) (hb:Below V.heap.size V W):Hid (W.heap[b]?=some (.cells cs T (0,0))∧n≤b):=hZ ⟨below_at2 hb h.out.1,h.out.2⟩
theorem hg8 {V W:World} {N b n:Nat} {v:Value} {l:List Ent} {cs:Array Value} (hg:V.grownBy W v.ownBlock) (ha:Hid (OL V N 33 18 Ent.cells v l)) (h:Hid (V.heap[b]?=some (.cells cs 58 (0,0))∧n≤b)):Hid (W.heap[b]?=some (.cells cs 58 (0,0))∧n≤b):=hZ ⟨(hg.block _ (cells_lt h.out.1) (fun q=>ol_ne ha.out h.out.1 (by decide) q.symm)).trans h.out.1,h.out.2⟩
theorem lit0L {B:Nat} (W:World) (hB:B≤W.heap.size):OL (W.alloc (.cells #[] 33)) B 33 18 Ent.cells (.slice (some ⟨W.heap.size,0,none⟩) 0 0) []:=
 World.ownsRow_lit (base:=B) (e:=33) (size:=18) W #[] 0 hB (by unfold maxLen;omega) rfl
theorem layE {U W:World} (h:Hid (Below U.heap.size U W)):∃V g,W.alloc (.cells #[] 33)=V∧W.heap.size=g∧Below W.heap.size W V∧Hid (OL V U.heap.size 33 18 Ent.cells (.slice (some ⟨g,0,none⟩) 0 0) [])∧Hid (V.heap[g]?=some (.cells #[] 33 (0,0))):=⟨_,_,rfl,rfl,below_new _ _,hZ (lit0L W h.out.size),hZ (World.alloc_heap_new _ _)⟩
theorem emptyE {W:World} {g b:Nat} {T T':TypeId} {e:Ent} (h1:W.heap[g]?=some (.cells #[] T (0,0))) (h2:W.heap[b]?=some (.cells e.cells.toArray T' (0,0))) (q:g=b):False:=by
 subst q;rw[h1] at h2;injection h2 with h2;injection h2 with h2 _ _;have:=congrArg Array.size h2;simp[Ent.cells] at this
theorem sh_3 {α β γ:Type} {F G:α→β→γ→Prop} {Z:Prop} (h:(∀a b c,F a b c→G a b c)→Z) (k:∀a b c,F a b c→G a b c):Z:=h k
theorem sh_4 {α β γ δ:Type} {F G:α→β→γ→δ→Prop} {Z:Prop} (h:(∀a b c d,F a b c d→G a b c d)→Z) (k:∀a b c d,F a b c d→G a b c d):Z:=h k
theorem sh_5 {α β γ δ ε:Type} {F G:α→β→γ→δ→ε→Prop} {Z:Prop} (h:(∀a b c d e,F a b c d e→G a b c d e)→Z) (k:∀a b c d e,F a b c d e→G a b c d e):Z:=h k
theorem sh_7 {α β γ δ ε ζ η:Type} {F G:α→β→γ→δ→ε→ζ→η→Prop} {Z:Prop} (h:(∀a b c d e f g,F a b c d e f g→G a b c d e f g)→Z) (k:∀a b c d e f g,F a b c d e f g→G a b c d e f g):Z:=h k
theorem sh_8 {α β γ δ ε ζ η θ:Type} {F G:α→β→γ→δ→ε→ζ→η→θ→Prop} {Z:Prop} (h:(∀a b c d e f g h,F a b c d e f g h→G a b c d e f g h)→Z) (k:∀a b c d e f g h,F a b c d e f g h→G a b c d e f g h):Z:=h k
theorem sh_11 {α β γ δ ε ζ η θ ι κ μ:Type} {F G:α→β→γ→δ→ε→ζ→η→θ→ι→κ→μ→Prop} {Z:Prop} (h:(∀a b c d e f g h i j k,F a b c d e f g h i j k→G a b c d e f g h i j k)→Z) (kk:∀a b c d e f g h i j k,F a b c d e f g h i j k→G a b c d e f g h i j k):Z:=h kk
structure LateF (L:List Ent) (ec:Ent) (pd day:Int) (ps1 ps2:List D3) (dp:D3):Prop where
 q1:LateQ L day ps1
 q2:LateQ (([]++L)++[ec]) day ps2
 w1:∀e∈L,e.Wire
 w2:∀e∈([]++L)++[ec],e.Wire
 early:day<pd→ps2=ps1
 late:pd≤day→ps2.Perm (dp::ps1)
 dok:dp.Ok
 dpt:ptOf ec=dp.pt
theorem late_all (x:List Six) (y:Six) (hy:kindOf y=1) {pd day:Int} (h0:0≤pd) (h1:pd≤1000) (h2:0≤day):∃ps1 ps2 dp,LateF (lateL x) (lateP y pd) pd day ps1 ps2 dp:=by
 have hw1:∀e∈lateL x,e.Wire:=fun e he=>by
  rcases List.mem_append.1 he with r|r
  · obtain⟨z,-,rfl⟩:=List.mem_map.1 r;exact(some_texts z).wire
  · rw[List.mem_singleton.1 r];exact(⟨by decide,by decide,by decide,by decide,by decide,by decide,by decide⟩:Texts rateR).wire
 have hw2:∀e∈([]++lateL x)++[lateP y pd],e.Wire:=fun e he=>by
  rw[List.nil_append] at he;rcases List.mem_append.1 he with r|r
  · exact hw1 e r
  · rw[List.mem_singleton.1 r]
    have t:=some_texts y;exact(⟨t.ln,t.ld,t.hn,t.hd,t.rn,t.rd,t.text⟩:Texts (lateP y pd)).wire
 have hd:=dOf_spec (late_dok hy pd)
 by_cases hlt:day<pd
 · exact⟨_,_,_,⟨late_q1 h2,by rw[List.nil_append];exact late_q3 h2 hlt,hw1,hw2,fun _=>rfl,fun h=>by omega,hd.1,hd.2⟩⟩
 · exact⟨_,_,_,⟨late_q1 h2,by rw[List.nil_append];exact late_q2 hy h0 h1 (by omega),hw1,hw2,fun h=>by omega,fun h=>pts_perm hy h0 h1 h,hd.1,hd.2⟩⟩
theorem fresh_six (av v0 v1:Int) (h0:I64 av) (h1:I64 v0) (h2:I64 v1):Six.Ok ⟨0,0,v0,v1,av,v1⟩∧kindOf ⟨0,0,v0,v1,av,v1⟩=1:=⟨⟨(by show I64 0;unfold I64;decide),(by show I64 0;unfold I64;decide),h1,h2,h0,h2⟩,(by show((1+pickZ 0 9:Int)).toNat=1;decide)⟩
theorem klate_walk (w:World) (hp:Pow10 w) (l1:List Six) (A1:Option Addr) (n1 c1:Nat) (av v0 v1 fv dv tv:Int) (hn1:l1.length=n1) (hm1:n1≤maxLen) (ho1:∀y∈l1,y.Ok) (ha:I64 av) (hv0:I64 v0) (hv1:I64 v1) (hf:I64 fv) (hd:I64 dv) (ht:I64 tv) (hA1:SixAt w A1 l1):
 Calls Tryz.prog 10 #[.slice A1 n1 c1,.int .i64 av,.agg #[.int .i64 v0,.int .i64 v1],.int .i64 fv,.int .i64 dv,.int .i64 tv] w (ValP w true):=by
 have HP:=hZ hp;have IE:=fun e:Ent=>hZ (ientry (e:=e));have IS:=fun e:Ent=>hZ (show(Tryz.prog.info? 33).map (·.size)=some e.cells.toArray.size from ientry (e:=e));have IH:=hZ (show(Tryz.prog.info? 58).map (·.size)=some 3 by kernel_rfl);have IHL:=fun a b c:Value=>hZ (show(Tryz.prog.info? 58).map (·.size)=some [a,b,c].length by kernel_rfl);have IIL:=fun a b c d:Value=>hZ (show(Tryz.prog.info? 31).map (·.size)=some [a,b,c,d].length by kernel_rfl);have II:=hZ (show(Tryz.prog.info? 31).map (·.size)=some 4 by kernel_rfl);have S1:=hZ (fun W (h:Below w.heap.size w W)=>some_walk l1 A1 n1 c1 hn1 hm1 ho1 W (hA1.below h));obtain⟨hok,hki⟩:=fresh_six av v0 v1 ha hv0 hv1;have S2:=hZ (fun W b (h:SixAt W (some ⟨b,0,none⟩) [⟨0,0,v0,v1,av,v1⟩])=>some_walk [⟨0,0,v0,v1,av,v1⟩] (some ⟨b,0,none⟩) 1 1 rfl (by unfold maxLen;decide) (fun y hy=>by rw[List.mem_singleton.1 hy];exact hok) W h);have r1:=pickZ_range fv (n:=40) (by omega);have r2:=pickZ_range dv (n:=40) (by omega);have r3:=pickZ_range tv (n:=100) (by omega);obtain⟨pd,hp1⟩:=oQ (pickZ fv 40);obtain⟨day,hp2⟩:=oQ (pickZ dv 40);obtain⟨time,hp3⟩:=oQ (pickZ tv 100);rw[hp1] at r1;rw[hp2] at r2;rw[hp3] at r3;have PK:∀(x n p:Int),I64 x→1≤n→n≤100→pickZ x n=p→∀W,Calls Tryz.prog 13 #[.int .i64 x,.int .i64 n] W fun e W'=>e=.returned (.int .i64 p)∧W=W':=fun x n p hx h1 h2 hp W=>by rw[←hp];exact pick19_walk W x n hx.1 hx.2 h1 (by omega)
 have P1:=hZ (PK fv 40 pd hf (by omega) (by omega) hp1);have P2:=hZ (PK dv 40 day hd (by omega) (by omega) hp2);have P3:=hZ (PK tv 100 time ht (by omega) (by omega) hp3);obtain⟨ps1,ps2,dp,HLF⟩:=late_all (l1.take 30) ⟨0,0,v0,v1,av,v1⟩ hki r1.1 (by omega) r2.1;have hl30:((l1.take 30).map someE).length≤30:=by simp;omega
 have HR3:=hZ (And.intro r3.1 (show time≤1000 by omega));unfold lateL at HLF;obtain⟨L,hL⟩:=oQ ((l1.take 30).map someE);rw[hL] at S1 HLF hl30;obtain⟨p0,hp0⟩:=oQ (someE ⟨0,0,v0,v1,av,v1⟩);have hec:lateP ⟨0,0,v0,v1,av,v1⟩ pd={p0 with kind:=1,ver:=1,gone:=false,id:=500,item:=2,day:=pd}:=by unfold lateP;rw[hp0]
 have e30:List.map someE (List.take 30 [(⟨0,0,v0,v1,av,v1⟩:Six)])=[p0]:=by rw[←hp0];rfl
 rw[e30] at S2;obtain⟨ec,hec2⟩:=oQ (lateP ⟨0,0,v0,v1,av,v1⟩ pd);rw[hec2] at HLF hec;have HLF:=hZ HLF;have HEC:=hZ hec;have HED:Hid (ec.day=pd):=hZ (by rw[hec]);obtain⟨n0,hn0⟩:=oQ (L.length);have HN0:=hZ (And.intro hn0 (show n0≤30 by omega));obtain⟨LL,hLL⟩:=oQ (L++[rateR]);rw[hLL] at HLF;have HLL:=hZ (And.intro hLL (show LL.length=n0+1 by rw[←hLL,List.length_append,hn0];rfl));obtain⟨gn,e1⟩:=oQ (nB 3);obtain⟨gd,e2⟩:=oQ (dB 3);have HG:=hZ (And.intro e1 e2);obtain⟨b8,w1,q1,q2,q3,hf1,hs1⟩:=(At.start w).alloc2 (.cells #[.int .i64 v0,.int .i64 v1] 77);have HQ:=hZ (And.intro q1 q2);have HF1:Hid (St w w1 [(b8,.cells #[.int .i64 v0,.int .i64 v1] 77 (0,0))] []):=hZ ⟨hf1,fun B h=>(by cases h),hp.below hf1.below⟩;clear hp hn1 hm1 ho1 ha hv0 hv1 hf hd ht hA1 hok hki r1 r2 r3 hp1 hp2 hp3 PK hl30 hL hp0 hec hec2 e30 hn0 hLL e1 e2 q1 q2 q3 hf1 hs1
 go_enter Tryz.func10,Tryz.ntmps10
 go_wp2_with (first
  |(go_at_call 11;obtain⟨q1,q2⟩:=HQ.out;(rw[q1,q2]);refine(sane_walk _ HF1.out.pow).mono ?_;rintro e2 wa ⟨rfl,hb⟩;have HFa:=hZ (HF1.out.step hb);clear q1 q2 hb)
  | (go_at_call 12;refine(S1.out wa HFa.out.at_.below).mono ?_;rintro e2 wb ⟨v27,rfl,ho,hb⟩
     obtain⟨AL0,cL0,rfl,hcl,hcm⟩:=ho.slice;rw[HN0.out.1] at ho⊢;have HBb:=hZ hb;have HOb:=hZ ho
     clear hb ho S1 hcl hcm)
  |(refine wpList_build rfl 33 #[(0,.const (.int .i64 2)),(2,.const (.int .i64 9)),(8,.const (.int .i64 2)),(12,.tmp 28)] rfl rateR.cells.toArray (by kernel_rfl) ?_)
  | ((with_reducible refine wpList_build_ent rfl (.tmp 29) rfl rateR ?hx ?_);(case hx=>rfl);intro bn Vc hbn hVc
     have HVc:=hZ (show Vc.heap[bn]?=some (.cells rateR.cells.toArray 33 (0,0)) from by rw[←hVc,←hbn];exact World.alloc_heap_new _ _);have HBc:Hid (Below wb.heap.size wb Vc):=hZ (by rw[←hVc];exact below_new _ _)
     clear hbn hVc)
  | (at_builtin;refine wpList_app rfl (.tmp 27) (.tmp 30) 25 rfl elemEnt (.slice AL0 n0 cL0) L n0 HN0.out.1 rfl (HOb.out.below HBc.out (Nat.le_refl _)) rateR bn rateR.cells.toArray rfl HVc.out rfl rfl (one_cells' _) (by have:=HN0.out;unfold maxLen;omega) (by have:=HN0.out;omega) (Nat.le_trans HBb.out.size HBc.out.size) ?_;intro gL cL wd ho _ _ _ hb
     rw[HLL.out.1] at ho;have HOd:=hZ ho;have HFd:=hZ (HFa.out.step ((HBb.out.trans (HBc.out.mono HBb.out.size)).trans hb));have y0:=HFd.out.at_.cell (b:=b8) (cs:=#[.int .i64 v0,.int .i64 v1]) (t:=77) (by simp) (i:=0) rfl;have y1:=HFd.out.at_.cell (b:=b8) (cs:=#[.int .i64 v0,.int .i64 v1]) (t:=77) (by simp) (i:=1) rfl
     clear ho hb HBb HBc HVc HOb HFa)
  |(refine wpList_build rfl 78 #[(0,.const (.int .i64 0)),(1,.const (.int .i64 0)),(2,.tmp 33),(3,.tmp 35),(4,.tmp 36),(5,.tmp 38)] rfl (Six.cells ⟨0,0,v0,v1,av,v1⟩).toArray (by kernel_rfl) ?_)
  | ((with_reducible refine wpList_build_six rfl (.tmp 39) rfl ⟨0,0,v0,v1,av,v1⟩ ?hx ?_);(case hx=>rfl);intro bs we hbs hb hsx
     rw[←hbs] at hb;have HSX:=hZ hsx;have HFe:=hZ (HFd.out.step hb);have HOe:=hl HOd hb
     clear hbs hb hsx HFd HOd y0 y1)
  | (go_at_call 12;refine(S2.out we bs HSX.out).mono ?_;rintro e2 wf ⟨v41,rfl,ho,hb⟩
     obtain⟨gP,cP,rfl,-,-,-,-⟩:=ho.form (by simp);have HRP:=hZ (ho.row (i:=0) (e:=p0) rfl);have HFf:=hZ (HFe.out.step hb);have HOf:=hl HOe hb
     clear ho hb S2 HSX HFe HOe)
  |((with_reducible refine wpList_load_mid rfl 33 (.tmp 46) rfl gP (0*18) ?hx p0.cells _ HRP.out Tryz.underlying33 rfl (IE _).out ?_);(case hx=>first|rfl|simp[Addr.add]))
  | ((with_reducible refine store_new rfl (.tmp 16) (.tmp 47) rfl rfl p0 ?hx ?hy (IS _).out ?hold ?_);(case hx=>rfl);(case hy=>rfl);(case hold=>rfl);intro w5 he5 hb5 hs5
     obtain⟨b16,hb16⟩:=oQ (wf.heap.size);rw[hb16] at he5⊢;have x0:=he5.cell (i:=0) rfl;have f0:=he5.free 0;have he6:=he5.setc (e':={p0 with kind:=1}) 0 (.int .i64 1) rfl;obtain⟨w6,hw6⟩:=oQ (w5.setCell ⟨b16,0,none⟩ (.int .i64 1));rw[hw6] at he6;have x2:=he6.cell (i:=2) rfl;have f2:=he6.free 2;have he7:=he6.setc (e':={p0 with kind:=1,ver:=1}) 2 (.int .i64 1) rfl;obtain⟨w7,hw7⟩:=oQ (w6.setCell ⟨b16,2,none⟩ (.int .i64 1));rw[hw7] at he7;have x4:=he7.cell (i:=4) rfl;have f4:=he7.free 4;have he8:=he7.setc (e':={p0 with kind:=1,ver:=1,gone:=false}) 4 (.bool false) rfl;obtain⟨w8,hw8⟩:=oQ (w7.setCell ⟨b16,4,none⟩ (.bool false));rw[hw8] at he8;have x1:=he8.cell (i:=1) rfl;have f1:=he8.free 1;have he9:=he8.setc (e':={p0 with kind:=1,ver:=1,gone:=false,id:=500}) 1 (.int .i64 500) rfl;obtain⟨w9,hw9⟩:=oQ (w8.setCell ⟨b16,1,none⟩ (.int .i64 500));rw[hw9] at he9;have x8:=he9.cell (i:=8) rfl;have f8:=he9.free 8;have he10:=he9.setc (e':={p0 with kind:=1,ver:=1,gone:=false,id:=500,item:=2}) 8 (.int .i64 2) rfl;obtain⟨w10,hw10⟩:=oQ (w9.setCell ⟨b16,8,none⟩ (.int .i64 2));rw[hw10] at he10;have x3:=he10.cell (i:=3) rfl;have f3:=he10.free 3;have he11:EntAt (w10.setCell ⟨b16,3,none⟩ (.int .i64 pd)) b16 {p0 with kind:=1,ver:=1,gone:=false,id:=500,item:=2,day:=pd}:=he10.setc 3 (.int .i64 pd) rfl;obtain⟨wg,hw11⟩:=oQ (w10.setCell ⟨b16,3,none⟩ (.int .i64 pd));rw[hw11,←HEC.out] at he11;have hle:=Nat.le_of_eq hb16;(have hbg:Below wf.heap.size wf wg:=by rw[←hw11,←hw10,←hw9,←hw8,←hw7,←hw6];exact Below.setCell (p:=⟨b16,3,none⟩) (Below.setCell (p:=⟨b16,8,none⟩) (Below.setCell (p:=⟨b16,1,none⟩) (Below.setCell (p:=⟨b16,4,none⟩) (Below.setCell (p:=⟨b16,2,none⟩) (Below.setCell (p:=⟨b16,0,none⟩) hb5 hle _) hle _) hle _) hle _) hle _) hle _);have HFg:=hZ (HFf.out.step hbg)
     have HOg:=hl HOf hbg;have H16:Hid (wg.heap[b16]?=some (.cells ec.cells.toArray 33 (0,0))):=hZ he11;have C1:=hZ (knownOf_walk LL day (some ⟨gL,0,none⟩) (n0+1) cL HLL.out.2 (by have:=HN0.out;omega) wg (EAt.of_ol (Y:=Old wg) HOg.out (fun b e=>by have:=(HOg.out.lt b (by rw[e];rfl)).2;exact this)) HLF.out.w1 HFg.out.pow)
     clear he5 hb5 hs5 hb16 he6 he7 he8 he9 he10 he11 hle hbg HFf HOf HRP)
  |(go_at_call 13;(with_reducible refine(P1.out _).mono ?_);rintro e2 W2 ⟨rfl,rfl⟩;clear P1)
  |(go_at_call 13;(with_reducible refine(P2.out _).mono ?_);rintro e2 W2 ⟨rfl,rfl⟩;clear P2)
  |(go_at_call 13;(with_reducible refine(P3.out _).mono ?_);rintro e2 W2 ⟨rfl,rfl⟩;clear P3)
  | (go_at_call 15;(with_reducible refine C1.out.mono ?_);rintro e2 wh ⟨B1,rfl,hB,hI,hb⟩
     have HFh:=hZ (HFg.out.step hb);have HOh:=hl HOg hb;have H16:=hc H16 hb;have CH:=hZ (late_hist gn gd HG.out.1 HG.out.2 hI HLF.out.q1 wh hB)
     clear hB hI hb C1 HFg HOg hw6 hw7 hw8 hw9 hw10 hw11 x0 f0 x1 f1 x2 f2 x3 f3 x4 f4 x8 f8)
  | (go_at_call 27;(with_reducible refine CH.out.mono ?_);rintro e2 wi ⟨Aa,na,ca,rfl,hhi,hb⟩
     have HH1:=hZ hhi;have HFi:=hZ (HFh.out.step hb);have HOi:=hl HOh hb;have H16:=hc H16 hb
     clear hhi hb CH HFh HOh)
  | ((with_reducible refine wpList_fresh rfl 58 (.tmp 17) (.tmp 63) rfl rfl (#[.string gn,.string gd,.slice Aa na ca]) ?hx ?hy ?hi ?ho ?h1 ?_);(case hx=>rfl);(case hy=>rfl);(case hi=>exact IH.out);(case ho=>rfl);(case h1=>exact one_hist _ _ _ rfl);intro b17 wj hb17 hb h17;rw[hb17]
     have hbd:=Below.drew hb;have HFj:Hid (St w wj.drew [(b8,.cells #[.int .i64 v0,.int .i64 v1] 77 (0,0))] []):=hZ (HFi.out.step hbd);have HOL:Hid (OL wj.drew wa.heap.size 33 18 Ent.cells (.slice (some ⟨gL,0,none⟩) (n0+1) cL) LL):=hl HOi hbd;have H17:Hid (wj.drew.heap[b17]?=some (.cells #[.string gn,.string gd,.slice Aa na ca] 58 (0,0))):=hZ h17;have H16:Hid (wj.drew.heap[b16]?=some (.cells ec.cells.toArray 33 (0,0))):=hc H16 hbd;have HH1:Hid (HiAt wj.drew Aa na ps1):=hh HH1 hbd;have HSS:Hid (∀W,Below wj.drew.heap.size wj.drew W→World.rangeAt W b16 0 ec.cells):=hZ fun W h=>range_of (below_at2 h H16.out)
     clear hb17 hb h17 hbd HFi HOi)
  |fail)
 refine wp_region_noPanic ?_;refine wp_region_held_drew (S:=fun U=>World.rangeAt U b16 0 ec.cells) (by kernel_rfl) (HSS.out wj.drew (Below.refl _ _)) (fun hHeld=> ?_);obtain⟨U0,hU0⟩:=oQ (wj.drew);rw[hU0] at HSS HOL HFj H17 H16 HH1 hHeld⊢;clear hU0;have HBQ:Hid (Below U0.heap.size U0 U0):=hZ (Below.refl _ _);refine tk 1 ?_;refine tk 6 ?_;refine tl 3 rfl (yieldsIf_load_mid (by rfl) 33 (.tmp 16) rfl b16 0 (by rfl) ec.cells _ (fun w hw=>hw) Tryz.underlying33 rfl (IE _).out) ?_;apply sh_11;intro N0;apply sh_8;intro N1;apply sh_7;intro N2;apply sh_5;intro N3;apply sh_4;intro N4;apply sh_4;intro N5;apply sh_4;intro N6;apply sh_3;intro N7;apply sh_3;intro N8;apply sh_3;intro N9
 ·
  refine rd [0,4,9] ?_;refine rc (fun K hK=> ?_) ?_
  ·
   go_simp;obtain⟨V0,g0,q1,q2,hb,ha,hr⟩:=layE HBQ;rw[q1,q2];have HBQ:=hu HBQ hb
   try have HA:=hl HA hb
   try have HR:=hc HR hb
   try have H4:=hc H4 hb
   try have H8:=h8 H8 hb
   try have HC:=hk HC hb
   try have HH:=hh HH hb
   have HA:=ha;have HR:=hr;clear q1 q2 hb ha hr;refine kk hK (HSS.out _ HBQ.out) (fun hHeld=> ?_);clear hK K;refine rd [2,4,9] ?_;refine rc (fun K hK=> ?_) ?_
   ·
    refine step_cat (by rfl) (.tmp 64) (.tmp 65) 25 (by rfl) elemEnt (fun _=>rfl) _ [] (by rfl) HA.out (some ⟨gL,0,none⟩) LL (n0+1) cL HLL.out.2 (by rfl) (fun h=>by cases h) ((HOL.out.below HBQ.out (Nat.le_refl _)).cats) (fun x _=>one_cells' x) (by have:=HN0.out;unfold maxLen;simp;omega) (by have:=HN0.out;simp;omega) HBQ.out.size ?_;intro v66 V2 h2 hg hb;have HBQ:=hZ (HBQ.out.trans hb)
    try have H4:=hZ ((hg.block _ (cells_lt H4.out) (fun q=>emptyE HR.out H4.out (Option.some.inj q).symm)).trans H4.out)
    try have H8:=hg8 hg HA H8
    have HA:=hZ h2;have HR:=hZ trivial;clear h2 hg hb;refine kk hK (HSS.out _ HBQ.out) (fun hHeld=> ?_);clear hK K;refine rd [4,9] ?_;refine rc (fun K hK=> ?_) ?_
    ·
     refine step_build_ent (by rfl) (.tmp 67) (by rfl) ec (by rfl) ?_;intro b4 V4 hq hb h4;rw[←hq] at hb;have HBQ:=hu HBQ hb
     try have HA:=hl HA hb
     try have HR:=hc HR hb
     try have H4:=hc H4 hb
     try have H8:=h8 H8 hb
     try have HC:=hk HC hb
     try have HH:=hh HH hb
     have H4:=hZ h4;clear h4 hb hq;refine kk hK (HSS.out _ HBQ.out) (fun hHeld=> ?_);clear hK K;have HX:=(And.intro HBQ (And.intro HA (And.intro HR (And.intro H4 hHeld))));exact N4 V4 g0 v66 b4 HX
    refine rcE fun K hK=> ?_;go_simp;obtain⟨V9,b18,q1,q2,hb,hn⟩:=layH HBQ;rw[q1,q2];have HBQ:=hu HBQ hb
    try have HA:=hl HA hb
    try have HR:=hc HR hb
    try have H4:=hc H4 hb
    try have H8:=h8 H8 hb
    try have HC:=hk HC hb
    try have HH:=hh HH hb
    have H8:=hn;clear q1 q2 hb hn;refine kk hK (HSS.out _ HBQ.out) (fun hHeld=> ?_);clear hK K;have HX:=(And.intro HBQ (And.intro HA (And.intro HR (And.intro H8 hHeld))));exact N5 V9 g0 v66 b18 HX
   refine rc (fun K hK=> ?_) ?_
   ·
    refine step_build_ent (by rfl) (.tmp 67) (by rfl) ec (by rfl) ?_;intro b4 V4 hq hb h4;rw[←hq] at hb;have HBQ:=hu HBQ hb
    try have HA:=hl HA hb
    try have HR:=hc HR hb
    try have H4:=hc H4 hb
    try have H8:=h8 H8 hb
    try have HC:=hk HC hb
    try have HH:=hh HH hb
    have H4:=hZ h4;clear h4 hb hq;refine kk hK (HSS.out _ HBQ.out) (fun hHeld=> ?_);clear hK K;have HX:=(And.intro HBQ (And.intro HA (And.intro HR (And.intro H4 hHeld))));exact N7 V4 g0 b4 HX
   refine rcE fun K hK=> ?_;go_simp;obtain⟨V9,b18,q1,q2,hb,hn⟩:=layH HBQ;rw[q1,q2];have HBQ:=hu HBQ hb
   try have HA:=hl HA hb
   try have HR:=hc HR hb
   try have H4:=hc H4 hb
   try have H8:=h8 H8 hb
   try have HC:=hk HC hb
   try have HH:=hh HH hb
   have H8:=hn;clear q1 q2 hb hn;refine kk hK (HSS.out _ HBQ.out) (fun hHeld=> ?_);clear hK K;have HX:=(And.intro HBQ (And.intro HA (And.intro HR (And.intro H8 hHeld))));exact N8 V9 g0 b18 HX
  refine rc (fun K hK=> ?_) ?_
  ·
   refine step_build_ent (by rfl) (.tmp 67) (by rfl) ec (by rfl) ?_;intro b4 V4 hq hb h4;rw[←hq] at hb;have HBQ:=hu HBQ hb
   try have HA:=hl HA hb
   try have HR:=hc HR hb
   try have H4:=hc H4 hb
   try have H8:=h8 H8 hb
   try have HC:=hk HC hb
   try have HH:=hh HH hb
   have H4:=hZ h4;clear h4 hb hq;refine kk hK (HSS.out _ HBQ.out) (fun hHeld=> ?_);clear hK K;refine rd [0,9] ?_;refine rc (fun K hK=> ?_) ?_
   ·
    go_simp;obtain⟨V0,g0,q1,q2,hb,ha,hr⟩:=layE HBQ;rw[q1,q2];have HBQ:=hu HBQ hb
    try have HA:=hl HA hb
    try have HR:=hc HR hb
    try have H4:=hc H4 hb
    try have H8:=h8 H8 hb
    try have HC:=hk HC hb
    try have HH:=hh HH hb
    have HA:=ha;have HR:=hr;clear q1 q2 hb ha hr;refine kk hK (HSS.out _ HBQ.out) (fun hHeld=> ?_);clear hK K;exact N7 V0 g0 b4 ⟨HBQ,HA,HR,H4,hHeld⟩
   refine rcE fun K hK=> ?_;go_simp;obtain⟨V9,b18,q1,q2,hb,hn⟩:=layH HBQ;rw[q1,q2];have HBQ:=hu HBQ hb
   try have HA:=hl HA hb
   try have HR:=hc HR hb
   try have H4:=hc H4 hb
   try have H8:=h8 H8 hb
   try have HC:=hk HC hb
   try have HH:=hh HH hb
   have H8:=hn;clear q1 q2 hb hn;refine kk hK (HSS.out _ HBQ.out) (fun hHeld=> ?_);clear hK K;have HX:=(And.intro HBQ (And.intro H4 (And.intro H8 hHeld)));exact N9 V9 b4 b18 HX
  refine rcE fun K hK=> ?_;go_simp;obtain⟨V9,b18,q1,q2,hb,hn⟩:=layH HBQ;rw[q1,q2];have HBQ:=hu HBQ hb
  try have HA:=hl HA hb
  try have HR:=hc HR hb
  try have H4:=hc H4 hb
  try have H8:=h8 H8 hb
  try have HC:=hk HC hb
  try have HH:=hh HH hb
  have H8:=hn;clear q1 q2 hb hn;refine kk hK (HSS.out _ HBQ.out) (fun hHeld=> ?_);clear hK K;refine rd [0,4] ?_;refine rc (fun K hK=> ?_) ?_
  ·
   go_simp;obtain⟨V0,g0,q1,q2,hb,ha,hr⟩:=layE HBQ;rw[q1,q2];have HBQ:=hu HBQ hb
   try have HA:=hl HA hb
   try have HR:=hc HR hb
   try have H4:=hc H4 hb
   try have H8:=h8 H8 hb
   try have HC:=hk HC hb
   try have HH:=hh HH hb
   have HA:=ha;have HR:=hr;clear q1 q2 hb ha hr;refine kk hK (HSS.out _ HBQ.out) (fun hHeld=> ?_);clear hK K;exact N8 V0 g0 b18 ⟨HBQ,HA,HR,H8,hHeld⟩
  refine rcE fun K hK=> ?_;refine step_build_ent (by rfl) (.tmp 67) (by rfl) ec (by rfl) ?_;intro b4 V4 hq hb h4;rw[←hq] at hb;have HBQ:=hu HBQ hb
  try have HA:=hl HA hb
  try have HR:=hc HR hb
  try have H4:=hc H4 hb
  try have H8:=h8 H8 hb
  try have HC:=hk HC hb
  try have HH:=hh HH hb
  have H4:=hZ h4;clear h4 hb hq;refine kk hK (HSS.out _ HBQ.out) (fun hHeld=> ?_);clear hK K;exact N9 V4 b4 b18 ⟨HBQ,H4,H8,hHeld⟩
 ·
  rintro XN9 b4 b18 ⟨HBQ,H4,H8,hHeld⟩;refine rd [0] ?_;refine rcE fun K hK=> ?_;go_simp;obtain⟨V0,g0,q1,q2,hb,ha,hr⟩:=layE HBQ;rw[q1,q2];have HBQ:=hu HBQ hb
  try have HA:=hl HA hb
  try have HR:=hc HR hb
  try have H4:=hc H4 hb
  try have H8:=h8 H8 hb
  try have HC:=hk HC hb
  try have HH:=hh HH hb
  have HA:=ha;have HR:=hr;clear q1 q2 hb ha hr;refine kk hK (HSS.out _ HBQ.out) (fun hHeld=> ?_);clear hK K;have HX:=(And.intro HBQ (And.intro HA (And.intro HR (And.intro H4 (And.intro H8 hHeld)))));exact N6 V0 g0 b4 b18 HX
 ·
  rintro XN8 g0 b18 ⟨HBQ,HA,HR,H8,hHeld⟩;refine rd [2,4] ?_;refine rc (fun K hK=> ?_) ?_
  ·
   refine step_cat (by rfl) (.tmp 64) (.tmp 65) 25 (by rfl) elemEnt (fun _=>rfl) _ [] (by rfl) HA.out (some ⟨gL,0,none⟩) LL (n0+1) cL HLL.out.2 (by rfl) (fun h=>by cases h) ((HOL.out.below HBQ.out (Nat.le_refl _)).cats) (fun x _=>one_cells' x) (by have:=HN0.out;unfold maxLen;simp;omega) (by have:=HN0.out;simp;omega) HBQ.out.size ?_;intro v66 V2 h2 hg hb;have HBQ:=hZ (HBQ.out.trans hb)
   try have H4:=hZ ((hg.block _ (cells_lt H4.out) (fun q=>emptyE HR.out H4.out (Option.some.inj q).symm)).trans H4.out)
   try have H8:=hg8 hg HA H8
   have HA:=hZ h2;have HR:=hZ trivial;clear h2 hg hb;refine kk hK (HSS.out _ HBQ.out) (fun hHeld=> ?_);clear hK K;exact N5 V2 g0 v66 b18 ⟨HBQ,HA,HR,H8,hHeld⟩
  refine rcE fun K hK=> ?_;refine step_build_ent (by rfl) (.tmp 67) (by rfl) ec (by rfl) ?_;intro b4 V4 hq hb h4;rw[←hq] at hb;have HBQ:=hu HBQ hb
  try have HA:=hl HA hb
  try have HR:=hc HR hb
  try have H4:=hc H4 hb
  try have H8:=h8 H8 hb
  try have HC:=hk HC hb
  try have HH:=hh HH hb
  have H4:=hZ h4;clear h4 hb hq;refine kk hK (HSS.out _ HBQ.out) (fun hHeld=> ?_);clear hK K;exact N6 V4 g0 b4 b18 ⟨HBQ,HA,HR,H4,H8,hHeld⟩
 ·
  rintro XN7 g0 b4 ⟨HBQ,HA,HR,H4,hHeld⟩;refine rd [2,9] ?_;refine rc (fun K hK=> ?_) ?_
  ·
   refine step_cat (by rfl) (.tmp 64) (.tmp 65) 25 (by rfl) elemEnt (fun _=>rfl) _ [] (by rfl) HA.out (some ⟨gL,0,none⟩) LL (n0+1) cL HLL.out.2 (by rfl) (fun h=>by cases h) ((HOL.out.below HBQ.out (Nat.le_refl _)).cats) (fun x _=>one_cells' x) (by have:=HN0.out;unfold maxLen;simp;omega) (by have:=HN0.out;simp;omega) HBQ.out.size ?_;intro v66 V2 h2 hg hb;have HBQ:=hZ (HBQ.out.trans hb)
   try have H4:=hZ ((hg.block _ (cells_lt H4.out) (fun q=>emptyE HR.out H4.out (Option.some.inj q).symm)).trans H4.out)
   try have H8:=hg8 hg HA H8
   have HA:=hZ h2;have HR:=hZ trivial;clear h2 hg hb;refine kk hK (HSS.out _ HBQ.out) (fun hHeld=> ?_);clear hK K;exact N4 V2 g0 v66 b4 ⟨HBQ,HA,HR,H4,hHeld⟩
  refine rcE fun K hK=> ?_;go_simp;obtain⟨V9,b18,q1,q2,hb,hn⟩:=layH HBQ;rw[q1,q2];have HBQ:=hu HBQ hb
  try have HA:=hl HA hb
  try have HR:=hc HR hb
  try have H4:=hc H4 hb
  try have H8:=h8 H8 hb
  try have HC:=hk HC hb
  try have HH:=hh HH hb
  have H8:=hn;clear q1 q2 hb hn;refine kk hK (HSS.out _ HBQ.out) (fun hHeld=> ?_);clear hK K;exact N6 V9 g0 b4 b18 ⟨HBQ,HA,HR,H4,H8,hHeld⟩
 ·
  rintro XN6 g0 b4 b18 ⟨HBQ,HA,HR,H4,H8,hHeld⟩;refine rd [2] ?_;refine rcE fun K hK=> ?_;refine step_cat (by rfl) (.tmp 64) (.tmp 65) 25 (by rfl) elemEnt (fun _=>rfl) _ [] (by rfl) HA.out (some ⟨gL,0,none⟩) LL (n0+1) cL HLL.out.2 (by rfl) (fun h=>by cases h) ((HOL.out.below HBQ.out (Nat.le_refl _)).cats) (fun x _=>one_cells' x) (by have:=HN0.out;unfold maxLen;simp;omega) (by have:=HN0.out;simp;omega) HBQ.out.size ?_;intro v66 V2 h2 hg hb;have HBQ:=hZ (HBQ.out.trans hb)
  try have H4:=hZ ((hg.block _ (cells_lt H4.out) (fun q=>emptyE HR.out H4.out (Option.some.inj q).symm)).trans H4.out)
  try have H8:=hg8 hg HA H8
  have HA:=hZ h2;have HR:=hZ trivial;clear h2 hg hb;refine kk hK (HSS.out _ HBQ.out) (fun hHeld=> ?_);clear hK K;have HX:=(And.intro HBQ (And.intro HA (And.intro HR (And.intro H4 (And.intro H8 hHeld)))));exact N3 V2 g0 v66 b4 b18 HX
 ·
  rintro XN5 g0 v66 b18 ⟨HBQ,HA,HR,H8,hHeld⟩;refine rd [4] ?_;refine rcE fun K hK=> ?_;refine step_build_ent (by rfl) (.tmp 67) (by rfl) ec (by rfl) ?_;intro b4 V4 hq hb h4;rw[←hq] at hb;have HBQ:=hu HBQ hb
  try have HA:=hl HA hb
  try have HR:=hc HR hb
  try have H4:=hc H4 hb
  try have H8:=h8 H8 hb
  try have HC:=hk HC hb
  try have HH:=hh HH hb
  have H4:=hZ h4;clear h4 hb hq;refine kk hK (HSS.out _ HBQ.out) (fun hHeld=> ?_);clear hK K;exact N3 V4 g0 v66 b4 b18 ⟨HBQ,HA,HR,H4,H8,hHeld⟩
 ·
  rintro XN4 g0 v66 b4 ⟨HBQ,HA,HR,H4,hHeld⟩;refine rd [5,9] ?_;refine rc (fun K hK=> ?_) ?_
  ·
   refine step_app (by rfl) (.tmp 66) (.tmp 68) 25 (by rfl) elemEnt v66 ([]++LL) (n0+1) (by simpa using HLL.out.2) (by rfl) HA.out ec b4 ec.cells.toArray (by rfl) H4.out (by simp) rfl (one_cells' _) (by have:=HN0.out;have:=HLL.out.2;unfold maxLen;simp;omega) (by have:=HN0.out;have:=HLL.out.2;simp;omega) HBQ.out.size ?_;intro g5 c5 V5 h5 hg _ _ hb;have HBQ:=hZ (HBQ.out.trans hb)
   try have H8:=hg8 hg HA H8
   have HA:=hZ h5;have H4:=hZ trivial;clear h5 hg hb;refine kk hK (HSS.out _ HBQ.out) (fun hHeld=> ?_);clear hK K;refine rd [7,9] ?_;refine rc (fun K hK=> ?_) ?_
   ·
    go_simp;have hof:=knownOf_walk (([]++LL)++[ec]) day (some ⟨g5,0,none⟩) (n0+1+1) c5 (by have:=HLL.out.2;simp;omega) (by have:=HN0.out;omega) V5 (EAt.of_ol (Y:=Old V5) HA.out (fun b e=>by have:=(HA.out.lt b (by rw[e];rfl)).2;exact this)) HLF.out.w2 (HFj.out.pow.below HBQ.out)
    (with_reducible refine hof.mono ?_)
    clear hof;rintro r V7 ⟨B2,rfl,hB,hI,hb⟩;have HBQ:=hu HBQ hb
    try have HA:=hl HA hb
    try have HR:=hc HR hb
    try have H4:=hc H4 hb
    try have H8:=h8 H8 hb
    try have HC:=hk HC hb
    try have HH:=hh HH hb
    have HC:=hZ (And.intro hB hI);clear hB hI hb;refine kk hK (HSS.out _ HBQ.out) (fun hHeld=> ?_);clear hK K;refine rd [8,9] ?_;refine rc (fun K hK=> ?_) ?_
    ·
     go_simp;have hof:=late_hist gn gd HG.out.1 HG.out.2 HC.out.2 HLF.out.q2 V7 HC.out.1
     (with_reducible refine hof.mono ?_)
     clear hof;rintro r V8 ⟨Ab,nb,cb,rfl,hhi,hb⟩;have HBQ:=hu HBQ hb
     try have HA:=hl HA hb
     try have HR:=hc HR hb
     try have H4:=hc H4 hb
     try have H8:=h8 H8 hb
     try have HC:=hk HC hb
     try have HH:=hh HH hb
     have HH:=hZ hhi;clear hhi hb;refine kk hK (HSS.out _ HBQ.out) (fun hHeld=> ?_);clear hK K;refine rd [9] ?_;refine rcE fun K hK=> ?_;go_simp;obtain⟨V9,b18,q1,q2,hb,hn⟩:=layH HBQ;rw[q1,q2];have HBQ:=hu HBQ hb
     try have HA:=hl HA hb
     try have HR:=hc HR hb
     try have H4:=hc H4 hb
     try have H8:=h8 H8 hb
     try have HC:=hk HC hb
     try have HH:=hh HH hb
     have H8:=hn;clear q1 q2 hb hn;refine kk hK (HSS.out _ HBQ.out) (fun hHeld=> ?_);clear hK K;have HX:=(And.intro HBQ (And.intro HA (And.intro HR (And.intro H4 (And.intro HC (And.intro HH (And.intro H8 hHeld)))))));exact N0 V9 g0 v66 b4 g5 c5 B2 Ab nb cb b18 HX
    refine rcE fun K hK=> ?_;go_simp;obtain⟨V9,b18,q1,q2,hb,hn⟩:=layH HBQ;rw[q1,q2];have HBQ:=hu HBQ hb
    try have HA:=hl HA hb
    try have HR:=hc HR hb
    try have H4:=hc H4 hb
    try have H8:=h8 H8 hb
    try have HC:=hk HC hb
    try have HH:=hh HH hb
    have H8:=hn;clear q1 q2 hb hn;refine kk hK (HSS.out _ HBQ.out) (fun hHeld=> ?_);clear hK K;have HX:=(And.intro HBQ (And.intro HA (And.intro HR (And.intro H4 (And.intro HC (And.intro H8 hHeld))))));exact N1 V9 g0 v66 b4 g5 c5 B2 b18 HX
   refine rcE fun K hK=> ?_;go_simp;obtain⟨V9,b18,q1,q2,hb,hn⟩:=layH HBQ;rw[q1,q2];have HBQ:=hu HBQ hb
   try have HA:=hl HA hb
   try have HR:=hc HR hb
   try have H4:=hc H4 hb
   try have H8:=h8 H8 hb
   try have HC:=hk HC hb
   try have HH:=hh HH hb
   have H8:=hn;clear q1 q2 hb hn;refine kk hK (HSS.out _ HBQ.out) (fun hHeld=> ?_);clear hK K;have HX:=(And.intro HBQ (And.intro HA (And.intro HR (And.intro H4 (And.intro H8 hHeld)))));exact N2 V9 g0 v66 b4 g5 c5 b18 HX
  refine rcE fun K hK=> ?_;go_simp;obtain⟨V9,b18,q1,q2,hb,hn⟩:=layH HBQ;rw[q1,q2];have HBQ:=hu HBQ hb
  try have HA:=hl HA hb
  try have HR:=hc HR hb
  try have H4:=hc H4 hb
  try have H8:=h8 H8 hb
  try have HC:=hk HC hb
  try have HH:=hh HH hb
  have H8:=hn;clear q1 q2 hb hn;refine kk hK (HSS.out _ HBQ.out) (fun hHeld=> ?_);clear hK K;exact N3 V9 g0 v66 b4 b18 ⟨HBQ,HA,HR,H4,H8,hHeld⟩
 ·
  rintro XN3 g0 v66 b4 b18 ⟨HBQ,HA,HR,H4,H8,hHeld⟩;refine rd [5] ?_;refine rcE fun K hK=> ?_;refine step_app (by rfl) (.tmp 66) (.tmp 68) 25 (by rfl) elemEnt v66 ([]++LL) (n0+1) (by simpa using HLL.out.2) (by rfl) HA.out ec b4 ec.cells.toArray (by rfl) H4.out (by simp) rfl (one_cells' _) (by have:=HN0.out;have:=HLL.out.2;unfold maxLen;simp;omega) (by have:=HN0.out;have:=HLL.out.2;simp;omega) HBQ.out.size ?_;intro g5 c5 V5 h5 hg _ _ hb;have HBQ:=hZ (HBQ.out.trans hb)
  try have H8:=hg8 hg HA H8
  have HA:=hZ h5;have H4:=hZ trivial;clear h5 hg hb;refine kk hK (HSS.out _ HBQ.out) (fun hHeld=> ?_);clear hK K;exact N2 V5 g0 v66 b4 g5 c5 b18 ⟨HBQ,HA,HR,H4,H8,hHeld⟩
 ·
  rintro XN2 g0 v66 b4 g5 c5 b18 ⟨HBQ,HA,HR,H4,H8,hHeld⟩;refine rd [7] ?_;refine rcE fun K hK=> ?_;go_simp;have hof:=knownOf_walk (([]++LL)++[ec]) day (some ⟨g5,0,none⟩) (n0+1+1) c5 (by have:=HLL.out.2;simp;omega) (by have:=HN0.out;omega) XN2 (EAt.of_ol (Y:=Old XN2) HA.out (fun b e=>by have:=(HA.out.lt b (by rw[e];rfl)).2;exact this)) HLF.out.w2 (HFj.out.pow.below HBQ.out)
  (with_reducible refine hof.mono ?_)
  clear hof;rintro r V7 ⟨B2,rfl,hB,hI,hb⟩;have HBQ:=hu HBQ hb
  try have HA:=hl HA hb
  try have HR:=hc HR hb
  try have H4:=hc H4 hb
  try have H8:=h8 H8 hb
  try have HC:=hk HC hb
  try have HH:=hh HH hb
  have HC:=hZ (And.intro hB hI);clear hB hI hb;refine kk hK (HSS.out _ HBQ.out) (fun hHeld=> ?_);clear hK K;exact N1 V7 g0 v66 b4 g5 c5 B2 b18 ⟨HBQ,HA,HR,H4,HC,H8,hHeld⟩
 ·
  rintro XN1 g0 v66 b4 g5 c5 B2 b18 ⟨HBQ,HA,HR,H4,HC,H8,hHeld⟩;refine rd [8] ?_;refine rcE fun K hK=> ?_;go_simp;have hof:=late_hist gn gd HG.out.1 HG.out.2 HC.out.2 HLF.out.q2 XN1 HC.out.1
  (with_reducible refine hof.mono ?_)
  clear hof;rintro r V8 ⟨Ab,nb,cb,rfl,hhi,hb⟩;have HBQ:=hu HBQ hb
  try have HA:=hl HA hb
  try have HR:=hc HR hb
  try have H4:=hc H4 hb
  try have H8:=h8 H8 hb
  try have HC:=hk HC hb
  try have HH:=hh HH hb
  have HH:=hZ hhi;clear hhi hb;refine kk hK (HSS.out _ HBQ.out) (fun hHeld=> ?_);clear hK K;exact N0 V8 g0 v66 b4 g5 c5 B2 Ab nb cb b18 ⟨HBQ,HA,HR,H4,HC,HH,H8,hHeld⟩
 ·
  rintro XN0 g0 v66 b4 g5 c5 B2 Ab nb cb b18 ⟨HBQ,HA,HR,H4,HC,HH,H8,hHeld⟩;refine rd [10] ?_;refine rcE fun K hK=> ?_;refine step_store_row (by rfl) 58 (.tmp 18) (.tmp 72) (by rfl) (by rfl) b18 #[.string gn,.string gd,.slice Ab nb cb] _ (by rfl) (by rfl) IH.out H8.out.1 (by rfl) (one_hist _ _ _ rfl) ?_;intro V10 h10 ht;have HBZ:=hZ (ht.below HBQ.out (Nat.le_refl _) fun k hk=>by have:=H8.out.2;omega);have H18:=hZ h10;have HH2:=hZ (hi_set HH.out H8.out.1 ht);clear h10 ht;refine kk hK (HSS.out _ HBZ.out) (fun hHeld=> ?_);clear hK K;refine dn ?_;clear hHeld;have HF:=hZ (HFj.out.step HBZ.out);have H16:=hc H16 HBZ.out;have H17:=hc H17 HBZ.out;have HH1:=hh HH1 HBZ.out;clear HSS HOL HFj HBQ HBZ HC H8 HA HR H4 HH
  by_cases hlt:day<pd
  · have d1:decide (day<pd)=true:=by simp[hlt]
    obtain rfl:=(HLF.out.early hlt).symm;obtain rfl:na=nb:=HH1.out.len.symm.trans HH2.out.len;clear hlt;have CV1:=hZ (dvalidG gn gd HG.out.1 HG.out.2 _ Aa na ca V10 HH1.out HF.out.pow)
    go_wp2_with (first
     |((with_reducible refine wpList_load_mid rfl 58 (.tmp 17) rfl b17 0 ?hx [.string gn,.string gd,.slice Aa na ca] _ (range_of (cs:=[.string gn,.string gd,.slice Aa na ca]) H17.out) Tryz.underlying58 rfl (IHL _ _ _).out ?_);(case hx=>rfl))
     |(go_at_call 44;(with_reducible refine CV1.out.mono ?_);rintro e2 Va ⟨rfl,hb⟩;have HF:=hZ (HF.out.step hb);have H16:=hc H16 hb;have H17:=hc H17 hb;have H18:=hc H18 hb;have HH1:=hh HH1 hb;have HH2:=hh HH2 hb;have CV2:=hZ (dvalidG gn gd HG.out.1 HG.out.2 _ Ab na cb _ HH2.out HF.out.pow);clear hb CV1)
     |((with_reducible refine wpList_load_midw ?hw 58 (.tmp 18) rfl b18 0 ?hx [.string gn,.string gd,.slice Ab na cb] _ (range_of (cs:=[.string gn,.string gd,.slice Ab na cb]) H18.out) Tryz.underlying58 rfl (IHL _ _ _).out ?_);(case hw=>rfl);(case hx=>rfl))
     |(go_at_call 44;(with_reducible refine CV2.out.mono ?_);rintro e2 Vb ⟨rfl,hb⟩;have HF:=hZ (HF.out.step hb);have H16:=hc H16 hb;have H17:=hc H17 hb;have H18:=hc H18 hb;have HH1:=hh HH1 hb;have HH2:=hh HH2 hb;have y0:=cells_i H17.out (i:=0) rfl;have y1:=cells_i H17.out (i:=1) rfl;have z0:=cells_i H18.out (i:=0) rfl;have z1:=cells_i H18.out (i:=1) rfl;have x3:Vb.cell? ⟨b16,3,none⟩=some (.int .i64 pd):=(by rw[←HED.out];exact cells_i H16.out (i:=3) rfl);clear hb CV2)
     |((with_reducible refine step_neqw ?hw 29 29 (.tmp 83) (.tmp 85) rfl (.agg #[.string gn,.string gd]) (.agg #[.string gn,.string gd]) ?hx ?hy false (guard_ratN _ _ _ _ _) (neq_rat _ _ _) ?_);(case hw=>rfl);(case hx=>rfl);(case hy=>rfl))
     |((with_reducible refine wpList_load_midw ?hw 58 (.tmp 17) rfl b17 0 ?hx [.string gn,.string gd,.slice Aa na ca] _ (range_of (cs:=[.string gn,.string gd,.slice Aa na ca]) H17.out) Tryz.underlying58 rfl (IHL _ _ _).out ?_);(case hw=>rfl);(case hx=>rfl))
     |((with_reducible refine wpList_load_midw ?hw 58 (.tmp 18) rfl b18 0 ?hx [.string gn,.string gd,.slice Ab na cb] _ (range_of (cs:=[.string gn,.string gd,.slice Ab na cb]) H18.out) Tryz.underlying58 rfl (IHL _ _ _).out ?_);(case hw=>rfl);(case hx=>rfl))
     |(go_at_call 26;(with_reducible refine(sameHist_walk gn gd (ps1.map D3.pt) Aa Ab na ca cb (by rw[List.length_map];exact HH1.out.len) (by have:=HH1.out.few;unfold maxLen;omega) Vb HH1.out.row HH2.out.row).mono ?_);rintro e2 Vc ⟨rfl,hb⟩;have HF:=hZ (HF.out.step hb);clear hb)
     |fail)
    go_ret;exact⟨rfl,HF.out.at_.below⟩
  have d1:decide (day<pd)=false:=by simp;omega
  have hpm:=HLF.out.late (by omega);obtain rfl:nb=na+1:=by have h1:=HH2.out.len;have h2:=HH1.out.len;have h3:=hpm.length_eq;rw[List.length_cons] at h3;omega
  have wk:IntKind.i64.wrap ((na:Int)+1)=((na+1:Nat):Int):=by have:=HH1.out.few;rw[IntKind.wrap_i64];omega
  have HM1:Hid (∀d∈ps1,d∈ps2):=hZ fun d h=>hpm.mem_iff.2 (List.mem_cons_of_mem _ h);have HM3:Hid (∀d∈[dp],d∈ps2):=hZ fun d h=>hpm.mem_iff.2 (by rw[List.mem_singleton.1 h];exact List.mem_cons_self ..);have HO1:Hid (∀d∈[dp],d.Ok):=hZ fun d h=>by rw[List.mem_singleton.1 h];exact HLF.out.dok
  clear hlt
  by_cases hcf:∃i j,Cf ps2 i j
  · have HC2:=hZ hcf
    clear hpm hcf;have CV1:=hZ (dvalidG gn gd HG.out.1 HG.out.2 _ Aa na ca V10 HH1.out HF.out.pow)
    go_wp2_with (first
     |((with_reducible refine wpList_load_mid rfl 58 (.tmp 17) rfl b17 0 ?hx [.string gn,.string gd,.slice Aa na ca] _ (range_of (cs:=[.string gn,.string gd,.slice Aa na ca]) H17.out) Tryz.underlying58 rfl (IHL _ _ _).out ?_);(case hx=>rfl))
     |(go_at_call 44;(with_reducible refine CV1.out.mono ?_);rintro e2 Va ⟨rfl,hb⟩;have HF:=hZ (HF.out.step hb);have H16:=hc H16 hb;have H17:=hc H17 hb;have H18:=hc H18 hb;have HH1:=hh HH1 hb;have HH2:=hh HH2 hb;have CV2:=hZ (dvalidG gn gd HG.out.1 HG.out.2 _ Ab (na+1) cb _ HH2.out HF.out.pow);clear hb CV1)
     |((with_reducible refine wpList_load_midw ?hw 58 (.tmp 18) rfl b18 0 ?hx [.string gn,.string gd,.slice Ab (na+1) cb] _ (range_of (cs:=[.string gn,.string gd,.slice Ab (na+1) cb]) H18.out) Tryz.underlying58 rfl (IHL _ _ _).out ?_);(case hw=>rfl);(case hx=>rfl))
     |(go_at_call 44;(with_reducible refine CV2.out.mono ?_);rintro e2 Vb ⟨rfl,hb⟩;have HF:=hZ (HF.out.step hb);have H16:=hc H16 hb;have H17:=hc H17 hb;have H18:=hc H18 hb;have HH1:=hh HH1 hb;have HH2:=hh HH2 hb;have y0:=cells_i H17.out (i:=0) rfl;have y1:=cells_i H17.out (i:=1) rfl;have z0:=cells_i H18.out (i:=0) rfl;have z1:=cells_i H18.out (i:=1) rfl;have x3:Vb.cell? ⟨b16,3,none⟩=some (.int .i64 pd):=(by rw[←HED.out];exact cells_i H16.out (i:=3) rfl);have y2:=cells_i H17.out (i:=2) rfl;have z2:=cells_i H18.out (i:=2) rfl;have CA1:=hZ (at12 gn gd HG.out.1 HG.out.2 _ Aa na ca time Vb HH1.out HF.out.pow HR3.out.1 HR3.out.2);clear hb CV2)
     |((with_reducible refine step_neqw ?hw 29 29 (.tmp 83) (.tmp 85) rfl (.agg #[.string gn,.string gd]) (.agg #[.string gn,.string gd]) ?hx ?hy false (guard_ratN _ _ _ _ _) (neq_rat _ _ _) ?_);(case hw=>rfl);(case hx=>rfl);(case hy=>rfl))
     |((with_reducible refine wpList_load_mid rfl 58 (.tmp 17) rfl b17 0 ?hx [.string gn,.string gd,.slice Aa na ca] _ (range_of (cs:=[.string gn,.string gd,.slice Aa na ca]) H17.out) Tryz.underlying58 rfl (IHL _ _ _).out ?_);(case hx=>rfl))
     |(go_at_call 45;(with_reducible refine CA1.out.mono ?_);rintro e2 Vc ⟨p1,p2,p3,p4,k1,rfl,-,hb⟩;have HF:=hZ (HF.out.step hb);have H16:=hc H16 hb;have H17:=hc H17 hb;have H18:=hc H18 hb;have HH1:=hh HH1 hb;have HH2:=hh HH2 hb;clear hb CA1 y0 y1 y2 z0 z1 z2 x3)
     |((with_reducible refine wpList_fresh rfl 31 (.tmp 19) (.tmp 110) rfl rfl #[.string p1,.string p2,.string p3,.string p4] ?hx ?hy ?hi ?ho ?h1 ?_);(case hx=>rfl);(case hy=>rfl);(case hi=>exact II.out);(case ho=>rfl);(case h1=>exact one_four _ _ _ _);intro b19 Vd hbq hb hcc;rw[hbq];have HF:=hZ (HF.out.step hb);have H16:=hc H16 hb;have H17:=hc H17 hb;have H18:=hc H18 hb;have HH1:=hh HH1 hb;have HH2:=hh HH2 hb;have H19:=hZ hcc;clear hbq hb hcc;have CA2:=hZ (at12c gn gd HG.out.1 HG.out.2 _ Ab (na+1) cb time Vd HH2.out HF.out.pow HR3.out.1 HR3.out.2 (.inr HC2.out)))
     |((with_reducible refine wpList_load_mid rfl 58 (.tmp 18) rfl b18 0 ?hx [.string gn,.string gd,.slice Ab (na+1) cb] _ (range_of (cs:=[.string gn,.string gd,.slice Ab (na+1) cb]) H18.out) Tryz.underlying58 rfl (IHL _ _ _).out ?_);(case hx=>rfl))
     |(go_at_call 45;(with_reducible refine CA2.out.mono ?_);rintro e2 Ve ⟨rfl,hb⟩;have HF:=hZ (HF.out.step hb);have H16:=hc H16 hb;have H17:=hc H17 hb;have H18:=hc H18 hb;have HH1:=hh HH1 hb;have HH2:=hh HH2 hb;have H19:=hc H19 hb;clear hb CA2)
     |((with_reducible refine wpList_fresh rfl 31 (.tmp 21) (.tmp 116) rfl rfl #[.string ⟨#[]⟩,.string ⟨#[]⟩,.string ⟨#[]⟩,.string ⟨#[]⟩] ?hx ?hy ?hi ?ho ?h1 ?_);(case hx=>rfl);(case hy=>rfl);(case hi=>exact II.out);(case ho=>rfl);(case h1=>exact one_four _ _ _ _);intro b21 Vf hbq hb hcc;rw[hbq];have HF:=hZ (HF.out.step hb);have H16:=hc H16 hb;have H17:=hc H17 hb;have H18:=hc H18 hb;have HH1:=hh HH1 hb;have HH2:=hh HH2 hb;have H19:=hc H19 hb;have H21:=hZ hcc;clear hbq hb hcc;have CC:=hZ (contraG gn gd HG.out.1 HG.out.2 _ Ab (na+1) cb Vf HH2.out HF.out.pow))
     |((with_reducible refine wpList_load_midw ?hw 58 (.tmp 18) rfl b18 0 ?hx [.string gn,.string gd,.slice Ab (na+1) cb] _ (range_of (cs:=[.string gn,.string gd,.slice Ab (na+1) cb]) H18.out) Tryz.underlying58 rfl (IHL _ _ _).out ?_);(case hw=>rfl);(case hx=>rfl))
     |(go_at_call 46;(with_reducible refine CC.out.mono ?_);rintro e2 Vg ⟨Ac,mc,cc,rfl,hm,hb⟩;have hm0:0<mc:=(by rcases Nat.eq_zero_or_pos mc with q|q;exact(by obtain⟨i,j,hij⟩:=HC2.out;exact(hm.1 q i j hij).elim);exact q);have d5:decide (0<mc)=true:=(by simp[hm0]);have d6:decide ((0:Int)<(mc:Int))=true:=(by simp;omega);have HF:=hZ (HF.out.step hb);clear hm hb CC hm0)
     |fail)
    go_ret;exact⟨rfl,HF.out.at_.below⟩
  have hcf:∀i j,¬Cf ps2 i j:=fun i j h=>hcf ⟨i,j,h⟩;have HC2:=hZ hcf;have HC1:=hZ (no_cf_perm HH1.out.up HH2.out.up hpm hcf);have hpt:=HLF.out.dpt;obtain⟨tq,aq,bq,cq,dq,HPT⟩:∃tq aq bq cq dq,Hid (ec.frm=tq∧ec.ln=aq∧ec.ld=bq∧ec.hn=cq∧ec.hd=dq∧(⟨tq,aq,bq,cq,dq⟩:Pt)=dp.pt):=⟨_,_,_,_,_,hZ ⟨rfl,rfl,rfl,rfl,rfl,hpt⟩⟩;clear hpm hcf hpt
  by_cases hna:na=0
  · have HNA:=hZ hna
    (have d7:((na:Int)==0)=true:=by rw[hna];rfl);clear hna;have CV1:=hZ (dvalidG gn gd HG.out.1 HG.out.2 _ Aa na ca V10 HH1.out HF.out.pow)
    go_wp2_with (first
     |((with_reducible refine wpList_load_mid rfl 58 (.tmp 17) rfl b17 0 ?hx [.string gn,.string gd,.slice Aa na ca] _ (range_of (cs:=[.string gn,.string gd,.slice Aa na ca]) H17.out) Tryz.underlying58 rfl (IHL _ _ _).out ?_);(case hx=>rfl))
     |(go_at_call 44;(with_reducible refine CV1.out.mono ?_);rintro e2 Va ⟨rfl,hb⟩;have HF:=hZ (HF.out.step hb);have H16:=hc H16 hb;have H17:=hc H17 hb;have H18:=hc H18 hb;have HH1:=hh HH1 hb;have HH2:=hh HH2 hb;have CV2:=hZ (dvalidG gn gd HG.out.1 HG.out.2 _ Ab (na+1) cb _ HH2.out HF.out.pow);clear hb CV1)
     |((with_reducible refine wpList_load_midw ?hw 58 (.tmp 18) rfl b18 0 ?hx [.string gn,.string gd,.slice Ab (na+1) cb] _ (range_of (cs:=[.string gn,.string gd,.slice Ab (na+1) cb]) H18.out) Tryz.underlying58 rfl (IHL _ _ _).out ?_);(case hw=>rfl);(case hx=>rfl))
     |(go_at_call 44;(with_reducible refine CV2.out.mono ?_);rintro e2 Vb ⟨rfl,hb⟩;have HF:=hZ (HF.out.step hb);have H16:=hc H16 hb;have H17:=hc H17 hb;have H18:=hc H18 hb;have HH1:=hh HH1 hb;have HH2:=hh HH2 hb;have y0:=cells_i H17.out (i:=0) rfl;have y1:=cells_i H17.out (i:=1) rfl;have z0:=cells_i H18.out (i:=0) rfl;have z1:=cells_i H18.out (i:=1) rfl;have x3:Vb.cell? ⟨b16,3,none⟩=some (.int .i64 pd):=(by rw[←HED.out];exact cells_i H16.out (i:=3) rfl);have y2:=cells_i H17.out (i:=2) rfl;have z2:=cells_i H18.out (i:=2) rfl;have CA1:=hZ (at12c gn gd HG.out.1 HG.out.2 _ Aa na ca time Vb HH1.out HF.out.pow HR3.out.1 HR3.out.2 (.inl HNA.out));clear hb CV2)
     |((with_reducible refine step_neqw ?hw 29 29 (.tmp 83) (.tmp 85) rfl (.agg #[.string gn,.string gd]) (.agg #[.string gn,.string gd]) ?hx ?hy false (guard_ratN _ _ _ _ _) (neq_rat _ _ _) ?_);(case hw=>rfl);(case hx=>rfl);(case hy=>rfl))
     |((with_reducible refine wpList_load_mid rfl 58 (.tmp 17) rfl b17 0 ?hx [.string gn,.string gd,.slice Aa na ca] _ (range_of (cs:=[.string gn,.string gd,.slice Aa na ca]) H17.out) Tryz.underlying58 rfl (IHL _ _ _).out ?_);(case hx=>rfl))
     |(go_at_call 45;(with_reducible refine CA1.out.mono ?_);rintro e2 Vc ⟨rfl,hb⟩;have HF:=hZ (HF.out.step hb);have H16:=hc H16 hb;have H17:=hc H17 hb;have H18:=hc H18 hb;have HH1:=hh HH1 hb;have HH2:=hh HH2 hb;clear hb CA1 y0 y1 y2 z0 z1 z2 x3)
     |((with_reducible refine wpList_fresh rfl 31 (.tmp 19) (.tmp 110) rfl rfl #[.string ⟨#[]⟩,.string ⟨#[]⟩,.string ⟨#[]⟩,.string ⟨#[]⟩] ?hx ?hy ?hi ?ho ?h1 ?_);(case hx=>rfl);(case hy=>rfl);(case hi=>exact II.out);(case ho=>rfl);(case h1=>exact one_four _ _ _ _);intro b19 Vd hbq hb hcc;rw[hbq];have HF:=hZ (HF.out.step hb);have H16:=hc H16 hb;have H17:=hc H17 hb;have H18:=hc H18 hb;have HH1:=hh HH1 hb;have HH2:=hh HH2 hb;have H19:=hZ hcc;clear hbq hb hcc;have CA2:=hZ (at12n gn gd HG.out.1 HG.out.2 _ Ab (na+1) cb time Vd HH2.out HF.out.pow HR3.out.1 HR3.out.2 (Nat.succ_pos na) HC2.out))
     |((with_reducible refine wpList_load_mid rfl 58 (.tmp 18) rfl b18 0 ?hx [.string gn,.string gd,.slice Ab (na+1) cb] _ (range_of (cs:=[.string gn,.string gd,.slice Ab (na+1) cb]) H18.out) Tryz.underlying58 rfl (IHL _ _ _).out ?_);(case hx=>rfl))
     |(go_at_call 45;(with_reducible refine CA2.out.mono ?_);rintro e2 Ve ⟨L2,H2,rfl,hacc,hb⟩;have HF:=hZ (HF.out.step hb);have H16:=hc H16 hb;have H17:=hc H17 hb;have H18:=hc H18 hb;have HH1:=hh HH1 hb;have HH2:=hh HH2 hb;have H19:=hc H19 hb;have HA2:=hZ hacc;have HS2:=hZ (hacc.sl HH2.out.ok HR3.out.1 HR3.out.2);clear hacc;clear hb CA2)
     |((with_reducible refine wpList_fresh rfl 31 (.tmp 21) (.tmp 116) rfl rfl #[.string (nB L2),.string (dB L2),.string (nB H2),.string (dB H2)] ?hx ?hy ?hi ?ho ?h1 ?_);(case hx=>rfl);(case hy=>rfl);(case hi=>exact II.out);(case ho=>rfl);(case h1=>exact one_four _ _ _ _);intro b21 Vf hbq hb hcc;rw[hbq];have HF:=hZ (HF.out.step hb);have H16:=hc H16 hb;have H17:=hc H17 hb;have H18:=hc H18 hb;have HH1:=hh HH1 hb;have HH2:=hh HH2 hb;have H19:=hc H19 hb;have H21:=hZ hcc;clear hbq hb hcc;have y0:=cells_i H18.out (i:=0) rfl;have y1:=cells_i H18.out (i:=1) rfl;have x5:Vf.cell? ⟨b16,5,none⟩=some (.int .i64 tq):=(by rw[←HPT.out.1];exact cells_i H16.out (i:=5) rfl);have x11:Vf.cell? ⟨b16,11,none⟩=some (.string aq):=(by rw[←HPT.out.2.1];exact cells_i H16.out (i:=11) rfl);have x12:Vf.cell? ⟨b16,12,none⟩=some (.string bq):=(by rw[←HPT.out.2.2.1];exact cells_i H16.out (i:=12) rfl);have x13:Vf.cell? ⟨b16,13,none⟩=some (.string cq):=(by rw[←HPT.out.2.2.2.1];exact cells_i H16.out (i:=13) rfl);have x14:Vf.cell? ⟨b16,14,none⟩=some (.string dq):=(by rw[←HPT.out.2.2.2.2.1];exact cells_i H16.out (i:=14) rfl))
     |(refine wpList_build rfl 86 #[(0,.tmp 135),(1,.tmp 137)] rfl (ptC ⟨tq,aq,bq,cq,dq⟩).toArray (by kernel_rfl) ?_)
     |((with_reducible refine wpList_build_pt rfl (.tmp 138) rfl ⟨tq,aq,bq,cq,dq⟩ ?hx ?_);(case hx=>rfl);intro bo Vg hbo hb hcc _;rw[←hbo] at hb;have HF:=hZ (HF.out.step hb);have H16:=hc H16 hb;have H17:=hc H17 hb;have H18:=hc H18 hb;have HH1:=hh HH1 hb;have HH2:=hh HH2 hb;have H19:=hc H19 hb;have H21:=hc H21 hb;have HOW:=hZ (HiAt.one (by rw[←HPT.out.2.2.2.2.2];exact hcc) HLF.out.dok);have CA3:=hZ (at12n gn gd HG.out.1 HG.out.2 _ _ 1 1 time Vg HOW.out HF.out.pow HR3.out.1 HR3.out.2 (Nat.succ_pos 0) (cf_one dp));clear hbo hb hcc y0 y1 x5 x11 x12 x13 x14)
     |(refine wpList_build rfl 58 #[(0,.tmp 133),(1,.tmp 139)] rfl #[.string gn,.string gd,.slice (some ⟨bo,0,none⟩) 1 1] (by kernel_rfl) ?_)
     |(go_at_call 45;(with_reducible refine CA3.out.mono ?_);rintro e2 Vh ⟨L3,H3,rfl,hacc,hb⟩;have HF:=hZ (HF.out.step hb);have H16:=hc H16 hb;have H17:=hc H17 hb;have H18:=hc H18 hb;have HH1:=hh HH1 hb;have HH2:=hh HH2 hb;have H19:=hc H19 hb;have H21:=hc H21 hb;have HA3:=hZ hacc;clear hacc hb CA3)
     |((with_reducible refine wpList_fresh rfl 31 (.tmp 23) (.tmp 143) rfl rfl #[.string (nB L3),.string (dB L3),.string (nB H3),.string (dB H3)] ?hx ?hy ?hi ?ho ?h1 ?_);(case hx=>rfl);(case hy=>rfl);(case hi=>exact II.out);(case ho=>rfl);(case h1=>exact one_four _ _ _ _);intro b23 Vi hbq hb hcc;rw[hbq];have HF:=hZ (HF.out.step hb);have H16:=hc H16 hb;have H17:=hc H17 hb;have H18:=hc H18 hb;have HH1:=hh HH1 hb;have HH2:=hh HH2 hb;have H19:=hc H19 hb;have H21:=hc H21 hb;have H23:=hZ hcc;clear hbq hb hcc;have CW1:=hZ (within12 L2 H2 L3 H3 Vi HS2.out.1 HS2.out.2 (HA3.out.sl HO1.out HR3.out.1 HR3.out.2).1 (HA3.out.sl HO1.out HR3.out.1 HR3.out.2).2 (acc_le HH2.out.ok HH2.out.up HA2.out HC2.out) (acc_sub HM3.out HA3.out HA2.out).1 (acc_sub HM3.out HA3.out HA2.out).2 HF.out.pow))
     |((with_reducible refine wpList_load_midw ?hw 31 (.tmp 21) rfl b21 0 ?hx [.string (nB L2),.string (dB L2),.string (nB H2),.string (dB H2)] _ (range_of (cs:=[.string (nB L2),.string (dB L2),.string (nB H2),.string (dB H2)]) H21.out) Tryz.underlying31 rfl (IIL _ _ _ _).out ?_);(case hw=>rfl);(case hx=>rfl))
     |((with_reducible refine wpList_load_midw ?hw 31 (.tmp 23) rfl b23 0 ?hx [.string (nB L3),.string (dB L3),.string (nB H3),.string (dB H3)] _ (range_of (cs:=[.string (nB L3),.string (dB L3),.string (nB H3),.string (dB H3)]) H23.out) Tryz.underlying31 rfl (IIL _ _ _ _).out ?_);(case hw=>rfl);(case hx=>rfl))
     |(go_at_call 47;(with_reducible refine CW1.out.mono ?_);rintro e2 Vj ⟨rfl,hb⟩;have HF:=hZ (HF.out.step hb);have H16:=hc H16 hb;have H17:=hc H17 hb;have H18:=hc H18 hb;have HH1:=hh HH1 hb;have HH2:=hh HH2 hb;have H19:=hc H19 hb;have H21:=hc H21 hb;have y2:=cells_i H17.out (i:=2) rfl;clear hb CW1)
     |fail)
    go_ret;exact⟨rfl,HF.out.at_.below⟩
  · have HNA:Hid (0<na):=hZ (by omega)
    (have d7:((na:Int)==0)=false:=by simp;omega);clear hna;have CV1:=hZ (dvalidG gn gd HG.out.1 HG.out.2 _ Aa na ca V10 HH1.out HF.out.pow)
    go_wp2_with (first
     |((with_reducible refine wpList_load_mid rfl 58 (.tmp 17) rfl b17 0 ?hx [.string gn,.string gd,.slice Aa na ca] _ (range_of (cs:=[.string gn,.string gd,.slice Aa na ca]) H17.out) Tryz.underlying58 rfl (IHL _ _ _).out ?_);(case hx=>rfl))
     |(go_at_call 44;(with_reducible refine CV1.out.mono ?_);rintro e2 Va ⟨rfl,hb⟩;have HF:=hZ (HF.out.step hb);have H16:=hc H16 hb;have H17:=hc H17 hb;have H18:=hc H18 hb;have HH1:=hh HH1 hb;have HH2:=hh HH2 hb;have CV2:=hZ (dvalidG gn gd HG.out.1 HG.out.2 _ Ab (na+1) cb _ HH2.out HF.out.pow);clear hb CV1)
     |((with_reducible refine wpList_load_midw ?hw 58 (.tmp 18) rfl b18 0 ?hx [.string gn,.string gd,.slice Ab (na+1) cb] _ (range_of (cs:=[.string gn,.string gd,.slice Ab (na+1) cb]) H18.out) Tryz.underlying58 rfl (IHL _ _ _).out ?_);(case hw=>rfl);(case hx=>rfl))
     |(go_at_call 44;(with_reducible refine CV2.out.mono ?_);rintro e2 Vb ⟨rfl,hb⟩;have HF:=hZ (HF.out.step hb);have H16:=hc H16 hb;have H17:=hc H17 hb;have H18:=hc H18 hb;have HH1:=hh HH1 hb;have HH2:=hh HH2 hb;have y0:=cells_i H17.out (i:=0) rfl;have y1:=cells_i H17.out (i:=1) rfl;have z0:=cells_i H18.out (i:=0) rfl;have z1:=cells_i H18.out (i:=1) rfl;have x3:Vb.cell? ⟨b16,3,none⟩=some (.int .i64 pd):=(by rw[←HED.out];exact cells_i H16.out (i:=3) rfl);have y2:=cells_i H17.out (i:=2) rfl;have z2:=cells_i H18.out (i:=2) rfl;have CA1:=hZ (at12n gn gd HG.out.1 HG.out.2 _ Aa na ca time Vb HH1.out HF.out.pow HR3.out.1 HR3.out.2 HNA.out HC1.out);clear hb CV2)
     |((with_reducible refine step_neqw ?hw 29 29 (.tmp 83) (.tmp 85) rfl (.agg #[.string gn,.string gd]) (.agg #[.string gn,.string gd]) ?hx ?hy false (guard_ratN _ _ _ _ _) (neq_rat _ _ _) ?_);(case hw=>rfl);(case hx=>rfl);(case hy=>rfl))
     |((with_reducible refine wpList_load_mid rfl 58 (.tmp 17) rfl b17 0 ?hx [.string gn,.string gd,.slice Aa na ca] _ (range_of (cs:=[.string gn,.string gd,.slice Aa na ca]) H17.out) Tryz.underlying58 rfl (IHL _ _ _).out ?_);(case hx=>rfl))
     |(go_at_call 45;(with_reducible refine CA1.out.mono ?_);rintro e2 Vc ⟨L1,H1,rfl,hacc,hb⟩;have HF:=hZ (HF.out.step hb);have H16:=hc H16 hb;have H17:=hc H17 hb;have H18:=hc H18 hb;have HH1:=hh HH1 hb;have HH2:=hh HH2 hb;have HA1:=hZ hacc;clear hacc;clear hb CA1 y0 y1 y2 z0 z1 z2 x3)
     |((with_reducible refine wpList_fresh rfl 31 (.tmp 19) (.tmp 110) rfl rfl #[.string (nB L1),.string (dB L1),.string (nB H1),.string (dB H1)] ?hx ?hy ?hi ?ho ?h1 ?_);(case hx=>rfl);(case hy=>rfl);(case hi=>exact II.out);(case ho=>rfl);(case h1=>exact one_four _ _ _ _);intro b19 Vd hbq hb hcc;rw[hbq];have HF:=hZ (HF.out.step hb);have H16:=hc H16 hb;have H17:=hc H17 hb;have H18:=hc H18 hb;have HH1:=hh HH1 hb;have HH2:=hh HH2 hb;have H19:=hZ hcc;clear hbq hb hcc;have CA2:=hZ (at12n gn gd HG.out.1 HG.out.2 _ Ab (na+1) cb time Vd HH2.out HF.out.pow HR3.out.1 HR3.out.2 (Nat.succ_pos na) HC2.out))
     |((with_reducible refine wpList_load_mid rfl 58 (.tmp 18) rfl b18 0 ?hx [.string gn,.string gd,.slice Ab (na+1) cb] _ (range_of (cs:=[.string gn,.string gd,.slice Ab (na+1) cb]) H18.out) Tryz.underlying58 rfl (IHL _ _ _).out ?_);(case hx=>rfl))
     |(go_at_call 45;(with_reducible refine CA2.out.mono ?_);rintro e2 Ve ⟨L2,H2,rfl,hacc,hb⟩;have HF:=hZ (HF.out.step hb);have H16:=hc H16 hb;have H17:=hc H17 hb;have H18:=hc H18 hb;have HH1:=hh HH1 hb;have HH2:=hh HH2 hb;have H19:=hc H19 hb;have HA2:=hZ hacc;have HS2:=hZ (hacc.sl HH2.out.ok HR3.out.1 HR3.out.2);clear hacc;clear hb CA2)
     |((with_reducible refine wpList_fresh rfl 31 (.tmp 21) (.tmp 116) rfl rfl #[.string (nB L2),.string (dB L2),.string (nB H2),.string (dB H2)] ?hx ?hy ?hi ?ho ?h1 ?_);(case hx=>rfl);(case hy=>rfl);(case hi=>exact II.out);(case ho=>rfl);(case h1=>exact one_four _ _ _ _);intro b21 Vf hbq hb hcc;rw[hbq];have HF:=hZ (HF.out.step hb);have H16:=hc H16 hb;have H17:=hc H17 hb;have H18:=hc H18 hb;have HH1:=hh HH1 hb;have HH2:=hh HH2 hb;have H19:=hc H19 hb;have H21:=hZ hcc;clear hbq hb hcc;have y0:=cells_i H18.out (i:=0) rfl;have y1:=cells_i H18.out (i:=1) rfl;have x5:Vf.cell? ⟨b16,5,none⟩=some (.int .i64 tq):=(by rw[←HPT.out.1];exact cells_i H16.out (i:=5) rfl);have x11:Vf.cell? ⟨b16,11,none⟩=some (.string aq):=(by rw[←HPT.out.2.1];exact cells_i H16.out (i:=11) rfl);have x12:Vf.cell? ⟨b16,12,none⟩=some (.string bq):=(by rw[←HPT.out.2.2.1];exact cells_i H16.out (i:=12) rfl);have x13:Vf.cell? ⟨b16,13,none⟩=some (.string cq):=(by rw[←HPT.out.2.2.2.1];exact cells_i H16.out (i:=13) rfl);have x14:Vf.cell? ⟨b16,14,none⟩=some (.string dq):=(by rw[←HPT.out.2.2.2.2.1];exact cells_i H16.out (i:=14) rfl))
     |(refine wpList_build rfl 86 #[(0,.tmp 135),(1,.tmp 137)] rfl (ptC ⟨tq,aq,bq,cq,dq⟩).toArray (by kernel_rfl) ?_)
     |((with_reducible refine wpList_build_pt rfl (.tmp 138) rfl ⟨tq,aq,bq,cq,dq⟩ ?hx ?_);(case hx=>rfl);intro bo Vg hbo hb hcc _;rw[←hbo] at hb;have HF:=hZ (HF.out.step hb);have H16:=hc H16 hb;have H17:=hc H17 hb;have H18:=hc H18 hb;have HH1:=hh HH1 hb;have HH2:=hh HH2 hb;have H19:=hc H19 hb;have H21:=hc H21 hb;have HOW:=hZ (HiAt.one (by rw[←HPT.out.2.2.2.2.2];exact hcc) HLF.out.dok);have CA3:=hZ (at12n gn gd HG.out.1 HG.out.2 _ _ 1 1 time Vg HOW.out HF.out.pow HR3.out.1 HR3.out.2 (Nat.succ_pos 0) (cf_one dp));clear hbo hb hcc y0 y1 x5 x11 x12 x13 x14)
     |(refine wpList_build rfl 58 #[(0,.tmp 133),(1,.tmp 139)] rfl #[.string gn,.string gd,.slice (some ⟨bo,0,none⟩) 1 1] (by kernel_rfl) ?_)
     |(go_at_call 45;(with_reducible refine CA3.out.mono ?_);rintro e2 Vh ⟨L3,H3,rfl,hacc,hb⟩;have HF:=hZ (HF.out.step hb);have H16:=hc H16 hb;have H17:=hc H17 hb;have H18:=hc H18 hb;have HH1:=hh HH1 hb;have HH2:=hh HH2 hb;have H19:=hc H19 hb;have H21:=hc H21 hb;have HA3:=hZ hacc;clear hacc hb CA3)
     |((with_reducible refine wpList_fresh rfl 31 (.tmp 23) (.tmp 143) rfl rfl #[.string (nB L3),.string (dB L3),.string (nB H3),.string (dB H3)] ?hx ?hy ?hi ?ho ?h1 ?_);(case hx=>rfl);(case hy=>rfl);(case hi=>exact II.out);(case ho=>rfl);(case h1=>exact one_four _ _ _ _);intro b23 Vi hbq hb hcc;rw[hbq];have HF:=hZ (HF.out.step hb);have H16:=hc H16 hb;have H17:=hc H17 hb;have H18:=hc H18 hb;have HH1:=hh HH1 hb;have HH2:=hh HH2 hb;have H19:=hc H19 hb;have H21:=hc H21 hb;have H23:=hZ hcc;clear hbq hb hcc;have CW1:=hZ (within12 L2 H2 L3 H3 Vi HS2.out.1 HS2.out.2 (HA3.out.sl HO1.out HR3.out.1 HR3.out.2).1 (HA3.out.sl HO1.out HR3.out.1 HR3.out.2).2 (acc_le HH2.out.ok HH2.out.up HA2.out HC2.out) (acc_sub HM3.out HA3.out HA2.out).1 (acc_sub HM3.out HA3.out HA2.out).2 HF.out.pow))
     |((with_reducible refine wpList_load_midw ?hw 31 (.tmp 21) rfl b21 0 ?hx [.string (nB L2),.string (dB L2),.string (nB H2),.string (dB H2)] _ (range_of (cs:=[.string (nB L2),.string (dB L2),.string (nB H2),.string (dB H2)]) H21.out) Tryz.underlying31 rfl (IIL _ _ _ _).out ?_);(case hw=>rfl);(case hx=>rfl))
     |((with_reducible refine wpList_load_midw ?hw 31 (.tmp 23) rfl b23 0 ?hx [.string (nB L3),.string (dB L3),.string (nB H3),.string (dB H3)] _ (range_of (cs:=[.string (nB L3),.string (dB L3),.string (nB H3),.string (dB H3)]) H23.out) Tryz.underlying31 rfl (IIL _ _ _ _).out ?_);(case hw=>rfl);(case hx=>rfl))
     |(go_at_call 47;(with_reducible refine CW1.out.mono ?_);rintro e2 Vj ⟨rfl,hb⟩;have HF:=hZ (HF.out.step hb);have H16:=hc H16 hb;have H17:=hc H17 hb;have H18:=hc H18 hb;have HH1:=hh HH1 hb;have HH2:=hh HH2 hb;have H19:=hc H19 hb;have H21:=hc H21 hb;have y2:=cells_i H17.out (i:=2) rfl;have CW2:=hZ (within12 L2 H2 L1 H1 _ HS2.out.1 HS2.out.2 (HA1.out.sl HH1.out.ok HR3.out.1 HR3.out.2).1 (HA1.out.sl HH1.out.ok HR3.out.1 HR3.out.2).2 (acc_le HH2.out.ok HH2.out.up HA2.out HC2.out) (acc_sub HM1.out HA1.out HA2.out).1 (acc_sub HM1.out HA1.out HA2.out).2 HF.out.pow);clear hb CW1)
     |((with_reducible refine wpList_load_midw ?hw 31 (.tmp 19) rfl b19 0 ?hx [.string (nB L1),.string (dB L1),.string (nB H1),.string (dB H1)] _ (range_of (cs:=[.string (nB L1),.string (dB L1),.string (nB H1),.string (dB H1)]) H19.out) Tryz.underlying31 rfl (IIL _ _ _ _).out ?_);(case hw=>rfl);(case hx=>rfl))
     |(go_at_call 47;(with_reducible refine CW2.out.mono ?_);rintro e2 Vk ⟨rfl,hb⟩;have HF:=hZ (HF.out.step hb);clear hb CW2)
     |fail)
    go_ret;exact⟨rfl,HF.out.at_.below⟩
end Go.Proofs.YteeifhlhpiimoaaGreatDoor
end
section
namespace Go.Proofs.YteeifhlhpiimoaaGreatDoor
open Go Go.RowKit Go.ChangeShapes Go.WideShapes Go.Deep
theorem wide_arr {P:Program} {W:World} {n:Nat} {e t:TypeId} {r:Reach} {b0:Nat} {v:Value} (ht:P.underlying t=some (.array n e)) (h:Value.okWide P W r b0 t v):∃cs,v=.agg cs∧cs.size=P.cellsOf t:=by
 unfold Value.okWide at h;simp only[ht] at h;obtain⟨cs,h1,h2,_⟩:=h;exact⟨cs,h1,h2⟩
theorem open_duo {H:Type} {enc:TypeId×Value→H} {W:World} {base:Nat} {sp:Nat→Bool} {held:Bool} {b0:Nat} {r:Reach} {v:Value} {d:DataW H} {p:List MemPlace}
 (hv:Value.okWide Tryz.prog W r b0 77 v) (h:DataW.Trod enc Tryz.prog W base sp held 77 v d p):∃a b:Int,v=.agg #[.int .i64 a,.int .i64 b]∧I64 a∧I64 b:=by
 have hc:Tryz.prog.cellsOf 3=1:=by kernel_rfl
 obtain⟨cs,rfl,hsz⟩:=wide_arr Tryz.underlying77 hv;obtain⟨c0,c1,rfl⟩:=Joins.array2 (hsz.trans (by kernel_rfl:Tryz.prog.cellsOf 77=2));obtain⟨fuel,hf⟩:=h;obtain⟨xs,m,rfl,hx,_,hl,hi⟩:=DataW.trod_array Tryz.underlying77 hf;have h0:=hi 0 (by decide);have h1:=hi 1 (by decide)
 obtain⟨x0,x1,rfl⟩:∃x0 x1,xs=[x0,x1]:=by
  match xs,hl with
  |[a,b],_=>exact⟨a,b,rfl⟩
 simp[hc,Value.cells] at h0 h1;obtain⟨a,ea,_,wa⟩:=DataW.trod_int Tryz.underlying3 h0;obtain⟨b,eb,_,wb⟩:=DataW.trod_int Tryz.underlying3 h1;simp at ea eb;subst ea;subst eb;exact⟨a,b,rfl,bounds_i64 wa,bounds_i64 wb⟩
end Go.Proofs.YteeifhlhpiimoaaGreatDoor
end
