/-
  Contract of package drift's gap at twelfths: points in order of time. Package drift's pairs as an iterator: the pairs of points that no drift explains. Package drift's pairs as an iterator: the walk. The statement 'for .. range' over an iterator whose own blocks live over its rounds. Contracts of package drift's pairs and Contradictions at histories of twelfths: there is a contradiction just where no drift explains two points.
-/
import Derived.Test.YteeifhlhpiimoaaGreatDoorZAa
import Derived.Test.YteeifhlhpiimoaaGreatDoorZAr
set_option maxHeartbeats 8000000
set_option maxRecDepth 100000
section
namespace Go.Proofs.YteeifhlhpiimoaaGreatDoor
open Go Go.RowKit Go.Shelf
attribute [local go_sem] Oper.semAt_some
theorem At.turn {w W V:World} {L M:List (Nat×Obj)} {b:Nat} (h:At w W L) (t:Turns (fun k=>k=b) W V) (hb:w.heap.size≤b) (hM:∀x∈M,x∈L∧x.1≠b):At w V M:=
 ⟨t.below h.below (Nat.le_refl _) (fun k hk=>by omega),fun x hx=>(t.block x.1 (h.lt (hM x hx).1) (hM x hx).2).trans (h.has x (hM x hx).1)⟩
def GapP (w:World) (x y z:Int) (e:Ending) (w':World):Prop:=e=.returned (.tuple #[tV x,tV y,tV z,.bool true])∧Below w.heap.size w w'
theorem results_cells3tmp {P:Program} {fn:Func} {p q r t:Tmp} {ty:TypeId} (h:fn.results=#[.cell p ty,.cell q ty,.cell r ty,.tmp t]) (tmps:Array Value) (w:World) (b c e:Nat) (cs ds es:List Value) (d:TypeDesc)
 (hp:tmps.getD p undef=.pointer (some ⟨b,0,none⟩)) (hq:tmps.getD q undef=.pointer (some ⟨c,0,none⟩)) (hr:tmps.getD r undef=.pointer (some ⟨e,0,none⟩)) (hc:w.rangeAt b 0 cs) (hd:w.rangeAt c 0 ds) (he:w.rangeAt e 0 es)
 (hu:P.underlying ty=some d) (hw:d.isRow=true) (hi:(P.info? ty).map (·.size)=some cs.length) (hj:ds.length=cs.length) (hk:es.length=cs.length):
 (results fn tmps).run P w=.ok (.tuple #[.agg cs.toArray,.agg ds.toArray,.agg es.toArray,tmps.getD t undef]) w:=by
 have hp':tmps[p]?.getD undef=.pointer (some ⟨b,0,none⟩):=by simpa using hp
 have hq':tmps[q]?.getD undef=.pointer (some ⟨c,0,none⟩):=by simpa using hq
 have hr':tmps[r]?.getD undef=.pointer (some ⟨e,0,none⟩):=by simpa using hr
 simp[results,h,hp',hq',hr',asAddr,run_loadVar_mid w b 0 ty cs d hc hu hw hi,run_loadVar_mid w c 0 ty ds d hd hu hw (hj▸hi),run_loadVar_mid w e 0 ty es d he hu hw (hk▸hi)]
theorem gap12 (a b:D3) (w:World) (ha:a.Ok) (hb:b.Ok) (hab:a.tm≤b.tm) (hp:Pow10 w):
 Calls Tryz.prog 143 #[tV 3,.agg (ptC a.pt).toArray,.agg (ptC b.pt).toArray] w (GapP w (b.lo-a.hi) (a.lo-b.hi) (3*(b.tm-a.tm))):=by
 obtain⟨t,ht⟩:∃t:Nat,b.tm-a.tm=(t:Int):=⟨(b.tm-a.tm).toNat,by omega⟩;have tlt:t<10000:=by have:=hb.t1;have:=ha.t0;omega
 have HS1:=hZ (fun W (q:Pow10 W)=>sub12 b.lo a.hi W hb.slo ha.shi q);have HS2:=hZ (fun W (q:Pow10 W)=>sub12 a.lo b.hi W ha.slo hb.shi q);have HR3:=hZ (fun W (q:Pow10 W)=>reach12 t W tlt q);have wk:IntKind.i64.wrap (b.tm-a.tm)=(t:Int):=by have:=hb.t1;have:=ha.t0;rw[IntKind.wrap_i64];omega
 have HG:Hid (∀e W',GapP w (b.lo-a.hi) (a.lo-b.hi) (3*t) e W'=(e=.returned (.tuple #[tV (b.lo-a.hi),tV (a.lo-b.hi),tV (3*t),.bool true])∧Below w.heap.size w W')):=hZ fun _ _=>rfl;rw[ht];obtain⟨g,hg⟩:=oQ (GapP w (b.lo-a.hi) (a.lo-b.hi) (3*t));rw[hg] at HG⊢;unfold tV at HS1 HS2 HR3 HG⊢;show Calls Tryz.prog 143 #[.agg #[.string (nB 3),.string (dB 3)],.agg #[.int .i64 a.tm,.string (nB a.lo),.string (dB a.lo),.string (nB a.hi),.string (dB a.hi)],.agg #[.int .i64 b.tm,.string (nB b.lo),.string (dB b.lo),.string (nB b.hi),.string (dB b.hi)]] w g;obtain⟨ta,eta⟩:=oQ (a.tm);obtain⟨tb,etb⟩:=oQ (b.tm);rw[eta,etb] at wk⊢;obtain⟨gn,e0⟩:=oQ (nB 3);obtain⟨gd,e1⟩:=oQ (dB 3);obtain⟨aln,e2⟩:=oQ (nB a.lo);obtain⟨ald,e3⟩:=oQ (dB a.lo);obtain⟨ahn,e4⟩:=oQ (nB a.hi);obtain⟨ahd,e5⟩:=oQ (dB a.hi);obtain⟨bln,e6⟩:=oQ (nB b.lo);obtain⟨bld,e7⟩:=oQ (dB b.lo);obtain⟨bhn,e8⟩:=oQ (nB b.hi);obtain⟨bhd,e9⟩:=oQ (dB b.hi);obtain⟨xn,e10⟩:=oQ (nB (b.lo-a.hi));obtain⟨xd,e11⟩:=oQ (dB (b.lo-a.hi));obtain⟨yn,e12⟩:=oQ (nB (a.lo-b.hi));obtain⟨yd,e13⟩:=oQ (dB (a.lo-b.hi));obtain⟨zn,e14⟩:=oQ (nB (3*(t:Int)));obtain⟨zd,e15⟩:=oQ (dB (3*(t:Int)));rw[e4,e5,e6,e7,e10,e11] at HS1;rw[e2,e3,e8,e9,e12,e13] at HS2;rw[e0,e1,e14,e15] at HR3;rw[e0,e1,e2,e3,e4,e5,e6,e7,e8,e9];rw[e10,e11,e12,e13,e14,e15] at HG;clear e0 e1 e2 e3 e4 e5 e6 e7 e8 e9 e10 e11 e12 e13 e14 e15 hg ht tlt hab ha hb eta etb;obtain⟨b3,w0,q0,r0,s0,hf0,u0⟩:=(At.start w).alloc2 (.cells #[.string gn,.string gd] 29);obtain⟨b4,w1,q1,r1,s1,hf1,u1⟩:=hf0.alloc2 (.cells #[.int .i64 ta,.string aln,.string ald,.string ahn,.string ahd] 86);obtain⟨b5,w2,q2,r2,s2,hf2,u2⟩:=hf1.alloc2 (.cells #[.int .i64 tb,.string bln,.string bld,.string bhn,.string bhd] 86);obtain⟨b6,w3,q3,r3,s3,hf3,u3⟩:=hf2.alloc2 (.cells #[.string ⟨#[]⟩,.string ⟨#[]⟩] 29)
 obtain⟨b7,w4,q4,r4,s4,hf4,u4⟩:=hf3.alloc2 (.cells #[.string ⟨#[]⟩,.string ⟨#[]⟩] 29);obtain⟨b8,w5,q5,r5,s5,hf5,u5⟩:=hf4.alloc2 (.cells #[.string ⟨#[]⟩,.string ⟨#[]⟩] 29);have HQ:=hZ (And.intro q0 (And.intro (u0.symm.trans q1) (And.intro (u1.symm.trans q2) (And.intro (u2.symm.trans q3) (And.intro (u3.symm.trans q4) (And.intro (u4.symm.trans q5) (show((((((((((((w).alloc (.cells #[.string gn,.string gd] 29))).alloc (.cells #[.int .i64 ta,.string aln,.string ald,.string ahn,.string ahd] 86))).alloc (.cells #[.int .i64 tb,.string bln,.string bld,.string bhn,.string bhd] 86))).alloc (.cells #[.string ⟨#[]⟩,.string ⟨#[]⟩] 29))).alloc (.cells #[.string ⟨#[]⟩,.string ⟨#[]⟩] 29))).alloc (.cells #[.string ⟨#[]⟩,.string ⟨#[]⟩] 29))=w5 by rw[r0,r1,r2,r3,r4,r5])))))));have HLO:=hZ (And.intro s3 (And.intro s4 s5));have HNE:Hid (b3<b4∧b4<b5∧b5<b6∧b6<b7∧b7<b8):=hZ (by omega);have HF:=hZ hf5;have HP:=hZ hp;clear q0 r0 s0 hf0 u0 q1 r1 s1 hf1 u1 q2 r2 s2 hf2 u2 q3 r3 s3 hf3 u3 q4 r4 s4 hf4 u4 q5 r5 s5 hf5 u5 hp
 go_enter Tryz.func143,Tryz.ntmps143
 go_wp2_with (first
  | (go_at_call 94;obtain⟨q0,q1,q2,q3,q4,q5,q6⟩:=HQ.out;(rw[q6,q0,q1,q2,q3,q4,q5]);((with_reducible refine(HS1.out _ (HP.out.below HF.out.below)).mono ?_));rintro e V1 ⟨rfl,hb⟩
     have HF1:=hZ (HF.out.step hb);have H6:=hZ (HF1.out.has (b6,.cells #[.string ⟨#[]⟩,.string ⟨#[]⟩] 29 (0,0)) (by simp))
     clear q0 q1 q2 q3 q4 q5 q6 hb HS1)
  | ((with_reducible refine wpList_store_rowN rfl 29 (.tmp 6) (.tmp 21) rfl rfl b6 #[.string xn,.string xd] #[.string ⟨#[]⟩,.string ⟨#[]⟩] ?hx ?hy ?hi H6.out rfl ?h1 ?_);(case hx=>rfl);(case hy=>rfl);(case hi=>kernel_rfl);(case h1=>simp[Value.oneCell']);intro V2 h5 t5
     have HF2:=hZ ((HF1.out.turn (M:=[(b3,.cells #[.string gn,.string gd] 29 (0,0)),(b4,.cells #[.int .i64 ta,.string aln,.string ald,.string ahn,.string ahd] 86 (0,0)),(b5,.cells #[.int .i64 tb,.string bln,.string bld,.string bhn,.string bhd] 86 (0,0)),(b7,.cells #[.string ⟨#[]⟩,.string ⟨#[]⟩] 29 (0,0)),(b8,.cells #[.string ⟨#[]⟩,.string ⟨#[]⟩] 29 (0,0))]) t5 HLO.out.1 (by have h:=HNE.out;simp;omega)).cons h5);have yb30:=HF2.out.cell (b:=b3) (cs:=#[.string gn,.string gd]) (t:=29) (by simp) (i:=0) rfl;have yb31:=HF2.out.cell (b:=b3) (cs:=#[.string gn,.string gd]) (t:=29) (by simp) (i:=1) rfl;have yb40:=HF2.out.cell (b:=b4) (cs:=#[.int .i64 ta,.string aln,.string ald,.string ahn,.string ahd]) (t:=86) (by simp) (i:=0) rfl;have yb41:=HF2.out.cell (b:=b4) (cs:=#[.int .i64 ta,.string aln,.string ald,.string ahn,.string ahd]) (t:=86) (by simp) (i:=1) rfl;have yb42:=HF2.out.cell (b:=b4) (cs:=#[.int .i64 ta,.string aln,.string ald,.string ahn,.string ahd]) (t:=86) (by simp) (i:=2) rfl;have yb43:=HF2.out.cell (b:=b4) (cs:=#[.int .i64 ta,.string aln,.string ald,.string ahn,.string ahd]) (t:=86) (by simp) (i:=3) rfl;have yb44:=HF2.out.cell (b:=b4) (cs:=#[.int .i64 ta,.string aln,.string ald,.string ahn,.string ahd]) (t:=86) (by simp) (i:=4) rfl;have yb50:=HF2.out.cell (b:=b5) (cs:=#[.int .i64 tb,.string bln,.string bld,.string bhn,.string bhd]) (t:=86) (by simp) (i:=0) rfl;have yb51:=HF2.out.cell (b:=b5) (cs:=#[.int .i64 tb,.string bln,.string bld,.string bhn,.string bhd]) (t:=86) (by simp) (i:=1) rfl;have yb52:=HF2.out.cell (b:=b5) (cs:=#[.int .i64 tb,.string bln,.string bld,.string bhn,.string bhd]) (t:=86) (by simp) (i:=2) rfl;have yb53:=HF2.out.cell (b:=b5) (cs:=#[.int .i64 tb,.string bln,.string bld,.string bhn,.string bhd]) (t:=86) (by simp) (i:=3) rfl;have yb54:=HF2.out.cell (b:=b5) (cs:=#[.int .i64 tb,.string bln,.string bld,.string bhn,.string bhd]) (t:=86) (by simp) (i:=4) rfl
     clear h5 t5 H6)
  | (go_at_call 94;((with_reducible refine(HS2.out _ (HP.out.below HF2.out.below)).mono ?_));rintro e V3 ⟨rfl,hb⟩
     have HF3:=hZ (HF2.out.step hb);have H7:=hZ (HF3.out.has (b7,.cells #[.string ⟨#[]⟩,.string ⟨#[]⟩] 29 (0,0)) (by simp))
     clear hb HS2 yb30 yb31 yb40 yb41 yb42 yb43 yb44 yb50 yb51 yb52 yb53 yb54)
  | ((with_reducible refine wpList_store_rowN rfl 29 (.tmp 7) (.tmp 31) rfl rfl b7 #[.string yn,.string yd] #[.string ⟨#[]⟩,.string ⟨#[]⟩] ?hx ?hy ?hi H7.out rfl ?h1 ?_);(case hx=>rfl);(case hy=>rfl);(case hi=>kernel_rfl);(case h1=>simp[Value.oneCell']);intro V4 h5 t5
     have HF4:=hZ ((HF3.out.turn (M:=[(b6,.cells #[.string xn,.string xd] 29 (0,0)),(b3,.cells #[.string gn,.string gd] 29 (0,0)),(b4,.cells #[.int .i64 ta,.string aln,.string ald,.string ahn,.string ahd] 86 (0,0)),(b5,.cells #[.int .i64 tb,.string bln,.string bld,.string bhn,.string bhd] 86 (0,0)),(b8,.cells #[.string ⟨#[]⟩,.string ⟨#[]⟩] 29 (0,0))]) t5 HLO.out.2.1 (by have h:=HNE.out;simp;omega)).cons h5);have yb30:=HF4.out.cell (b:=b3) (cs:=#[.string gn,.string gd]) (t:=29) (by simp) (i:=0) rfl;have yb31:=HF4.out.cell (b:=b3) (cs:=#[.string gn,.string gd]) (t:=29) (by simp) (i:=1) rfl;have yb40:=HF4.out.cell (b:=b4) (cs:=#[.int .i64 ta,.string aln,.string ald,.string ahn,.string ahd]) (t:=86) (by simp) (i:=0) rfl;have yb41:=HF4.out.cell (b:=b4) (cs:=#[.int .i64 ta,.string aln,.string ald,.string ahn,.string ahd]) (t:=86) (by simp) (i:=1) rfl;have yb42:=HF4.out.cell (b:=b4) (cs:=#[.int .i64 ta,.string aln,.string ald,.string ahn,.string ahd]) (t:=86) (by simp) (i:=2) rfl;have yb43:=HF4.out.cell (b:=b4) (cs:=#[.int .i64 ta,.string aln,.string ald,.string ahn,.string ahd]) (t:=86) (by simp) (i:=3) rfl;have yb44:=HF4.out.cell (b:=b4) (cs:=#[.int .i64 ta,.string aln,.string ald,.string ahn,.string ahd]) (t:=86) (by simp) (i:=4) rfl;have yb50:=HF4.out.cell (b:=b5) (cs:=#[.int .i64 tb,.string bln,.string bld,.string bhn,.string bhd]) (t:=86) (by simp) (i:=0) rfl;have yb51:=HF4.out.cell (b:=b5) (cs:=#[.int .i64 tb,.string bln,.string bld,.string bhn,.string bhd]) (t:=86) (by simp) (i:=1) rfl;have yb52:=HF4.out.cell (b:=b5) (cs:=#[.int .i64 tb,.string bln,.string bld,.string bhn,.string bhd]) (t:=86) (by simp) (i:=2) rfl;have yb53:=HF4.out.cell (b:=b5) (cs:=#[.int .i64 tb,.string bln,.string bld,.string bhn,.string bhd]) (t:=86) (by simp) (i:=3) rfl;have yb54:=HF4.out.cell (b:=b5) (cs:=#[.int .i64 tb,.string bln,.string bld,.string bhn,.string bhd]) (t:=86) (by simp) (i:=4) rfl
     clear h5 t5 H7)
  | (go_at_call 93;((with_reducible refine(HR3.out _ (HP.out.below HF4.out.below)).mono ?_));rintro e V5 ⟨rfl,hb⟩
     have HF5:=hZ (HF4.out.step hb);have H8:=hZ (HF5.out.has (b8,.cells #[.string ⟨#[]⟩,.string ⟨#[]⟩] 29 (0,0)) (by simp))
     clear hb HR3 yb30 yb31 yb40 yb41 yb42 yb43 yb44 yb50 yb51 yb52 yb53 yb54)
  | ((with_reducible refine wpList_store_rowN rfl 29 (.tmp 8) (.tmp 41) rfl rfl b8 #[.string zn,.string zd] #[.string ⟨#[]⟩,.string ⟨#[]⟩] ?hx ?hy ?hi H8.out rfl ?h1 ?_);(case hx=>rfl);(case hy=>rfl);(case hi=>kernel_rfl);(case h1=>simp[Value.oneCell']);intro V6 h5 t5
     have HF6:=hZ ((HF5.out.turn (M:=[(b6,.cells #[.string xn,.string xd] 29 (0,0)),(b7,.cells #[.string yn,.string yd] 29 (0,0))]) t5 HLO.out.2.2 (by have h:=HNE.out;simp;omega)).cons h5)
     clear h5 t5 H8)
  |fail)
 have HIR:=hZ (show(Tryz.prog.info? 29).map (·.size)=some [Value.string xn,Value.string xd].length by kernel_rfl);have HK0:Hid (At w V6.drew [(b8,.cells #[.string zn,.string zd] 29 (0,0)),(b6,.cells #[.string xn,.string xd] 29 (0,0)),(b7,.cells #[.string yn,.string yd] 29 (0,0))]):=hZ (HF6.out.drew.less (by simp));refine wp_region_noPanic ?_;refine wp_region_held_drew (S:=fun U=>At w U [(b8,.cells #[.string zn,.string zd] 29 (0,0)),(b6,.cells #[.string xn,.string xd] 29 (0,0)),(b7,.cells #[.string yn,.string yd] 29 (0,0))]) (by kernel_rfl) HK0.out (fun hHeld=> ?_);refine tl 0 rfl (yieldsIf_load_mid (by rfl) 29 (.tmp 6) rfl b6 0 (by rfl) [.string xn,.string xd] _ (fun w hw=>range_of (cs:=[.string xn,.string xd]) (hw.has (b6,.cells #[.string xn,.string xd] 29 (0,0)) (by simp))) Tryz.underlying29 rfl HIR.out) ?_;refine tl 1 rfl (yieldsIf_load_mid (by rfl) 29 (.tmp 7) rfl b7 0 (by rfl) [.string yn,.string yd] _ (fun w hw=>range_of (cs:=[.string yn,.string yd]) (hw.has (b7,.cells #[.string yn,.string yd] 29 (0,0)) (by simp))) Tryz.underlying29 rfl HIR.out) ?_;refine tl 2 rfl (yieldsIf_load_mid (by rfl) 29 (.tmp 8) rfl b8 0 (by rfl) [.string zn,.string zd] _ (fun w hw=>range_of (cs:=[.string zn,.string zd]) (hw.has (b8,.cells #[.string zn,.string zd] 29 (0,0)) (by simp))) Tryz.underlying29 rfl HIR.out) ?_;refine tk 3 ?_;refine tk 4 ?_;refine tk 5 ?_;refine tk 6 ?_;refine tk 7 ?_;refine tk 8 ?_;refine tk 9 ?_;refine tk 10 ?_;refine tk 11 ?_;refine tk 12 ?_;refine rd [13] ?_;refine rcE fun K hK=> ?_;refine step_store_row (by rfl) 29 (.tmp 6) (.tmp 43) (by rfl) (by rfl) b6 #[.string xn,.string xd] #[.string xn,.string xd] (by rfl) (by rfl) (by kernel_rfl) (HK0.out.has (b6,.cells #[.string xn,.string xd] 29 (0,0)) (by simp)) (by rfl) (by simp[Value.oneCell']) ?_;intro V' hc' ht';have HK1:Hid (At w V' [(b8,.cells #[.string zn,.string zd] 29 (0,0)),(b6,.cells #[.string xn,.string xd] 29 (0,0)),(b7,.cells #[.string yn,.string yd] 29 (0,0))]):=hZ (((HK0.out.turn (M:=[(b7,.cells #[.string yn,.string yd] 29 (0,0)),(b8,.cells #[.string zn,.string zd] 29 (0,0))]) ht' HLO.out.1 (by have h:=HNE.out;simp;omega)).cons hc').less (by simp))
 clear hc' ht';refine kk hK (HK1.out) (fun hHeld=> ?_);clear hK K;refine rd [14] ?_;refine rcE fun K hK=> ?_;refine step_store_row (by rfl) 29 (.tmp 7) (.tmp 44) (by rfl) (by rfl) b7 #[.string yn,.string yd] #[.string yn,.string yd] (by rfl) (by rfl) (by kernel_rfl) (HK1.out.has (b7,.cells #[.string yn,.string yd] 29 (0,0)) (by simp)) (by rfl) (by simp[Value.oneCell']) ?_;intro V' hc' ht';have HK2:Hid (At w V' [(b8,.cells #[.string zn,.string zd] 29 (0,0)),(b6,.cells #[.string xn,.string xd] 29 (0,0)),(b7,.cells #[.string yn,.string yd] 29 (0,0))]):=hZ (((HK1.out.turn (M:=[(b6,.cells #[.string xn,.string xd] 29 (0,0)),(b8,.cells #[.string zn,.string zd] 29 (0,0))]) ht' HLO.out.2.1 (by have h:=HNE.out;simp;omega)).cons hc').less (by simp));clear hc' ht';refine kk hK (HK2.out) (fun hHeld=> ?_);clear hK K;refine rd [15] ?_;refine rcE fun K hK=> ?_;refine step_store_row (by rfl) 29 (.tmp 8) (.tmp 45) (by rfl) (by rfl) b8 #[.string zn,.string zd] #[.string zn,.string zd] (by rfl) (by rfl) (by kernel_rfl) (HK2.out.has (b8,.cells #[.string zn,.string zd] 29 (0,0)) (by simp)) (by rfl) (by simp[Value.oneCell']) ?_;intro V' hc' ht';have HK3:Hid (At w V' [(b8,.cells #[.string zn,.string zd] 29 (0,0)),(b6,.cells #[.string xn,.string xd] 29 (0,0)),(b7,.cells #[.string yn,.string yd] 29 (0,0))]):=hZ (((HK2.out.turn (M:=[(b6,.cells #[.string xn,.string xd] 29 (0,0)),(b7,.cells #[.string yn,.string yd] 29 (0,0))]) ht' HLO.out.2.2 (by have h:=HNE.out;simp;omega)).cons hc').less (by simp));clear hc' ht';refine kk hK (HK3.out) (fun hHeld=> ?_);clear hK K;refine tk 16 ?_;refine dn ?_;have HR:=hZ HK3.out;go_wp2_with fail;refine bodyPost_ret (results_cells3tmp rfl _ _ b6 b7 b8 [.string xn,.string xd] [.string yn,.string yd] [.string zn,.string zd] _ rfl rfl rfl (range_of (HR.out.has (b6,.cells #[.string xn,.string xd] 29 (0,0)) (by simp))) (range_of (HR.out.has (b7,.cells #[.string yn,.string yd] 29 (0,0)) (by simp))) (range_of (HR.out.has (b8,.cells #[.string zn,.string zd] 29 (0,0)) (by simp))) Tryz.underlying29 rfl HIR.out rfl rfl) rfl ?_
 rw[HG.out];exact⟨rfl,HR.out.below⟩
def IterY {α:Type} (P:Program) (g:Nat) (lb:Array Value) (encs:α→Array Value) (Kp:Nat→World→World→Prop) (S Sp:List α→Prop) (N:Nat) (w:World):Prop:=
 ∀ (l:Nat) (J Jx:List α→World→Prop) (W:World),l<W.heap.size→Below w.heap.size w W→
  (∀s A B,J s A→Turns (fun _=>False) A B→J s B)→(∀s A B,Jx s A→Turns (fun _=>False) A B→Jx s B)→
  (∀pre x W1,J pre W1→pre.length<N→YieldAt Fence.wide 1 P l (encs x) W1 fun e W'=>
    (e=.returned (.bool true)∧J (pre++[x]) W'∧Kp l W1 W')∨(e=.returned (.bool false)∧Jx (pre++[x]) W'))→
  J [] W→
  CallsIn Fence.wide 2 P g (#[.func (.yield l) #[] #[]]++lb) W fun e W'=>(∃v,e=.returned v)∧((∃xs,S xs∧J xs W')∨(∃pre,Sp pre∧Jx pre W'))
def Cf (l:List D3) (i k:Nat):Prop:=∃a b,i<k∧l[i]?=some a∧l[k]?=some b∧(3*(b.tm-a.tm)<b.lo-a.hi∨3*(b.tm-a.tm)<a.lo-b.hi)
def encP (x:Nat×Nat):Array Value:=#[.agg #[.int .i64 (x.1:Int),.int .i64 (x.2:Int)],.bool true]
structure KpP (Y:Nat→Prop) (l:Nat) (A B:World):Prop where
 size:A.heap.size≤B.heap.size
 old:∀k,Y k→B.heap[k]?=A.heap[k]?
 pts:∀k cs,k≠l→A.heap[k]?=some (.cells cs 86 (0,0))→B.heap[k]?=some (.cells cs 86 (0,0))
theorem Pow10.kept {w W:World} (h:Pow10 w) (hs:w.heap.size≤W.heap.size) (k:∀i,i<w.heap.size→W.heap[i]?=w.heap[i]?):Pow10 W:=by
 have:=h.below (w':={w with heap:=W.heap}) ⟨rfl,rfl,rfl,hs,k⟩;exact this
theorem HiAt.kept {w W:World} {A:Option Addr} {n:Nat} {l:List D3} (h:HiAt w A n l) (hs:w.heap.size≤W.heap.size) (k:∀i,i<w.heap.size→W.heap[i]?=w.heap[i]?):HiAt W A n l:=by
 have:=h.below (W:={w with heap:=W.heap}) ⟨rfl,rfl,rfl,hs,k⟩;exact⟨this.row,this.len,this.few,this.ok,this.up⟩
def Scan (l:List D3) (i k:Nat) (pre:List (Nat×Nat)):Prop:=(pre=[]↔ ∀a b,a<i∨(a=i∧b<k)→¬Cf l a b)∧pre.length≤20*i+k
theorem Scan.row {l:List D3} {i n:Nat} {pre:List (Nat×Nat)} (h:Scan l i n pre) (hn:l.length=n) (h20:n≤20):Scan l (i+1) 0 pre:=by
 refine⟨h.1.trans ⟨fun H a b hab=> ?_,fun H a b hab=>H a b (by omega)⟩,by have:=h.2;omega⟩;intro hc;obtain⟨x,y,h1,h2,h3,h4⟩:=id hc;have:=(List.getElem?_eq_some_iff.1 h3).1;exact H a b (by omega) hc
theorem Scan.open {l:List D3} {i:Nat} {pre:List (Nat×Nat)} (h:Scan l i 0 pre):Scan l i (i+1) pre:=by
 refine⟨h.1.trans ⟨fun H a b hab=> ?_,fun H a b hab=>H a b (by omega)⟩,by have:=h.2;omega⟩;intro hc;obtain⟨x,y,h1,h2,h3,h4⟩:=id hc;exact H a b (by omega) hc
theorem Scan.skip {l:List D3} {i k:Nat} {pre:List (Nat×Nat)} (h:Scan l i k pre) (hc:¬Cf l i k):Scan l i (k+1) pre:=by
 refine⟨h.1.trans ⟨fun H a b hab=> ?_,fun H a b hab=>H a b (by omega)⟩,by have:=h.2;omega⟩
 by_cases e:a=i∧b=k
 · obtain⟨rfl,rfl⟩:=e;exact hc
 · exact H a b (by omega)
theorem Scan.find {l:List D3} {i k:Nat} {pre:List (Nat×Nat)} (h:Scan l i k pre) (hc:Cf l i k):Scan l i (k+1) (pre++[(i,k)]):=
 ⟨⟨fun e=>by simp at e,fun H=>absurd hc (H i k (by omega))⟩,by have:=h.2;simp;omega⟩
theorem Scan.done {l:List D3} {n:Nat} {pre:List (Nat×Nat)} (h:Scan l n 0 pre) (hn:l.length=n):pre=[]↔ ∀i k,¬Cf l i k:=by
 refine h.1.trans ⟨fun H a b hc=> ?_,fun H a b _=>H a b⟩;obtain⟨x,y,h1,h2,h3,h4⟩:=id hc;have:=(List.getElem?_eq_some_iff.1 h2).1;exact H a b (by omega) hc
theorem KpP.below {Y:Nat→Prop} {l:Nat} {A B C:World} (h:KpP Y l A B) (hY:∀k,Y k→k<B.heap.size) (hb:Below B.heap.size B C):KpP Y l A C:=
 ⟨Nat.le_trans h.size hb.size,fun k hk=>(hb.block k (hY k hk)).trans (h.old k hk),fun k cs hk ho=>(hb.block k (Array.getElem?_eq_some_iff.1 (h.pts k cs hk ho)).1).trans (h.pts k cs hk ho)⟩
theorem KpP.trans {Y:Nat→Prop} {l:Nat} {A B C:World} (h:KpP Y l A B) (g:KpP Y l B C):KpP Y l A C:=
 ⟨Nat.le_trans h.size g.size,fun k hk=>(g.old k hk).trans (h.old k hk),fun k cs hk ho=>g.pts k cs hk (h.pts k cs hk ho)⟩
theorem sh1 {α:Type} {F G:α→Prop} {Z:Prop} (h:(∀a,F a→G a)→Z) (g:∀a,F a→G a):Z:=h g
theorem sh2 {α β:Type} {F G:α→β→Prop} {Z:Prop} (h:(∀a b,F a b→G a b)→Z) (g:∀a b,F a b→G a b):Z:=h g
theorem sh3 {α β γ:Type} {F G:α→β→γ→Prop} {Z:Prop} (h:(∀a b c,F a b c→G a b c)→Z) (g:∀a b c,F a b c→G a b c):Z:=h g
theorem sh4 {α β γ δ:Type} {F G:α→β→γ→δ→Prop} {Z:Prop} (h:(∀a b c d,F a b c d→G a b c d)→Z) (g:∀a b c d,F a b c d→G a b c d):Z:=h g
structure Nw (w V:World) (L:List (Nat×Obj)):Prop where
 at_:At w V L
 nd:(L.map (·.1)).Nodup
 hi:∀p∈L,w.heap.size≤p.1
theorem Nw.alloc {w V:World} {L:List (Nat×Obj)} (h:Nw w V L) (o:Obj):∃b V',V.heap.size=b∧V.alloc o=V'∧Nw w V' ((b,o)::L):=by
 obtain⟨b,V',q1,q2,q3,hf⟩:=h.at_.alloc o;refine⟨b,V',q1,q2,hf,?_,fun p hp=> ?_⟩
 · rw[List.map_cons,List.nodup_cons]
   refine⟨fun hm=> ?_,h.nd⟩;obtain⟨p,hp,e⟩:=List.mem_map.1 hm;have:=h.at_.lt (b:=p.1) (o:=p.2) hp;omega
 · rcases List.mem_cons.1 hp with rfl|hp
   · exact q3
   · exact h.hi p hp
theorem Nw.step {w V V':World} {L:List (Nat×Obj)} (h:Nw w V L) (hb:Below V.heap.size V V'):Nw w V' L:=⟨h.at_.step hb,h.nd,h.hi⟩
theorem Nw.re {w V:World} {L M:List (Nat×Obj)} (h:Nw w V L) (hm:∀p∈M,p∈L) (nd:(M.map (·.1)).Nodup):Nw w V M:=⟨h.at_.less hm,nd,fun p hp=>h.hi p (hm p hp)⟩
theorem Nw.put {w V V':World} {L:List (Nat×Obj)} {b:Nat} {o o':Obj} (h:Nw w V ((b,o)::L)) (hc:V'.heap[b]?=some o') (t:Turns (fun k=>k=b) V V'):Nw w V' ((b,o')::L):=by
 have hn:=h.nd;rw[List.map_cons,List.nodup_cons] at hn;refine⟨(h.at_.turn (M:=L) t (h.hi _ (List.mem_cons_self ..)) fun p hp=>⟨List.mem_cons_of_mem _ hp,fun e=>hn.1 (e▸List.mem_map_of_mem (f:=(·.1)) hp)⟩).cons hc,by rw[List.map_cons,List.nodup_cons];exact hn,fun p hp=> ?_⟩;rcases List.mem_cons.1 hp with rfl|hp
 · exact h.hi (b,o) (List.mem_cons_self ..)
 · exact h.hi p (List.mem_cons_of_mem _ hp)
theorem pairs_iter (l:List D3) (A:Option Addr) (n c b1:Nat) (w0 w:World) (h:HiAt w0 A n l) (hp:Pow10 w0) (hN:Below w0.heap.size w0 w)
 (hb1:w.heap[b1]?=some (.cells #[.string (nB 3),.string (dB 3),.slice A n c] 58 (0,0))):
 IterY Tryz.prog 142 #[.pointer (some ⟨b1,0,none⟩)] encP (KpP fun k=>k<w0.heap.size∨k=b1) (fun xs=>xs=[]↔ ∀i k,¬Cf l i k) (fun _=> ∃i k,Cf l i k) 400 w:=by
 intro l0 J Jx W hl0 hW hJ hJx hYl h0
 have HENV:Hid (∀U,(∀k,(k<w0.heap.size∨k=b1)→U.heap[k]?=W.heap[k]?)→Pow10 U∧HiAt U A n l∧U.heap[b1]?=some (.cells #[.string (nB 3),.string (dB 3),.slice A n c] 58 (0,0))∧(∀k,(k<w0.heap.size∨k=b1)→k<U.heap.size)):=hZ fun U hU=>by
  have hbW:Below w0.heap.size w0 W:=hN.trans (hW.mono hN.size);have k0:∀i,i<w0.heap.size→U.heap[i]?=w0.heap[i]?:=fun i hi=>(hU i (.inl hi)).trans (hbW.block i hi)
  have hlt:∀k,(k<w0.heap.size∨k=b1)→k<U.heap.size:=fun k hk=>by
   have hkw:k<W.heap.size:=by
    rcases hk with hk|rfl
    · exact Nat.lt_of_lt_of_le hk hbW.size
    · exact Nat.lt_of_lt_of_le (Array.getElem?_eq_some_iff.1 hb1).1 hW.size
   exact(Array.getElem?_eq_some_iff.1 ((hU k hk).trans (Array.getElem?_eq_getElem hkw))).1
  have hs:w0.heap.size≤U.heap.size:=Nat.le_of_not_lt fun hc=>by have:=hlt _ (.inl hc);omega
  exact⟨hp.kept hs k0,h.kept hs k0,((hU b1 (.inr rfl)).trans (hW.block b1 (Array.getElem?_eq_some_iff.1 hb1).1)).trans hb1,hlt⟩
 have hb1W:b1<W.heap.size:=Nat.lt_of_lt_of_le (Array.getElem?_eq_some_iff.1 hb1).1 hW.size;have hw0W:w0.heap.size≤W.heap.size:=Nat.le_trans hN.size hW.size;have HLT:=hZ (And.intro hl0 (And.intro hb1W hw0W));have hn20:=h.few;have HLEN:=hZ h.len;have HUP:=hZ h.up;have HOK:=hZ h.ok;have HYL:=hZ hYl;have HJ:=hZ hJ;have HJX:=hZ hJx;have HG:=hZ (fun a b W q1 q2 q3 q4=>gap12 a b W q1 q2 q3 q4);have HFAR:=hZ (fun x y b W q1 q2 q3 q4=>far12 x y b W q1 q2 q3 q4);obtain⟨-,-,e1,-⟩:=HENV.out W (fun _ _=>rfl);obtain⟨gn,f1⟩:=oQ (nB 3);obtain⟨gd,f2⟩:=oQ (dB 3);unfold tV at HG;rw[f1,f2] at HENV HG e1;have c2:=cells_i e1 (i:=2) rfl;clear h hp hN hb1 hl0 hW hJ hJx hYl e1 f1 f2 hb1W hw0W;refine callsIn_of_wp Tryz.func142 rfl trivial ?_ rfl;simp only[Tryz.ntmps142,List.size_toArray,List.length_cons,List.length_nil,Nat.reduceAdd,Nat.reduceSub,Array.replicate_succ,Array.replicate_zero,List.push_toArray,List.append_toArray,List.nil_append,List.cons_append]
 gi_wp2_with fail
 gi_loopw [14] (fun u wr=> ∃(i:Nat) (pre:List (Nat×Nat)),Hid (Scan l i 0 pre)∧i≤n∧u=.int .i64 (i:Int)∧Hid (KpP (fun k=>k<w0.heap.size∨k=b1) l0 W wr)∧Hid (J pre wr)) (fun u _=>n-(intOf u).toNat)
 case atStart=>exact⟨0,[],hZ ⟨⟨fun _ a b hab=>by omega,fun _=>rfl⟩,by simp⟩,by omega,rfl,hZ ⟨Nat.le_refl _,fun _ _=>rfl,fun _ _ _ q=>q⟩,hZ h0⟩
 case round =>
  obtain⟨i,pre,HSC,hi,rfl,HK,HJP⟩:=hrel;clear h0 c2
  by_cases hlt:i<n
  · have d1 : decide (i<n)=true:=by simp[hlt]
    obtain⟨hpU,hHU,hbU,hltU⟩:=HENV.out wr HK.out.old;obtain⟨a,b,hd,hok,hA,hrg⟩:=hHU.get hlt;have HRG:=hZ (hrg wr (Below.refl _ _));have HD:=hZ hd;have HAOK:=hZ hok;subst hA;have HC:Hid (ptC a.pt=[.int .i64 a.tm,.string (nB a.lo),.string (dB a.lo),.string (nB a.hi),.string (dB a.hi)]):=hZ rfl;have IL:=hZ (show(Tryz.prog.info? 86).map (·.size)=some (ptC a.pt).length by kernel_rfl);obtain⟨ta,e1⟩:=oQ (a.tm);obtain⟨aln,e2⟩:=oQ (nB a.lo);obtain⟨ald,e3⟩:=oQ (dB a.lo);obtain⟨ahn,e4⟩:=oQ (nB a.hi);obtain⟨ahd,e5⟩:=oQ (dB a.hi);rw[e1,e2,e3,e4,e5] at HC;rw[HC.out] at HRG IL;(have z1:(0:Int)≤(i:Int):=by omega);(have z2:(i:Int)<(n:Int):=by omega);(have wk:IntKind.i64.wrap ((i:Int)+1)=((i+1:Nat):Int):=by rw[IntKind.wrap_i64];omega);have HB1L:=hZ hltU;clear hpU hHU hbU hltU hrg hok hd e1 e2 e3 e4 e5
    gi_wp2_with (first
     |((with_reducible refine wpListIn_load_mid rfl 86 (.tmp 17) rfl b (i*5) ?hx [.int .i64 ta,.string aln,.string ald,.string ahn,.string ahd] _ HRG.out Tryz.underlying86 rfl IL.out ?_);(case hx=>first|rfl|simp[Addr.add]))
     |fail)
    obtain⟨b4,w4,q1,q2,q3,hf4,hs4⟩:=(At.start wr).alloc2 (.cells #[.int .i64 ta,.string aln,.string ald,.string ahn,.string ahd] 86);rw[q1,q2];have HB4:Hid (W.heap.size≤b4):=hZ (by have:=HK.out.size;omega);have HF4:=hZ hf4;have hbl:=hf4.below;have HK4:Hid (KpP (fun k=>k<w0.heap.size∨k=b1) l0 W w4):=hZ (HK.out.below HB1L.out hbl);have HJ4:Hid (J pre w4):=hZ (HJ.out _ _ _ HJP.out (Turns.of_below hbl));have HP4:=hZ (HF4.out.has (b4,.cells #[.int .i64 ta,.string aln,.string ald,.string ahn,.string ahd] 86 (0,0)) (by simp));clear q1 q2 q3 hf4 hs4 hbl HF4 HK HJP HRG HB1L
    gi_loopw [5] (fun u wr=> ∃(k:Nat) (pre:List (Nat×Nat)),Hid (Scan l i k pre)∧i<k∧k≤n∧u=.int .i64 (k:Int)∧Hid (KpP (fun k=>k<w0.heap.size∨k=b1) l0 W wr)∧Hid (wr.heap[b4]?=some (.cells #[.int .i64 ta,.string aln,.string ald,.string ahn,.string ahd] 86 (0,0)))∧Hid (J pre wr)) (fun u _=>n-(intOf u).toNat)
    case atStart=>exact⟨i+1,pre,hZ HSC.out.open,by omega,by omega,rfl,HK4,HP4,HJ4⟩
    case round=>
     clear HSC HK4 HP4 HJ4;obtain⟨k,pre,HSC,hik,hkn,rfl,HK,HP4,HJP⟩:=hrel;obtain⟨hpU,hHU,hbU,hltU⟩:=HENV.out wr HK.out.old;have c2:=cells_i hbU (i:=2) rfl
     by_cases hlt2:k<n
     · have d2:decide (k<n)=true:=by simp[hlt2]
       gi_wp2_with fail
       obtain⟨d,b',hd,hok,hA',hrg⟩:=hHU.get hlt2;cases hA';have HRB:=hZ hrg;have HDK:=hZ hd
       have htm:a.tm≤d.tm:=by
        obtain⟨h1,ha⟩:=List.getElem?_eq_some_iff.1 HD.out;obtain⟨h2,hd'⟩:=List.getElem?_eq_some_iff.1 hd;have:=List.pairwise_iff_getElem.1 HUP.out i k h1 h2 hik;rw[ha,hd'] at this;exact this
       have HGK0:=fun W q=>HG.out a d W HAOK.out hok htm q;(have hx:S12 (d.lo-a.hi):=by have:=hok.lo;have:=HAOK.out.hi;unfold S12;omega);(have hy:S12 (a.lo-d.hi):=by have:=hok.hi;have:=HAOK.out.lo;unfold S12;omega);(have hz:S12 (3*(d.tm-a.tm)):=by have:=hok.t1;have:=hok.t0;have:=HAOK.out.t1;have:=HAOK.out.t0;unfold S12;omega);have HFA:=hZ (fun b W q1 q2=>HFAR.out (d.lo-a.hi) (3*(d.tm-a.tm)) b W hx hz q1 q2);have HFB:=hZ (fun b W q1 q2=>HFAR.out (a.lo-d.hi) (3*(d.tm-a.tm)) b W hy hz q1 q2)
       have HCF:Hid (Cf l i k↔(3*(d.tm-a.tm)<d.lo-a.hi∨3*(d.tm-a.tm)<a.lo-d.hi)):=hZ ⟨fun⟨x,y,_,h1,h2,h3⟩=>by
        rw[HD.out] at h1;rw[HDK.out] at h2;cases h1;cases h2
        exact h3,fun h=>⟨a,d,hik,HD.out,HDK.out,h⟩⟩
       have HC2:ptC d.pt=[.int .i64 d.tm,.string (nB d.lo),.string (dB d.lo),.string (nB d.hi),.string (dB d.hi)]:=rfl;obtain⟨p1,hp1⟩:=oQ (decide (3*(d.tm-a.tm)<d.lo-a.hi));obtain⟨p2,hp2⟩:=oQ (decide (3*(d.tm-a.tm)<a.lo-d.hi));rw[hp1] at HFA;rw[hp2] at HFB;have HPP:=hZ (And.intro hp1 hp2);unfold GapP at HGK0;unfold tV at HGK0 HFA HFB;obtain⟨xn,e6⟩:=oQ (nB (d.lo-a.hi));obtain⟨xd,e7⟩:=oQ (dB (d.lo-a.hi));obtain⟨yn,e8⟩:=oQ (nB (a.lo-d.hi));obtain⟨yd,e9⟩:=oQ (dB (a.lo-d.hi));obtain⟨zn,e10⟩:=oQ (nB (3*(d.tm-a.tm)));obtain⟨zd,e11⟩:=oQ (dB (3*(d.tm-a.tm)));rw[e6,e7,e10,e11] at HFA;rw[e8,e9,e10,e11] at HFB;rw[e6,e7,e8,e9,e10,e11,HC.out,HC2] at HGK0;obtain⟨tb,e1⟩:=oQ (d.tm);obtain⟨bln,e2⟩:=oQ (nB d.lo);obtain⟨bld,e3⟩:=oQ (dB d.lo);obtain⟨bhn,e4⟩:=oQ (nB d.hi);obtain⟨bhd,e5⟩:=oQ (dB d.hi);rw[HC2,e1,e2,e3,e4,e5] at HRB;rw[e1,e2,e3,e4,e5] at HGK0;have HGK:=hZ HGK0;have HPW:=hZ hpU;have HS:Hid (∀U,Below wr.heap.size wr U→(U.heap[b4]?=some (.cells #[.int .i64 ta,.string aln,.string ald,.string ahn,.string ahd] 86 (0,0))∧U.heap[b1]?=some (.cells #[.string gn,.string gd,.slice (some ⟨b,0,none⟩) n c] 58 (0,0))∧U.rangeAt b (k*5) [.int .i64 tb,.string bln,.string bld,.string bhn,.string bhd]∧U.cell? ⟨b1,2,none⟩=some (.slice (some ⟨b,0,none⟩) n c))):=hZ fun U hb=>⟨(hb.block b4 (Array.getElem?_eq_some_iff.1 HP4.out).1).trans HP4.out,(hb.block b1 (Array.getElem?_eq_some_iff.1 hbU).1).trans hbU,HRB.out U hb,cells_i ((hb.block b1 (Array.getElem?_eq_some_iff.1 hbU).1).trans hbU) rfl⟩;have IL2:=hZ (show(Tryz.prog.info? 86).map (·.size)=some [Value.int .i64 tb,Value.string bln,Value.string bld,Value.string bhn,Value.string bhd].length by kernel_rfl);have IR:=hZ (show(Tryz.prog.info? 29).map (·.size)=some [Value.string gn,Value.string gd].length by kernel_rfl)
       have HBL:=hZ hltU;clear hd hok hrg htm HGK0 hx hy hz HC2 hp1 hp2 e1 e2 e3 e4 e5 e6 e7 e8 e9 e10 e11 hpU hHU hbU hltU c2;(have z3:(0:Int)≤(k:Int):=by omega);(have z4:(k:Int)<(n:Int):=by omega);refine wpIn_wide.2 ?_;refine wp_region_noPanic ?_;refine wp_region_held_drew (S:=fun U=>U.heap[b4]?=some (.cells #[.int .i64 ta,.string aln,.string ald,.string ahn,.string ahd] 86 (0,0))∧U.heap[b1]?=some (.cells #[.string gn,.string gd,.slice (some ⟨b,0,none⟩) n c] 58 (0,0))∧U.rangeAt b (k*5) [.int .i64 tb,.string bln,.string bld,.string bhn,.string bhd]∧U.cell? ⟨b1,2,none⟩=some (.slice (some ⟨b,0,none⟩) n c)) (by kernel_rfl) (HS.out wr.drew (Below.drew (Below.refl _ _))) (fun hHeld=> ?_);obtain⟨U0,hU0⟩:=oQ (wr.drew);have HF:Hid (Nw wr U0 []):=hZ ⟨hU0▸(At.start wr).drew,List.nodup_nil,fun _ h=>by cases h⟩;rw[hU0] at hHeld⊢;clear hU0;refine tk 0 ?_;refine tl 1 rfl (yieldsIf_load_mid (by rfl) 29 (.tmp 29) rfl b1 (0) (by rfl) [.string gn,.string gd] _ (fun w hw=>fun j v hv=>(range_of (cs:=[.string gn,.string gd,.slice (some ⟨b,0,none⟩) n c]) hw.2.1) j v (by match j,hv with|0,hv=>exact hv|1,hv=>exact hv)) Tryz.underlying29 rfl IR.out) ?_;refine tl 2 rfl (yieldsIf_load_mid (by rfl) 86 (.tmp 4) rfl b4 (0) (by rfl) [.int .i64 ta,.string aln,.string ald,.string ahn,.string ahd] _ (fun w hw=>range_of (cs:=[.int .i64 ta,.string aln,.string ald,.string ahn,.string ahd]) hw.1) Tryz.underlying86 rfl IL.out) ?_;refine tk 3 ?_;refine tk 4 ?_;refine tk 5 ?_;refine tk 6 ?_;refine tl 7 rfl (yieldsIf_load_mid (by rfl) 86 (.tmp 35) rfl b (k*5) (by rfl) [.int .i64 tb,.string bln,.string bld,.string bhn,.string bhd] _ (fun w hw=>hw.2.2.1) Tryz.underlying86 rfl IL2.out) ?_;apply sh4;intro N0;apply sh3;intro N1;apply sh3;intro N2;apply sh3;intro N3;apply sh4;intro N4;apply sh2;intro N5;apply sh2;intro N6;apply sh2
       intro N7;apply sh3;intro N8;apply sh3;intro N9;apply sh3;intro N10
       ·
        refine rd [8,14,15,16] ?_;refine rc (fun K hK=> ?_) ?_
        ·
         go_simp
         (with_reducible refine(HGK.out _ (HPW.out.below HF.out.at_.below)).mono ?_)
         rintro e1 V8 ⟨rfl,hb8⟩;have HF:=hZ (HF.out.step hb8);clear hb8;refine kk hK (HS.out _ HF.out.at_.below) (fun hHeld=> ?_);clear hK K;refine tk 9 ?_;refine tk 10 ?_;refine tk 11 ?_;refine tk 12 ?_;refine tk 13 ?_;refine rd [14,15,16] ?_;refine rc (fun K hK=> ?_) ?_
         ·
          go_simp;obtain⟨b6,V14,q1,q2,HF1⟩:=HF.out.alloc (.cells #[.string ⟨#[]⟩,.string ⟨#[]⟩] 29);rw[q1,q2];have HF:=hZ HF1;clear HF1 q1 q2;refine kk hK (HS.out _ HF.out.at_.below) (fun hHeld=> ?_);clear hK K;have HX:=(And.intro HF hHeld);exact N5 V14 b6 HX
         refine rc (fun K hK=> ?_) ?_
         ·
          go_simp;obtain⟨b7,V15,q1,q2,HF1⟩:=HF.out.alloc (.cells #[.string ⟨#[]⟩,.string ⟨#[]⟩] 29);rw[q1,q2];have HF:=hZ HF1;clear HF1 q1 q2;refine kk hK (HS.out _ HF.out.at_.below) (fun hHeld=> ?_);clear hK K;have HX:=(And.intro HF hHeld);exact N6 V15 b7 HX
         refine rcE fun K hK=> ?_;go_simp;obtain⟨b8,V16,q1,q2,HF1⟩:=HF.out.alloc (.cells #[.string ⟨#[]⟩,.string ⟨#[]⟩] 29);rw[q1,q2];have HF:=hZ HF1;clear HF1 q1 q2;refine kk hK (HS.out _ HF.out.at_.below) (fun hHeld=> ?_);clear hK K;have HX:=(And.intro HF hHeld);exact N7 V16 b8 HX
        refine rc (fun K hK=> ?_) ?_
        ·
         go_simp;obtain⟨b6,V14,q1,q2,HF1⟩:=HF.out.alloc (.cells #[.string ⟨#[]⟩,.string ⟨#[]⟩] 29);rw[q1,q2];have HF:=hZ HF1;clear HF1 q1 q2;refine kk hK (HS.out _ HF.out.at_.below) (fun hHeld=> ?_);clear hK K;refine rd [8,15,16] ?_;refine rc (fun K hK=> ?_) ?_
         ·
          go_simp
          (with_reducible refine(HGK.out _ (HPW.out.below HF.out.at_.below)).mono ?_)
          rintro e1 V8 ⟨rfl,hb8⟩;have HF:=hZ (HF.out.step hb8);clear hb8;refine kk hK (HS.out _ HF.out.at_.below) (fun hHeld=> ?_);clear hK K;refine tk 9 ?_;refine tk 10 ?_;refine tk 11 ?_;refine tk 12 ?_;refine tk 13 ?_;exact N5 V8 b6 ⟨(hZ (HF.out.re (by simp) (by have h:=HF.out.nd;simp at h⊢ <;>omega))),hHeld⟩
         refine rc (fun K hK=> ?_) ?_
         ·
          go_simp;obtain⟨b7,V15,q1,q2,HF1⟩:=HF.out.alloc (.cells #[.string ⟨#[]⟩,.string ⟨#[]⟩] 29);rw[q1,q2];have HF:=hZ HF1;clear HF1 q1 q2;refine kk hK (HS.out _ HF.out.at_.below) (fun hHeld=> ?_);clear hK K;have HX:=(And.intro HF hHeld);exact N8 V15 b6 b7 HX
         refine rcE fun K hK=> ?_;go_simp;obtain⟨b8,V16,q1,q2,HF1⟩:=HF.out.alloc (.cells #[.string ⟨#[]⟩,.string ⟨#[]⟩] 29);rw[q1,q2];have HF:=hZ HF1;clear HF1 q1 q2;refine kk hK (HS.out _ HF.out.at_.below) (fun hHeld=> ?_);clear hK K;have HX:=(And.intro HF hHeld);exact N9 V16 b6 b8 HX
        refine rc (fun K hK=> ?_) ?_
        ·
         go_simp;obtain⟨b7,V15,q1,q2,HF1⟩:=HF.out.alloc (.cells #[.string ⟨#[]⟩,.string ⟨#[]⟩] 29);rw[q1,q2];have HF:=hZ HF1;clear HF1 q1 q2;refine kk hK (HS.out _ HF.out.at_.below) (fun hHeld=> ?_);clear hK K;refine rd [8,14,16] ?_;refine rc (fun K hK=> ?_) ?_
         ·
          go_simp
          (with_reducible refine(HGK.out _ (HPW.out.below HF.out.at_.below)).mono ?_)
          rintro e1 V8 ⟨rfl,hb8⟩;have HF:=hZ (HF.out.step hb8);clear hb8;refine kk hK (HS.out _ HF.out.at_.below) (fun hHeld=> ?_);clear hK K;refine tk 9 ?_;refine tk 10 ?_;refine tk 11 ?_;refine tk 12 ?_;refine tk 13 ?_;exact N6 V8 b7 ⟨(hZ (HF.out.re (by simp) (by have h:=HF.out.nd;simp at h⊢ <;>omega))),hHeld⟩
         refine rc (fun K hK=> ?_) ?_
         ·
          go_simp;obtain⟨b6,V14,q1,q2,HF1⟩:=HF.out.alloc (.cells #[.string ⟨#[]⟩,.string ⟨#[]⟩] 29);rw[q1,q2];have HF:=hZ HF1;clear HF1 q1 q2;refine kk hK (HS.out _ HF.out.at_.below) (fun hHeld=> ?_);clear hK K;exact N8 V14 b6 b7 ⟨(hZ (HF.out.re (by simp) (by have h:=HF.out.nd;simp at h⊢ <;>omega))),hHeld⟩
         refine rcE fun K hK=> ?_;go_simp;obtain⟨b8,V16,q1,q2,HF1⟩:=HF.out.alloc (.cells #[.string ⟨#[]⟩,.string ⟨#[]⟩] 29);rw[q1,q2];have HF:=hZ HF1;clear HF1 q1 q2;refine kk hK (HS.out _ HF.out.at_.below) (fun hHeld=> ?_);clear hK K;have HX:=(And.intro HF hHeld);exact N10 V16 b7 b8 HX
        refine rcE fun K hK=> ?_;go_simp;obtain⟨b8,V16,q1,q2,HF1⟩:=HF.out.alloc (.cells #[.string ⟨#[]⟩,.string ⟨#[]⟩] 29);rw[q1,q2];have HF:=hZ HF1;clear HF1 q1 q2;refine kk hK (HS.out _ HF.out.at_.below) (fun hHeld=> ?_);clear hK K;refine rd [8,14,15] ?_;refine rc (fun K hK=> ?_) ?_
        ·
         go_simp
         (with_reducible refine(HGK.out _ (HPW.out.below HF.out.at_.below)).mono ?_)
         rintro e1 V8 ⟨rfl,hb8⟩;have HF:=hZ (HF.out.step hb8);clear hb8;refine kk hK (HS.out _ HF.out.at_.below) (fun hHeld=> ?_);clear hK K;refine tk 9 ?_;refine tk 10 ?_;refine tk 11 ?_;refine tk 12 ?_;refine tk 13 ?_;exact N7 V8 b8 ⟨(hZ (HF.out.re (by simp) (by have h:=HF.out.nd;simp at h⊢ <;>omega))),hHeld⟩
        refine rc (fun K hK=> ?_) ?_
        ·
         go_simp;obtain⟨b6,V14,q1,q2,HF1⟩:=HF.out.alloc (.cells #[.string ⟨#[]⟩,.string ⟨#[]⟩] 29);rw[q1,q2];have HF:=hZ HF1;clear HF1 q1 q2;refine kk hK (HS.out _ HF.out.at_.below) (fun hHeld=> ?_);clear hK K;exact N9 V14 b6 b8 ⟨(hZ (HF.out.re (by simp) (by have h:=HF.out.nd;simp at h⊢ <;>omega))),hHeld⟩
        refine rcE fun K hK=> ?_;go_simp;obtain⟨b7,V15,q1,q2,HF1⟩:=HF.out.alloc (.cells #[.string ⟨#[]⟩,.string ⟨#[]⟩] 29);rw[q1,q2];have HF:=hZ HF1;clear HF1 q1 q2;refine kk hK (HS.out _ HF.out.at_.below) (fun hHeld=> ?_);clear hK K;exact N10 V15 b7 b8 ⟨(hZ (HF.out.re (by simp) (by have h:=HF.out.nd;simp at h⊢ <;>omega))),hHeld⟩
       ·
        rintro XN10 b7 b8 ⟨HF,hHeld⟩;refine rd [8,14] ?_;refine rc (fun K hK=> ?_) ?_
        ·
         go_simp
         (with_reducible refine(HGK.out _ (HPW.out.below HF.out.at_.below)).mono ?_)
         rintro e1 V8 ⟨rfl,hb8⟩;have HF:=hZ (HF.out.step hb8);clear hb8;refine kk hK (HS.out _ HF.out.at_.below) (fun hHeld=> ?_);clear hK K;refine tk 9 ?_;refine tk 10 ?_;refine tk 11 ?_;refine tk 12 ?_;refine tk 13 ?_;have HX:=(And.intro HF hHeld);exact N3 V8 b7 b8 HX
        refine rcE fun K hK=> ?_;go_simp;obtain⟨b6,V14,q1,q2,HF1⟩:=HF.out.alloc (.cells #[.string ⟨#[]⟩,.string ⟨#[]⟩] 29);rw[q1,q2];have HF:=hZ HF1;clear HF1 q1 q2;refine kk hK (HS.out _ HF.out.at_.below) (fun hHeld=> ?_);clear hK K;have HX:=(And.intro HF hHeld);exact N4 V14 b6 b7 b8 HX
       ·
        rintro XN9 b6 b8 ⟨HF,hHeld⟩;refine rd [8,15] ?_;refine rc (fun K hK=> ?_) ?_
        ·
         go_simp
         (with_reducible refine(HGK.out _ (HPW.out.below HF.out.at_.below)).mono ?_)
         rintro e1 V8 ⟨rfl,hb8⟩;have HF:=hZ (HF.out.step hb8);clear hb8;refine kk hK (HS.out _ HF.out.at_.below) (fun hHeld=> ?_);clear hK K;refine tk 9 ?_;refine tk 10 ?_;refine tk 11 ?_;refine tk 12 ?_;refine tk 13 ?_;have HX:=(And.intro HF hHeld);exact N2 V8 b6 b8 HX
        refine rcE fun K hK=> ?_;go_simp;obtain⟨b7,V15,q1,q2,HF1⟩:=HF.out.alloc (.cells #[.string ⟨#[]⟩,.string ⟨#[]⟩] 29);rw[q1,q2];have HF:=hZ HF1;clear HF1 q1 q2;refine kk hK (HS.out _ HF.out.at_.below) (fun hHeld=> ?_);clear hK K;exact N4 V15 b6 b7 b8 ⟨(hZ (HF.out.re (by simp) (by have h:=HF.out.nd;simp at h⊢ <;>omega))),hHeld⟩
       ·
        rintro XN8 b6 b7 ⟨HF,hHeld⟩;refine rd [8,16] ?_;refine rc (fun K hK=> ?_) ?_
        ·
         go_simp
         (with_reducible refine(HGK.out _ (HPW.out.below HF.out.at_.below)).mono ?_)
         rintro e1 V8 ⟨rfl,hb8⟩;have HF:=hZ (HF.out.step hb8);clear hb8;refine kk hK (HS.out _ HF.out.at_.below) (fun hHeld=> ?_);clear hK K;refine tk 9 ?_;refine tk 10 ?_;refine tk 11 ?_;refine tk 12 ?_;refine tk 13 ?_;have HX:=(And.intro HF hHeld);exact N1 V8 b6 b7 HX
        refine rcE fun K hK=> ?_;go_simp;obtain⟨b8,V16,q1,q2,HF1⟩:=HF.out.alloc (.cells #[.string ⟨#[]⟩,.string ⟨#[]⟩] 29);rw[q1,q2];have HF:=hZ HF1;clear HF1 q1 q2;refine kk hK (HS.out _ HF.out.at_.below) (fun hHeld=> ?_);clear hK K;exact N4 V16 b6 b7 b8 ⟨(hZ (HF.out.re (by simp) (by have h:=HF.out.nd;simp at h⊢ <;>omega))),hHeld⟩
       ·
        rintro XN7 b8 ⟨HF,hHeld⟩;refine rd [14,15] ?_;refine rc (fun K hK=> ?_) ?_
        ·
         go_simp;obtain⟨b6,V14,q1,q2,HF1⟩:=HF.out.alloc (.cells #[.string ⟨#[]⟩,.string ⟨#[]⟩] 29);rw[q1,q2];have HF:=hZ HF1;clear HF1 q1 q2;refine kk hK (HS.out _ HF.out.at_.below) (fun hHeld=> ?_);clear hK K;exact N2 V14 b6 b8 ⟨(hZ (HF.out.re (by simp) (by have h:=HF.out.nd;simp at h⊢ <;>omega))),hHeld⟩
        refine rcE fun K hK=> ?_;go_simp;obtain⟨b7,V15,q1,q2,HF1⟩:=HF.out.alloc (.cells #[.string ⟨#[]⟩,.string ⟨#[]⟩] 29);rw[q1,q2];have HF:=hZ HF1;clear HF1 q1 q2;refine kk hK (HS.out _ HF.out.at_.below) (fun hHeld=> ?_);clear hK K;exact N3 V15 b7 b8 ⟨(hZ (HF.out.re (by simp) (by have h:=HF.out.nd;simp at h⊢ <;>omega))),hHeld⟩
       ·
        rintro XN6 b7 ⟨HF,hHeld⟩;refine rd [14,16] ?_;refine rc (fun K hK=> ?_) ?_
        ·
         go_simp;obtain⟨b6,V14,q1,q2,HF1⟩:=HF.out.alloc (.cells #[.string ⟨#[]⟩,.string ⟨#[]⟩] 29);rw[q1,q2];have HF:=hZ HF1;clear HF1 q1 q2;refine kk hK (HS.out _ HF.out.at_.below) (fun hHeld=> ?_);clear hK K;exact N1 V14 b6 b7 ⟨(hZ (HF.out.re (by simp) (by have h:=HF.out.nd;simp at h⊢ <;>omega))),hHeld⟩
        refine rcE fun K hK=> ?_;go_simp;obtain⟨b8,V16,q1,q2,HF1⟩:=HF.out.alloc (.cells #[.string ⟨#[]⟩,.string ⟨#[]⟩] 29);rw[q1,q2];have HF:=hZ HF1;clear HF1 q1 q2;refine kk hK (HS.out _ HF.out.at_.below) (fun hHeld=> ?_);clear hK K;exact N3 V16 b7 b8 ⟨(hZ (HF.out.re (by simp) (by have h:=HF.out.nd;simp at h⊢ <;>omega))),hHeld⟩
       ·
        rintro XN5 b6 ⟨HF,hHeld⟩;refine rd [15,16] ?_;refine rc (fun K hK=> ?_) ?_
        ·
         go_simp;obtain⟨b7,V15,q1,q2,HF1⟩:=HF.out.alloc (.cells #[.string ⟨#[]⟩,.string ⟨#[]⟩] 29);rw[q1,q2];have HF:=hZ HF1;clear HF1 q1 q2;refine kk hK (HS.out _ HF.out.at_.below) (fun hHeld=> ?_);clear hK K;exact N1 V15 b6 b7 ⟨(hZ (HF.out.re (by simp) (by have h:=HF.out.nd;simp at h⊢ <;>omega))),hHeld⟩
        refine rcE fun K hK=> ?_;go_simp;obtain⟨b8,V16,q1,q2,HF1⟩:=HF.out.alloc (.cells #[.string ⟨#[]⟩,.string ⟨#[]⟩] 29);rw[q1,q2];have HF:=hZ HF1;clear HF1 q1 q2;refine kk hK (HS.out _ HF.out.at_.below) (fun hHeld=> ?_);clear hK K;exact N2 V16 b6 b8 ⟨(hZ (HF.out.re (by simp) (by have h:=HF.out.nd;simp at h⊢ <;>omega))),hHeld⟩
       ·
        rintro XN4 b6 b7 b8 ⟨HF,hHeld⟩;refine rd [8] ?_;refine rcE fun K hK=> ?_;go_simp
        (with_reducible refine(HGK.out _ (HPW.out.below HF.out.at_.below)).mono ?_)
        rintro e1 V8 ⟨rfl,hb8⟩;have HF:=hZ (HF.out.step hb8);clear hb8;refine kk hK (HS.out _ HF.out.at_.below) (fun hHeld=> ?_);clear hK K;refine tk 9 ?_;refine tk 10 ?_;refine tk 11 ?_;refine tk 12 ?_;refine tk 13 ?_;have HX:=(And.intro HF hHeld);exact N0 V8 b6 b7 b8 HX
       ·
        rintro XN3 b7 b8 ⟨HF,hHeld⟩;refine rd [14] ?_;refine rcE fun K hK=> ?_;go_simp;obtain⟨b6,V14,q1,q2,HF1⟩:=HF.out.alloc (.cells #[.string ⟨#[]⟩,.string ⟨#[]⟩] 29);rw[q1,q2];have HF:=hZ HF1;clear HF1 q1 q2;refine kk hK (HS.out _ HF.out.at_.below) (fun hHeld=> ?_);clear hK K;exact N0 V14 b6 b7 b8 ⟨(hZ (HF.out.re (by simp) (by have h:=HF.out.nd;simp at h⊢ <;>omega))),hHeld⟩
       ·
        rintro XN2 b6 b8 ⟨HF,hHeld⟩;refine rd [15] ?_;refine rcE fun K hK=> ?_;go_simp;obtain⟨b7,V15,q1,q2,HF1⟩:=HF.out.alloc (.cells #[.string ⟨#[]⟩,.string ⟨#[]⟩] 29);rw[q1,q2];have HF:=hZ HF1;clear HF1 q1 q2;refine kk hK (HS.out _ HF.out.at_.below) (fun hHeld=> ?_);clear hK K;exact N0 V15 b6 b7 b8 ⟨(hZ (HF.out.re (by simp) (by have h:=HF.out.nd;simp at h⊢ <;>omega))),hHeld⟩
       ·
        rintro XN1 b6 b7 ⟨HF,hHeld⟩;refine rd [16] ?_;refine rcE fun K hK=> ?_;go_simp;obtain⟨b8,V16,q1,q2,HF1⟩:=HF.out.alloc (.cells #[.string ⟨#[]⟩,.string ⟨#[]⟩] 29);rw[q1,q2];have HF:=hZ HF1;clear HF1 q1 q2;refine kk hK (HS.out _ HF.out.at_.below) (fun hHeld=> ?_);clear hK K;exact N0 V16 b6 b7 b8 ⟨(hZ (HF.out.re (by simp) (by have h:=HF.out.nd;simp at h⊢ <;>omega))),hHeld⟩
       ·
        rintro XN0 b6 b7 b8 ⟨HF,hHeld⟩;refine rd [17] ?_;refine rcE fun K hK=> ?_;have HF:Hid (Nw wr XN0 [(b6,.cells #[.string ⟨#[]⟩,.string ⟨#[]⟩] 29 (0,0)),(b7,.cells #[.string ⟨#[]⟩,.string ⟨#[]⟩] 29 (0,0)),(b8,.cells #[.string ⟨#[]⟩,.string ⟨#[]⟩] 29 (0,0))]):=hZ (HF.out.re (by simp) (by have h:=HF.out.nd;simp at h⊢ <;>omega));refine step_store_row (by rfl) 29 (.tmp 6) (.tmp 38) (by rfl) (by rfl) b6 #[.string xn,.string xd] #[.string ⟨#[]⟩,.string ⟨#[]⟩] (by rfl) (by rfl) (by kernel_rfl) (HF.out.at_.has (b6,.cells #[.string ⟨#[]⟩,.string ⟨#[]⟩] 29 (0,0)) (by simp)) (by rfl) (by simp[Value.oneCell']) ?_;intro V17 hc' ht';have HF:=hZ (HF.out.put hc' ht');clear hc' ht';refine kk hK (HS.out _ HF.out.at_.below) (fun hHeld=> ?_);clear hK K;refine rd [18] ?_;refine rcE fun K hK=> ?_;have HF:Hid (Nw wr V17 [(b7,.cells #[.string ⟨#[]⟩,.string ⟨#[]⟩] 29 (0,0)),(b6,.cells #[.string xn,.string xd] 29 (0,0)),(b8,.cells #[.string ⟨#[]⟩,.string ⟨#[]⟩] 29 (0,0))]):=hZ (HF.out.re (by simp) (by have h:=HF.out.nd;simp at h⊢ <;>omega));refine step_store_row (by rfl) 29 (.tmp 7) (.tmp 39) (by rfl) (by rfl) b7 #[.string yn,.string yd] #[.string ⟨#[]⟩,.string ⟨#[]⟩] (by rfl) (by rfl) (by kernel_rfl) (HF.out.at_.has (b7,.cells #[.string ⟨#[]⟩,.string ⟨#[]⟩] 29 (0,0)) (by simp)) (by rfl) (by simp[Value.oneCell']) ?_;intro V18 hc' ht';have HF:=hZ (HF.out.put hc' ht');clear hc' ht';refine kk hK (HS.out _ HF.out.at_.below) (fun hHeld=> ?_);clear hK K;refine rd [19] ?_;refine rcE fun K hK=> ?_;have HF:Hid (Nw wr V18 [(b8,.cells #[.string ⟨#[]⟩,.string ⟨#[]⟩] 29 (0,0)),(b6,.cells #[.string xn,.string xd] 29 (0,0)),(b7,.cells #[.string yn,.string yd] 29 (0,0))]):=hZ (HF.out.re (by simp) (by have h:=HF.out.nd;simp at h⊢ <;>omega));refine step_store_row (by rfl) 29 (.tmp 8) (.tmp 40) (by rfl) (by rfl) b8 #[.string zn,.string zd] #[.string ⟨#[]⟩,.string ⟨#[]⟩] (by rfl) (by rfl) (by kernel_rfl) (HF.out.at_.has (b8,.cells #[.string ⟨#[]⟩,.string ⟨#[]⟩] 29 (0,0)) (by simp)) (by rfl) (by simp[Value.oneCell']) ?_
        intro V19 hc' ht';have HF:=hZ (HF.out.put hc' ht');clear hc' ht';refine kk hK (HS.out _ HF.out.at_.below) (fun hHeld=> ?_);clear hK K;refine tk 20 ?_;refine dn ?_;have y60:=HF.out.at_.cell (b:=b6) (cs:=#[.string xn,.string xd]) (t:=29) (i:=0) (by simp) rfl;have y61:=HF.out.at_.cell (b:=b6) (cs:=#[.string xn,.string xd]) (t:=29) (i:=1) (by simp) rfl;have y70:=HF.out.at_.cell (b:=b7) (cs:=#[.string yn,.string yd]) (t:=29) (i:=0) (by simp) rfl;have y71:=HF.out.at_.cell (b:=b7) (cs:=#[.string yn,.string yd]) (t:=29) (i:=1) (by simp) rfl;clear hHeld;have HB19:=hZ HF.out.at_.below
        gi_wp2_with fail
        refine⟨trivial,CallsIn.mono (F:=Fence.wide) (n:=1) (callsIn_wide.2 (HFA.out b8 V19 (HF.out.at_.has (b8,.cells #[.string zn,.string zd] 29 (0,0)) (by simp)) (HPW.out.below HB19.out))) ?_⟩;rintro e2 V20 ⟨rfl,hb20⟩;have HFF:=hZ (HF.out.step hb20);have HB20:=hZ HFF.out.at_.below;have yy70:=HFF.out.at_.cell (b:=b7) (cs:=#[.string yn,.string yd]) (t:=29) (i:=0) (by simp) rfl;have yy71:=HFF.out.at_.cell (b:=b7) (cs:=#[.string yn,.string yd]) (t:=29) (i:=1) (by simp) rfl;(have wk2:IntKind.i64.wrap ((k:Int)+1)=((k+1:Nat):Int):=by rw[IntKind.wrap_i64];omega);clear hb20 y60 y61 y70 y71;cases p1
        · gi_wp2_with (first
           |((with_reducible refine wpListIn_skipw ?hw ?_);(case hw=>rfl))
           |fail)
          refine⟨trivial,CallsIn.mono (F:=Fence.wide) (n:=1) (callsIn_wide.2 (HFB.out b8 V20 (HFF.out.at_.has (b8,.cells #[.string zn,.string zd] 29 (0,0)) (by simp)) (HPW.out.below HB20.out))) ?_⟩;rintro e3 V21 ⟨rfl,hb21⟩;have HB21:=hZ (HFF.out.step hb21).at_.below;clear hb21 yy70 yy71;cases p2
          · gi_wp2_with (first
             |((with_reducible refine wpListIn_skipw ?hw ?_);(case hw=>rfl))
             |fail)
            refine⟨⟨k+1,pre,hZ (HSC.out.skip fun h=> ?_),by omega,by omega,by simp,hZ (HK.out.below HBL.out HB21.out),hZ ((HB21.out.block b4 (Array.getElem?_eq_some_iff.1 HP4.out).1).trans HP4.out),hZ (HJ.out _ _ _ HJP.out (Turns.of_below HB21.out))⟩,?_⟩
            · have h1:=HPP.out.1
              have h2:=HPP.out.2;have h3:=HCF.out.1 h;simp at h1 h2;omega
            · simp[intOf]<;>omega
          ·
           obtain⟨fn,tmps,assign,body,hy,hRd⟩:=HYL.out pre (i,k) V21 (HJ.out _ _ _ HJP.out (Turns.of_below HB21.out)) (by have:=HSC.out.2;omega)
           dsimp only[encP] at hy
           gi_wp2_with (first
            |((with_reducible refine wpListIn_skipw ?hw ?_);(case hw=>rfl))
            |fail)
           refine hRd.mono ?_;have HCC:Hid (Cf l i k):=hZ (HCF.out.2 (.inr (by have h:=HPP.out.2;simpa using h)));clear hRd hy;rintro e3 W3 (⟨rfl,hJ3,hk3⟩|⟨rfl,hJx3⟩)
           · have HJ3:=hZ hJ3
             have HK3:=hZ ((HK.out.below HBL.out HB21.out).trans hk3);have HP3:=hZ (hk3.pts b4 _ (by have:=HLT.out.1;have:=HB4.out;omega) ((HB21.out.block b4 (Array.getElem?_eq_some_iff.1 HP4.out).1).trans HP4.out));clear hJ3 hk3
             gi_wp2_with fail
             refine⟨⟨k+1,pre++[(i,k)],hZ (HSC.out.find HCC.out),by omega,by omega,by simp,HK3,HP3,HJ3⟩,?_⟩;simp[intOf]<;>omega
           · have HJ3:=hZ hJx3
             clear hJx3
             gi_wp2_with fail
             refine bodyPost_ret (results_none rfl _ _ _) rfl ?_;exact⟨⟨_,rfl⟩,.inr ⟨_,⟨i,k,HCC.out⟩,HJ3.out⟩⟩
        ·
         obtain⟨fn,tmps,assign,body,hy,hRd⟩:=HYL.out pre (i,k) V20 (HJ.out _ _ _ HJP.out (Turns.of_below HB20.out)) (by have:=HSC.out.2;omega)
         dsimp only[encP] at hy
         gi_wp2_with (first
          |((with_reducible refine wpListIn_skipw ?hw ?_);(case hw=>rfl))
          |fail)
         refine hRd.mono ?_;have HCC:Hid (Cf l i k):=hZ (HCF.out.2 (.inl (by have h:=HPP.out.1;simpa using h)));clear hRd hy;rintro e3 W3 (⟨rfl,hJ3,hk3⟩|⟨rfl,hJx3⟩)
         · have HJ3:=hZ hJ3
           have HK3:=hZ ((HK.out.below HBL.out HB20.out).trans hk3);have HP3:=hZ (hk3.pts b4 _ (by have:=HLT.out.1;have:=HB4.out;omega) ((HB20.out.block b4 (Array.getElem?_eq_some_iff.1 HP4.out).1).trans HP4.out));clear hJ3 hk3
           gi_wp2_with fail
           refine⟨⟨k+1,pre++[(i,k)],hZ (HSC.out.find HCC.out),by omega,by omega,by simp,HK3,HP3,HJ3⟩,?_⟩;simp[intOf]<;>omega
         · have HJ3:=hZ hJx3
           clear hJx3
           gi_wp2_with fail
           refine bodyPost_ret (results_none rfl _ _ _) rfl ?_;exact⟨⟨_,rfl⟩,.inr ⟨_,⟨i,k,HCC.out⟩,HJ3.out⟩⟩
     · have d2:decide (k<n)=false:=by simp;omega
       obtain rfl:k=n:=by omega
       gi_wp2_with fail
       refine⟨⟨i+1,pre,hZ (HSC.out.row HLEN.out hn20),by omega,by simp,HK,HJP⟩,?_⟩;simp[intOf];omega
  · have d1:decide (i<n)=false:=by simp;omega
    obtain rfl:i=n:=by omega
    gi_wp2_with fail
    go_end0
    exact⟨⟨_,rfl⟩,.inl ⟨_,HSC.out.done HLEN.out,HJP.out⟩⟩
theorem wp_rangeY {P:Program} {α:Type} {g:Operand} {ps:Array Tmp} {assign body:Code} {Q:Exit→Act→World→Prop} {a:Act} {w:World}
 {gf:Nat} {lb:Array Value} (hg:a.eval g=.func (.func gf) #[] lb) (eg:∀args w,(callFunc gf args).run P w=.ok (.enter gf args) w)
 {encs:α→Array Value} {Kp:Nat→World→World→Prop} {S Sp:List α→Prop} {N:Nat} {w0:World} (hseq:IterY P gf lb encs Kp S Sp N w0) (hb0:Below w0.heap.size w0 w)
 (hps:∀x,(encs x).size=ps.size)
 (hKt:∀{A B C:World},Kp (w.heap.size+1) A B→Kp (w.heap.size+1) B C→Kp (w.heap.size+1) A C) (hKb:∀(W:World) (o:Obj),Kp (w.heap.size+1) W (W.putObj (w.heap.size+1) o))
 (I:List α→World→Prop) (Ix:Code→List α→World→Prop)
 (hI:∀s A B,I s A→Turns (books w) A B→I s B) (hIx:∀c s A B,Ix c s A→Turns (books w) A B→Ix c s B) (h0:I [] w) (R:α→Act→World→Prop)
 (hR:∀x a' A B,R x a' A→Turns (books w) A B→R x a' B) (hKB:∀A B:World,w.heap.size+2≤A.heap.size→Below A.heap.size A B→Kp (w.heap.size+1) A B)
 (hassign:∀(l:Nat) (x:α) (W:World) (K:Act→World→Prop),w.heap.size+2≤W.heap.size→(∀a' W',R x a' W'→Below W.heap.size W W'→K a' W')→
   assign.wpIn (Fence.wide.inRound l) 1 P (Exit.then K (fun _ _ _=>False)) {tmps:=(ps.zip (encs x)).foldl (fun t (p,v)=>t.setIfInBounds p v) a.tmps,defers:=[]} W)
 (hbody:∀(l:Nat) (pre:List α) (x:α) (a':Act) (W:World),w.heap.size+2≤W.heap.size→I pre W→R x a' W→pre.length<N→body.wpIn (Fence.wide.inRound l) 1 P (postZ w.heap.size (Kp (w.heap.size+1)) I Ix (pre++[x]) W) a' W)
 (hdone:∀(xs:List α) (W:World),S xs→I xs W→W.heap[w.heap.size]?=some (.deferred (some []))→Q .normal {a with defers:={target:=.collected w.heap.size,args:=#[]}::a.defers} W)
 (hstop:∀(c:Code) (pre:List α) (W:World),Sp pre→Ix c pre W→W.heap[w.heap.size]?=some (.deferred (some []))→c.wpIn Fence.wide 3 P Q {a with defers:={target:=.collected w.heap.size,args:=#[]}::a.defers} W):
 (Code.rangeFunc g ps assign body).wpIn Fence.wide 3 P Q a w:=by
 refine wpIn_rangeFunc fun fn hfn=> ?_;obtain⟨rc,hrc⟩:∃rc:LoopState→Option Code→Loop,rc=fun st pe=>{state:=st,pending:=pe,fn,tmps:=a.tmps,params:=ps,assign,body,defers:=w.heap.size}:=⟨_,rfl⟩;obtain⟨W1,hW1⟩:=oQ ((w.alloc (.deferred (some []))).alloc (.loop (rc .ready none)));have hsz:W1.heap.size=w.heap.size+2:=by rw[←hW1];simp
 have hL1:W1.heap[w.heap.size+1]?=some (.loop (rc .ready none)):=by
  have:=World.alloc_heap_new (w.alloc (.deferred (some []))) (.loop (rc .ready none));rw[World.size_alloc] at this;rw[←hW1];exact this
 have hD1:W1.heap[w.heap.size]?=some (.deferred (some [])):=by
  rw[←hW1];exact(Below.heap_alloc _ _ _ (by simp)).trans (World.alloc_heap_new w _)
 have hT1:Turns (books w) w W1:=by rw[←hW1];exact(Turns.alloc _ _).trans (Turns.alloc _ _)
 have hb1:Below w0.heap.size w0 W1:=by
  rw[←hW1];exact(hb0.alloc hb0.size _).alloc (by have:=hb0.size;simp;omega) _
 refine⟨w.heap.size+1,[{target:=.collected w.heap.size,args:=#[]}],W1,{target:=.fn (.func gf) lb,args:=#[.func (.yield (w.heap.size+1)) #[] #[]]},W1,gf,
  #[.func (.yield (w.heap.size+1)) #[] #[]]++lb,W1,?_,?_,fun _ _=>trivial,?_,fun h=>by simp[Fence.wide] at h,?_⟩
 · rw[←hW1,hrc];exact run_enterLoop_outer _ _ _ _ _
 · simp only[resolve,hg]
   simp[go_sem]
 · simp[invoke,go_sem,eg]
 · refine(hseq (w.heap.size+1)
    (fun pre W=>I pre W∧w.heap.size+2≤W.heap.size∧W.heap[w.heap.size+1]?=some (.loop (rc .ready none))∧W.heap[w.heap.size]?=some (.deferred (some [])))
    (fun pre W=> ∃c,Ix c pre W∧w.heap.size+2≤W.heap.size∧W.heap[w.heap.size+1]?=some (.loop (rc .done (some c)))∧W.heap[w.heap.size]?=some (.deferred (some [])))
    W1 (by omega) hb1
    (fun s A B h t=>⟨hI s A B h.1 (t.mono fun _ e=>e.elim),Nat.le_trans h.2.1 t.size,(t.block _ (by omega) id).trans h.2.2.1,(t.block _ (by omega) id).trans h.2.2.2⟩)
    (fun s A B h t=>by
      obtain⟨c,hc,hs,hl,hd⟩:=h
      exact⟨c,hIx c s A B hc (t.mono fun _ e=>e.elim),Nat.le_trans hs t.size,(t.block _ (by omega) id).trans hl,(t.block _ (by omega) id).trans hd⟩)
    ?_ ⟨hI _ _ _ h0 hT1,by omega,hL1,hD1⟩).mono ?_
   · rintro pre x W ⟨hi,hs,hl,hd⟩ hlen
     have hy:=run_yield (P:=P) (args:=encs x) hl (by rw[hrc];exact hps x);rw[hrc] at hy;refine⟨fn,_,assign,body,hy,roundIn_of_wpIn hfn (hassign _ x W _ hs (fun a' W' hRa hbW=> ?_))⟩;have hl':W'.heap[w.heap.size+1]?=some (.loop (rc .ready none)):=(hbW.block _ (by omega)).trans hl;have hd':W'.heap[w.heap.size]?=some (.deferred (some [])):=(hbW.block _ (by omega)).trans hd;have hsW:=hbW.size;refine⟨_,run_beginRound hl' (by rw[hrc]),?_⟩;obtain⟨W2,hW2⟩:∃W2,W'.putObj (w.heap.size+1) (.loop {rc .ready none with state:=.busy})=W2:=⟨_,rfl⟩;(have hs2:w.heap.size+2≤W2.heap.size:=by rw[←hW2];simp;omega);(have hl2:W2.heap[w.heap.size+1]?=some (.loop {rc .ready none with state:=.busy}):=by rw[←hW2];exact World.putObj_heap_same (by omega));(have hd2:W2.heap[w.heap.size]?=some (.deferred (some [])):=by rw[←hW2];exact(World.putObj_heap_other (by omega)).trans hd');(have hi2:I pre W2:=by rw[←hW2];exact hI _ _ _ (hI _ _ _ hi (Turns.of_below hbW)) (Turns.putObj _ _ _ (.inr rfl)));(have hR2:R x a' W2:=by rw[←hW2];exact hR _ _ _ _ hRa (Turns.putObj _ _ _ (.inr rfl)));(have hk2:Kp (w.heap.size+1) W W2:=by rw[←hW2];exact hKt (hKB _ _ hs hbW) (hKb _ _));rw[hW2];refine wpIn_mono (hbody _ pre x a' W2 hs2 hi2 hR2 hlen) ?_
     have fin:∀(jump:Option Code) (W3:World),KeepsFrom w.heap.size W2 W3→∃W4,W4=W3.putObj (w.heap.size+1) (.loop (rc (if jump.isNone then .ready else .done) jump))∧
      (Instr.endRound (w.heap.size+1) jump).run P W3=.ok (.bool jump.isNone) W4∧Turns (books w) W3 W4∧w.heap.size+2≤W4.heap.size∧
      W4.heap[w.heap.size+1]?=some (.loop (rc (if jump.isNone then .ready else .done) jump))∧W4.heap[w.heap.size]?=some (.deferred (some [])):=by
      intro jump W3 hk;have hl3:=hk.same _ _ (by omega) hl2 rfl;have hd3:=hk.same _ _ (by omega) hd2 rfl;have hs3:=Nat.le_trans hs2 hk.size;have he:=run_endRound (P:=P) jump hl3;rw[hrc] at he⊢;exact⟨_,rfl,he,Turns.putObj _ _ _ (.inr rfl),by simpa using hs3,World.putObj_heap_same (by omega),(World.putObj_heap_other (by omega)).trans hd3⟩
     rintro e a3 W3 hp
     cases e with
     | normal=>
       obtain⟨W4,e4,hr,ht,hs4,hl4,hd4⟩:=fin none W3 hp.1
       exact⟨_,W4,hr,.inl ⟨rfl,⟨hI _ _ _ hp.2.2 ht,hs4,hl4,hd4⟩,hKt hk2 (hKt hp.2.1 (by rw[e4];exact hKb _ _))⟩⟩
     | ret=>
       obtain⟨W4,_,hr,ht,hs4,hl4,hd4⟩:=fin (some .ret) W3 hp.1
       exact⟨_,W4,hr,.inr ⟨rfl,.ret,hIx _ _ _ _ hp.2 ht,hs4,hl4,hd4⟩⟩
     | exit id=>
       obtain⟨W4,_,hr,ht,hs4,hl4,hd4⟩:=fin (some (.exit id)) W3 hp.1
       exact⟨_,W4,hr,.inr ⟨rfl,.exit id,hIx _ _ _ _ hp.2 ht,hs4,hl4,hd4⟩⟩
     | goto t=>
       obtain⟨W4,_,hr,ht,hs4,hl4,hd4⟩:=fin (some (.goto t)) W3 hp.1
       exact⟨_,W4,hr,.inr ⟨rfl,.goto t,hIx _ _ _ _ hp.2 ht,hs4,hl4,hd4⟩⟩
     |panic ch=>exact hp.elim
     |outgrown=>exact hp.elim
   · rintro e W2 ⟨⟨v,rfl⟩,(⟨xs,hS,hi,hs,hl,hd⟩|⟨pre,hSp,c,hi,hs,hl,hd⟩)⟩
     · have he:=run_endLoop (P:=P) hl (by rw[hrc];simp)
       rw[hrc] at he;exact⟨none,_,he,hdone _ _ hS (hI _ _ _ hi (Turns.putObj _ _ _ (.inr rfl))) ((World.putObj_heap_other (by omega)).trans hd)⟩
     · have he:=run_endLoop (P:=P) hl (by rw[hrc];simp)
       rw[hrc] at he;exact⟨some c,_,he,hstop c pre _ hSp (hIx _ _ _ _ hi (Turns.putObj _ _ _ (.inr rfl))) ((World.putObj_heap_other (by omega)).trans hd)⟩
theorem wp_rangeY0 {P:Program} {α:Type} {g:Operand} {ps:Array Tmp} {body:Code} {Q:Exit→Act→World→Prop} {a:Act} {w:World}
 {gf:Nat} {lb:Array Value} (hg:a.eval g=.func (.func gf) #[] lb) (eg:∀args w,(callFunc gf args).run P w=.ok (.enter gf args) w)
 {encs:α→Array Value} {Kp:Nat→World→World→Prop} {S Sp:List α→Prop} {N:Nat} {w0:World} (hseq:IterY P gf lb encs Kp S Sp N w0) (hb0:Below w0.heap.size w0 w)
 (hps:∀x,(encs x).size=ps.size)
 (hKt:∀{A B C:World},Kp (w.heap.size+1) A B→Kp (w.heap.size+1) B C→Kp (w.heap.size+1) A C) (hKb:∀(W:World) (o:Obj),Kp (w.heap.size+1) W (W.putObj (w.heap.size+1) o))
 (I:List α→World→Prop) (Ix:Code→List α→World→Prop)
 (hI:∀s A B,I s A→Turns (books w) A B→I s B) (hIx:∀c s A B,Ix c s A→Turns (books w) A B→Ix c s B) (h0:I [] w)
 (hKB:∀A B:World,w.heap.size+2≤A.heap.size→Below A.heap.size A B→Kp (w.heap.size+1) A B)
 (hbody:∀(l:Nat) (pre:List α) (x:α) (W:World),w.heap.size+2≤W.heap.size→I pre W→pre.length<N→body.wpIn (Fence.wide.inRound l) 1 P (postZ w.heap.size (Kp (w.heap.size+1)) I Ix (pre++[x]) W) {tmps:=(ps.zip (encs x)).foldl (fun t (p,v)=>t.setIfInBounds p v) a.tmps,defers:=[]} W)
 (hdone:∀(xs:List α) (W:World),S xs→I xs W→W.heap[w.heap.size]?=some (.deferred (some []))→Q .normal {a with defers:={target:=.collected w.heap.size,args:=#[]}::a.defers} W)
 (hstop:∀(c:Code) (pre:List α) (W:World),Sp pre→Ix c pre W→W.heap[w.heap.size]?=some (.deferred (some []))→c.wpIn Fence.wide 3 P Q {a with defers:={target:=.collected w.heap.size,args:=#[]}::a.defers} W):
 (Code.rangeFunc g ps Code.skip body).wpIn Fence.wide 3 P Q a w:=by
 refine wp_rangeY hg eg hseq hb0 hps hKt hKb I Ix hI hIx h0 (fun x a' _=>a'={tmps:=(ps.zip (encs x)).foldl (fun t (p,v)=>t.setIfInBounds p v) a.tmps,defers:=[]}) (fun x a' A B h _=>h) hKB ?_ ?_ hdone hstop
 · intro l x W K hle hK
   exact wpIn_skip (hK _ _ rfl (Below.refl _ _))
 · rintro l pre x a' W hle hi rfl hlen
   exact hbody l pre x W hle hi hlen
theorem Nw.start (w:World):Nw w w []:=⟨At.start w,List.nodup_nil,fun _ h=>by cases h⟩
theorem pairs_at {w V:World} {L:List (Nat×Obj)} (rn rd':ByteArray) (A:Option Addr) (n c:Nat) (h:Nw w V L):Calls Tryz.prog 92 #[.agg #[.string rn,.string rd',.slice A n c]] V fun e W=> ∃bp,e=.returned (.func (.func 142) #[] #[.pointer (some ⟨bp,0,none⟩)])∧Nw w W ((bp,.cells #[.string rn,.string rd',.slice A n c] 58 (0,0))::L):=by
 obtain⟨b,V',q1,q2,h'⟩:=h.alloc (.cells #[.string rn,.string rd',.slice A n c] 58);have HH:=hZ (And.intro q1 (And.intro q2 h'));clear q1 q2 h' h
 go_enter Tryz.func92,Tryz.ntmps92
 go_wp2_with fail;go_ret;obtain⟨q1,q2,h'⟩:=HH.out;rw[q1,q2];exact⟨b,rfl,h'⟩
theorem not_booksL {w:World} {k:Nat} (h:k<w.heap.size):¬books w k:=by unfold books;omega
theorem not_books' {w:World} {k:Nat} (h:w.heap.size+2≤k):¬books w k:=by unfold books;omega
theorem far_booksY {w V:World} (h:w.heap.size≤V.heap.size):∀k,books V k→w.heap.size≤k:=fun k hk=>by unfold books at hk;omega
def prC (x:Nat×Nat):List Value:=[.int .i64 (x.1:Int),.int .i64 (x.2:Int)]
theorem elemPr:Elem Tryz.prog 83 77 2 16:=Elem.mk' (z:=.agg #[.int .i64 0,.int .i64 0]) Tryz.underlying83 (by kernel_rfl) rfl (by decide)
theorem contra_walk (l:List D3) (A:Option Addr) (n c:Nat) (w:World) (h:HiAt w A n l) (hp:Pow10 w):Calls Tryz.prog 46 #[hV A n c] w fun e w'=> ∃A' m c',e=.returned (.slice A' m c')∧(m=0↔ ∀i k,¬Cf l i k)∧Below w.heap.size w w':=by
 have HVA:=hZ (fun W h q=>dvalid_walk l A n c W h q);have HH:=hZ h;have HP:=hZ hp;have HIT:=hZ (fun b1 W=>pairs_iter l A n c b1 w W h hp);unfold hV at HVA⊢;obtain⟨gn,e1⟩:=oQ (nB 3);obtain⟨gd,e2⟩:=oQ (dB 3);rw[e1,e2] at HVA HIT⊢;clear e1 e2 h hp;refine(callsIn_wide (n:=3)).1 ?_;refine callsIn_of_wp_marks Tryz.func46 rfl trivial ?_ rfl;simp only[Tryz.ntmps46,List.size_toArray,List.length_cons,List.length_nil,Nat.reduceAdd,Nat.reduceSub,Array.replicate_succ,Array.replicate_zero,List.push_toArray,List.append_toArray,List.nil_append,List.cons_append];refine wpIn_wide.2 ?_;obtain⟨b1,w1,q1,q2,hf1⟩:=(Nw.start w).alloc (.cells #[.string gn,.string gd,.slice A n c] 58);obtain⟨b2,w2,r1,r2,hf2⟩:=hf1.alloc (.cells #[.slice none 0 0] 83);have HQ:=hZ (And.intro q1 (And.intro (show w.heap.size+1=b2 by rw[←r1,←q2];simp) (show(w.alloc (.cells #[.string gn,.string gd,.slice A n c] 58)).alloc (.cells #[.slice none 0 0] 83)=w2 by rw[q2,r2])));have HF:=hZ hf2
 have HX:Hid (∀U L,Nw w U L→(b1,Obj.cells #[.string gn,.string gd,.slice A n c] 58 (0,0))∈L→U.cell? ⟨b1,0,none⟩=some (.string gn)∧U.cell? ⟨b1,1,none⟩=some (.string gd)∧U.cell? ⟨b1,2,none⟩=some (.slice A n c)):=hZ fun U L h hm=>by
  have k1:=h.at_.has _ hm;exact⟨cells_i k1 rfl,cells_i k1 rfl,cells_i k1 rfl⟩
 clear q1 q2 hf1 r1 r2 hf2
 go_wp2_with (first
  | (go_at_call 44;obtain⟨q0,q1,q2⟩:=HQ.out;(rw[q2,q1,q0]);((with_reducible refine(HVA.out _ (HH.out.below HF.out.at_.below) (HP.out.below HF.out.at_.below)).mono ?_));rintro e V1 ⟨rfl,hb⟩
     have HF1:=hZ (HF.out.step hb);obtain⟨y0,y1,y2⟩:=HX.out _ _ HF1.out (by simp)
     clear q0 q1 q2 hb)
  | (go_at_call 92;((with_reducible refine(pairs_at gn gd A n c HF1.out).mono ?_));rintro e V2 ⟨bp,rfl,hf3⟩
     have HF2:=hZ hf3
     clear hf3 y0 y1 y2)
  |fail)
 have HBP:=hZ (HIT.out bp V2 HF2.out.at_.below (HF2.out.at_.has (bp,.cells #[.string gn,.string gd,.slice A n c] 58 (0,0)) (by simp)));have HX2:Hid (Boxed V2 b2 83 (.slice none 0 0)):=hZ (HF2.out.at_.boxed (by simp));have HBV:Hid (Below w.heap.size w V2):=hZ HF2.out.at_.below
 have HLT:Hid (b2<V2.heap.size∧bp<V2.heap.size∧bp≠b2∧w.heap.size≤b2):=hZ (by
  have h1:=HF2.out.at_.lt (b:=bp) (o:=.cells #[.string gn,.string gd,.slice A n c] 58 (0,0)) (by simp);have h2:=HF2.out.hi (b2,.cells #[.slice none 0 0] 83 (0,0)) (by simp);have h3:=HF2.out.nd;simp at h3
  exact⟨HX2.out.lt,h1,by omega,h2⟩)
 clear HIT HVA HX HF HF1 HF2 HQ;refine(wpIn_wide (n:=3)).1 ?_
 refine wp_rangeY (gf:=142) (lb:=#[.pointer (some ⟨bp,0,none⟩)]) rfl (enters_of Tryz.func142 (by kernel_rfl) rfl)
  HBP.out (Below.refl _ _) (fun _=>rfl) (fun h k=>h.trans k) ?hKb
  (fun pre W=> ∃v,Boxed W b2 83 v∧OL W (V2.heap.size+2) 77 2 prC v pre∧Below w.heap.size w W)
  (fun _ _ _=>False)
  ?hI (fun _ _ _ _ h _=>h.elim) ⟨_,HX2.out,OL.nil,HBV.out⟩
  (fun x a' W=> ∃b,a'={tmps:=#[.agg #[.string gn,.string gd,.slice A n c],.pointer (some ⟨b1,0,none⟩),.pointer (some ⟨b2,0,none⟩),.pointer (some ⟨b,0,none⟩),.bool true,.agg #[.string gn,.string gd,.slice A n c],.bool true,.bool false,.agg #[.string gn,.string gd,.slice A n c],.func (.func 142) #[] #[.pointer (some ⟨bp,0,none⟩)],.agg #[.int .i64 (x.1:Int),.int .i64 (x.2:Int)],.bool true,undef,undef,undef,undef,undef,undef],defers:=[]}∧V2.heap.size+2≤b∧W.heap[b]?=some (.cells #[.int .i64 (x.1:Int),.int .i64 (x.2:Int)] 77 (0,0))) ?hR ?hKB ?assign ?body ?done ?stop
 case hKb=>
  intro W o;have:=HLT.out;have:=HBV.out.size;exact⟨by simp,fun k hk=>World.putObj_heap_other (by omega),fun k cs hk ho=>(World.putObj_heap_other (fun e=>hk e)).trans ho⟩
 case hI=>
  rintro s A' B' ⟨v,h1,h2,h3⟩ tt;have:=HLT.out;refine⟨v,tt.boxed h1 (not_booksL (by omega)),h2.keep fun g hg=>tt.block g (h2.lt g hg).2 (not_books' (h2.lt g hg).1),tt.below h3 (Nat.le_refl _) (far_booksY HBV.out.size)⟩
 case hR=>
  rintro x a' A' B' ⟨b,rfl,hle,hx⟩ tt;exact⟨b,rfl,hle,(tt.block b (Array.getElem?_eq_some_iff.1 hx).1 (not_books' hle)).trans hx⟩
 case hKB=>
  intro A' B' hs hb;have:=HLT.out;have:=HBV.out.size;exact⟨hb.size,fun k hk=>hb.block k (by omega),fun k cs _ ho=>(hb.block k (Array.getElem?_eq_some_iff.1 ho).1).trans ho⟩
 case assign=>
  intro l0 x W K hle hK;obtain⟨b,hb⟩:=oQ (W.heap.size)
  dsimp only[encP]
  gi_wp2_with fail
  refine hK _ _ ⟨b,rfl,by omega,by rw[←hb];exact World.alloc_heap_new W _⟩ (below_new W _)
 case body=>
  rintro l0 pre x a' W hle ⟨v,hv,hrow,hB⟩ ⟨b,rfl,hle2,hx⟩ hl;obtain⟨A5,c5,rfl,-,-⟩:=hrow.slice;obtain⟨k,hk⟩:=oQ (pre.length);rw[hk] at hv hrow;have HK:=hZ hk;have HV:=hZ hv;have HR:=hZ hrow;have HBB:=hZ hB;have HXE:=hZ hx;have HKN:Hid (k+1≤1000000):=hZ (by omega);have x8:=cells_i hx (i:=0) rfl;have x5:=cells_i hx (i:=1) rfl;have c0:=hv.cell;clear hk hv hrow hB hx hl;have hbn:=below_new W (.cells #[.int .i64 (x.1:Int),.int .i64 (x.2:Int)] 77);have HBN:=hZ hbn;clear hbn
  gi_wp2_with (first
   | (gi_at_builtin;refine wpListIn_app rfl (.tmp 13) (.tmp 15) rfl elemPr (.slice A5 k c5) pre k HK.out rfl (HR.out.below HBN.out (Nat.le_refl _)) x W.heap.size #[.int .i64 (x.1:Int),.int .i64 (x.2:Int)] rfl (World.alloc_heap_new W _) rfl rfl (fun u hu=>by simp[prC] at hu;rcases hu with rfl|rfl<;>rfl) (by have:=HKN.out;have:=HK.out;unfold maxLen;omega) (by have:=HKN.out;have:=HK.out;omega) (by have:=HBN.out.size;omega) ?_
      intro g' cap' w1 ho1 hg1 hw1 hl1 hb1;have hv1:Boxed w1 b2 83 (.slice A5 k c5):=(hg1.block b2 (by have:=HBN.out.size;have:=HV.out.lt;omega) (fun e=>by have:=(HR.out.lt b2 e.symm).1;have:=HLT.out;omega)).trans ((HBN.out.block _ HV.out.lt).trans HV.out);have HV1:=hZ hv1;have HO1:=hZ ho1;have HG1:=hZ hg1;have HW1:=hZ hw1;have c1:=hv1.cell;have f1:=hv1.frozen
      clear ho1 hg1 hw1 hl1 hb1 hv1)
   |fail)
  have hT:Turns (fun q=>q=b2) w1 (w1.setCell ⟨b2,0,none⟩ (.slice (some ⟨g',0,none⟩) (k+1) cap')):=Turns.setCell _ _ _ rfl;have hown:∀q,(Value.slice A5 k c5).ownBlock=some q→V2.heap.size+2≤q:=fun q hq=>(HR.out.lt q hq).1;have hlt5:=HLT.out;have hsz:=HBN.out.size;have hT1:Turns (fun q=>(Value.slice A5 k c5).ownBlock=some q) (W.alloc (.cells #[.int .i64 (x.1:Int),.int .i64 (x.2:Int)] 77)) w1:=grown_turns HG1.out;have hb1:Below (V2.heap.size+2) W w1:=hT1.below (HBN.out.mono (by omega)) (by omega) (fun q hq=>hown q hq);have hrow:=HR.out.below HBN.out (Nat.le_refl _)
  have hty:∀q o,(Value.slice A5 k c5).ownBlock=some q→(W.alloc (.cells #[.int .i64 (x.1:Int),.int .i64 (x.2:Int)] 77)).heap[q]?=some o→∃cs,o=.cells cs 77 (0,0):=fun q o e h2=>by
   rcases hrow.2 with⟨e1,_⟩|⟨g9,cap9,cur9,e1,_,h9,_⟩
   · rw[e1] at e;cases e
   · rw[e1] at e
     (have:g9=q:=by injection e);subst this;rw[h9] at h2;injection h2 with h2;exact⟨_,h2.symm⟩
  have hbv:=HBV.out.size;refine⟨?_,⟨?_,fun q hq=>(Below.heap_setCell _ _ _ _ (show q≠b2 by rcases hq with hq|hq<;>omega)).trans (hb1.block q (by rcases hq with hq|hq<;>omega)),fun q cs _ ho=> ?_⟩,.slice (some ⟨g',0,none⟩) (k+1) cap',HV1.out.set _,?_,?_⟩
  · refine((KeepsFrom.of_below HBN.out).trans ⟨hT1.size,fun q o h1 h2 h3=> ?_⟩).trans (KeepsFrom.of_turns hT (fun q e=>by omega))
    refine(hT1.block q (Array.getElem?_eq_some_iff.1 h2).1 fun e=> ?_).trans h2;obtain⟨cs,rfl⟩:=hty q o e h2;cases h3
  · exact Nat.le_trans hb1.size hT.size
  · have hq:=(Array.getElem?_eq_some_iff.1 ho).1
    have ha:=(HBN.out.block q hq).trans ho
    have hne:q≠b2:=fun e=>by
     rw[e] at ho;have h9:=HV.out;unfold Boxed at h9;rw[ho] at h9;injection h9 with h9;injection h9 with _ h9 _;exact absurd h9 (by decide)
    refine(Below.heap_setCell _ _ _ _ hne).trans ((hT1.block q (Array.getElem?_eq_some_iff.1 ha).1 fun e=> ?_).trans ha);obtain⟨cs',h9⟩:=hty q _ e ha;injection h9 with _ h9 _;exact absurd h9 (by decide)
  · exact HO1.out.keep fun q hq=>Below.heap_setCell _ _ _ _ (fun e=>by
     (have:g'=q:=by injection hq);rcases HW1.out with h1|h1
     · have:=hown g' h1;simp only at e;omega
     · simp only at e;omega)
  · exact hT.below (HBB.out.trans (hb1.mono (by omega))) (Nat.le_refl _) (fun q hq=>by omega)
 case done=>
  rintro xs W hS ⟨v,hv,hrow,hB⟩ hK;have HS:=hZ hS;have HV:=hZ hv;have HBB:=hZ hB;have HKK:=hZ hK;obtain⟨A5,c5,rfl,-,-⟩:=hrow.slice;have c0:=hv.cell;have f0:=hv.frozen;clear hv hrow hB hK hS;go_wp2_with fail;have hT:Turns (fun q=>q=b2) W (W.setCell ⟨b2,0,none⟩ (.slice A5 xs.length c5)):=Turns.setCell _ _ _ rfl;have hlt:=HLT.out;have hd3:=(hT.block _ (Array.getElem?_eq_some_iff.1 HKK.out).1 (by omega)).trans HKK.out;refine⟨by simp,.inl ⟨_,_,rfl,run_takeDeferred hd3,?_⟩⟩;have hT2:Turns (fun k=>k=V2.heap.size) (W.setCell ⟨b2,0,none⟩ (.slice A5 xs.length c5)) ((W.setCell ⟨b2,0,none⟩ (.slice A5 xs.length c5)).putObj V2.heap.size (.deferred none)):=Turns.putObj _ _ _ rfl;have hv4:=hT2.boxed (HV.out.set (.slice A5 xs.length c5)) (by omega);have hbv:=HBV.out.size;refine⟨_,results_cell1 rfl _ _ rfl Tryz.isAgg83 hv4.cell,A5,xs.length,c5,rfl,?_,?_⟩
  · rw[←HS.out,List.length_eq_zero_iff]
  · exact hT2.below (hT.below HBB.out (Nat.le_refl _) (fun q hq=>by omega)) (Nat.le_refl _) (fun q hq=>by omega)
 case stop=>
  rintro c pre W _ h _;exact h.elim
end Go.Proofs.YteeifhlhpiimoaaGreatDoor
end
