/-
  cmp.Or at two integers; known.Key's conditions; the like for what stands beside it. Conditions: each contract's own.
-/
import Derived.Test.YteeifhlhpiimoaaGreatDoorXAa
import Derived.Test.YteeifhlhpiimoaaGreatDoorXAj
import Derived.Test.YteeifhlhpiimoaaGreatDoorXAc
import Derived.Sort.OwnSortedInts
import Derived.Lib.RowBridge
import Derived.Test.YteeifhlhpiimoaaGreatDoorXAi
set_option maxHeartbeats 8000000
set_option maxRecDepth 100000
open And renaming intro→ay
open Array renaming getElem?_eq_some_iff→fU,replicate_succ→BY,replicate_zero→BZ
open Go renaming Boxed→cG,Calls→ax,Value→ai,World→ae,callsIn_of_wp_marks→af8,grownBy_sortedI→af9,rounds_succ→xO,run_takeDeferred→Ab,undef→cM,wpIn_wide→Og
open Go.Act renaming put→sV
open Go.Addr renaming add→jy
open Go.Lib renaming compact→kY,compactUpTo→xC,keeps→zP
open Go.Proofs.Tryz renaming func127→NV,func70→ad5,func74→ad6,func80→ad7,prog→ah,underlying33→bk
open Go.RowKit.Below renaming drew→eR,heap_setCell→fA,refl→bK
open Go.World renaming alloc_heap_new→bG,putObj_heap_other→kZ
open List renaming append_toArray→Ca,cons_append→s6,length_cons→eF,length_eq_zero_iff→rO,length_map→rP,length_nil→pQ,mem_cons→dG,mem_cons_of_mem→qI,mem_cons_self→Ae,mem_singleton→fQ,nil_append→xS,not_mem_nil→gZ,push_toArray→Cd,replicate→jY,setIfInBounds_toArray→ta,set_cons_succ→tc,set_cons_zero→td,size_toArray→tf
open Nat renaming eq_zero_or_pos→fL,le_refl→aB,le_trans→aV,lt_of_lt_of_le→iX,reduceAdd→xU,reduceSub→Ch
section
namespace Go.Proofs.YteeifhlhpiimoaaGreatDoor
open Go Go.RowKit Go.Shelf
attribute [local go_sem] Oper.semAt_some
def uf (a b:Int):Int:=if a=0 then b else a
theorem SU (g c:Nat) (a b:Int) (w:ae) (h0:w.cell? ⟨g,0,none⟩=some (.int .i64 a)) (h1:w.cell? ⟨g,1,none⟩=some (.int .i64 b)):ax ah 76 #[.slice (some ⟨g,0,none⟩) 2 c] w fun e w'=>e=.returned (.int .i64 (uf a b))∧w=w':=by
 obtain⟨p,hp⟩:=oQ ((a !=0));obtain⟨q,hq⟩:=oQ ((b !=0))
 have ho:uf a b=if p=true then a else if q=true then b else 0:=by
  unfold uf;rw[←hp,←hq]
  by_cases ha:a=0
  · by_cases hb:b=0
    · simp[ha,hb]
    · simp[ha,hb]
  · simp[ha]
 rw[ho];clear ho
 cases p<;>cases q<;>
 · simp only[if_true,if_false,Bool.false_eq_true]
   go_enter Tryz.func76,Tryz.ntmps76
   go_wp2;refine wp_loop_rounds 3 ?_;rw[xO];go_wp2
   all_goals (try (rw[xO];go_wp2))
   all_goals (try (rw[xO];go_wp2))
   all_goals (go_ret;exact⟨rfl,rfl⟩)
theorem anl (e:af) (n:Int) (b:Nat) (w:ae) (hb:cG w b 3 (.int .i64 n)):ax ah 74 #[e.val,.pointer (some ⟨b,0,none⟩)] w (cC w (decide (e.az≤n))):=by
 have HB:=hZ hb;clear hb
 go_enter ad6,Tryz.ntmps74
 go_wp2_with (first
  | ((with_reducible refine ff rfl (.tmp 0) rfl e ?hx ?_);(case hx=>rfl);intro w1 aH aq aP
     have x1:=aH.cell (i:=5) rfl;have px:cG w1 b 3 (.int .i64 n):=(aq.block b HB.out.lt).trans HB.out;have x2:=px.cell;have aF:=hZ aq
     clear aH aq aP px)
  |fail)
 go_ret;exact⟨rfl,aF.out⟩
theorem At.since {w V:ae} {L:List (Nat×Obj)} {n:Int} {b:Nat} (h:At w V L) (hm:(b,.cells #[.int .i64 n] 3 (0,0))∈L):nO V (bV V) ⟨74,#[.pointer (some ⟨b,0,none⟩)],fun e=>decide (e.az≤n)⟩:=
 ⟨enters_of ad6 (by kernel_rfl) rfl,fun e W k=>anl e n b W (k.boxed (h.boxed hm) (h.lt hm))⟩
theorem Kg {P:Program} {ops:Array Oper} {o:Oper} {a:Act} {w V:ae} {L:List (Nat×Obj)} {K:Act→ae→Prop} {Q:Exit→Act→ae→Prop} {D:Prop} (ct:o.guard=none) (x y:Operand) (ho:o.op=.store 33 x y) (hd:o.dst=none) (b:Nat) (e:af)
 (hx:a.eval x=.pointer (some ⟨b,0,none⟩)) (hy:a.eval y=.agg e.cells.toArray) (hi:(P.info? 33).map (·.size)=some e.cells.toArray.size) (h:At w V L) (hb:w.heap.size≤b) (hm:(b,.cells aW.cells.toArray 33 (0,0))∈L)
 (hk:∀V',Below w.heap.size w V'→aR V' b e→(∀b0 o,(b0,o)∈L→b0≠b→V'.heap[b0]?=some o)→K a V'):
 if Region.wanted o (yielded ops a.tmps)=true then Oper.wp P o a V K Q else D:=by
 have hw:Region.wanted o (yielded ops a.tmps)=true:=by simp[Region.wanted,ct]
 rw[if_pos hw];have h0:aR V b aW:=h.has _ hm;refine wp_store_row _ x y ho b _ hx hy 33 _ h0 hi rfl (rC e) ?_;rw[hd];exact hk _ (h.store hb hm).1 (h.store hb hm).2 (fun b0 o Bn ht=>((vN (e:=e) h0).2.block b0 (h.lt Bn) ht).trans (h.has _ Bn))
def kB (l:List af) (id t:Int):Bool:=l.any fun r=>decide (r.item=id)&&decide (r.az≤t)
theorem aoo (B:bP) (e:af) (bB bT bL:Nat) (t bQ:Int) (w:ae) (hB:dH w (bV w) B) (h1:w.heap[bB]?=some (.cells B.cells.toArray 36 (0,0))) (h2:cG w bT 3 (.int .i64 t)) (h3:cG w bL 3 (.int .i64 bQ)):
 ax ah 70 #[e.val,.pointer (some ⟨bB,0,none⟩),.pointer (some ⟨bT,0,none⟩),.pointer (some ⟨bL,0,none⟩)] w (cC w (decide (e.bQ=bQ)&& !(kB (B.ls 5) e.id t))):=by
 have HB:=hZ hB;have IE:=fun e:af=>hZ (di (e:=e));have dB:Hid (At w w [(bL,.cells #[.int .i64 bQ] 3 (0,0)),(bT,.cells #[.int .i64 t] 3 (0,0)),(bB,.cells B.cells.toArray 36 (0,0))]):=hZ ((((At.start w).cons h1).cons h2).cons h3);clear hB h1 h2 h3
 go_enter ad5,Tryz.ntmps70
 go_wp2_with (first
  | ((with_reducible refine ff rfl (.tmp 0) rfl e ?hx ?_);(case hx=>rfl);intro w0 Zh dt bU
     have au:=hZ ((dB.out.step dt).cons Zh);obtain⟨b4,cQ⟩:=oQ (w.heap.size);rw[cQ] at au;rw[cQ]
     clear Zh dt bU cQ)
  |fail)
 have HF:Hid (At w w0.drew _):=hZ au.out.drew;clear dB au;refine cJ (fun U=>U.cell? ⟨bB,5,none⟩=some (.slice (B.ad 5) (B.ls 5).length (B.cp 5))∧U.cell? ⟨b4,1,none⟩=some (.int .i64 e.id)) (⟨cB B HF,cE e HF⟩) fun hHeld=>?_;obtain⟨U0,en⟩:=oQ (w0.drew);rw[en] at HF hHeld⊢;clear en;refine bg 0 1 2 3 ?_;refine tk 5 ?_;refine rd [4,12] ?_;refine rc (fun K hK=>?_) ?_
 ·
  go_simp
  (with_reducible refine(uS (e.id) HF.out).mono ?_)
  rintro e1 V1 ⟨ba,rfl,au⟩;have HF:=hZ au;clear au;refine kk hK (⟨cB B HF,cE e HF⟩) fun hHeld=>?_;clear hK K;refine rd [6,12] ?_;refine rc (fun K hK=>?_) ?_
  ·
   go_simp;obtain⟨bc,V3,q1,q2,-,au⟩:=HF.out.alloc (.cells #[.func (.func 129) #[] #[.pointer (some ⟨ba,0,none⟩)],.func (.func 74) #[] #[.pointer (some ⟨bT,0,none⟩)]] 45);rw[q1,q2];have HF:=hZ au;clear au q1 q2;refine kk hK (⟨cB B HF,cE e HF⟩) fun hHeld=>?_;clear hK K;refine rd [7,12] ?_;refine rc (fun K hK=>?_) ?_
   ·
    go_simp
    (with_reducible refine(jX (B.ad 5) (B.ls 5).length (B.cp 5) (some ⟨bc,0,none⟩) 2 2 HF.out).mono ?_)
    rintro e1 V4 ⟨b1,b2,rfl,au⟩;have HF:=hZ au;clear au;refine kk hK (⟨cB B HF,cE e HF⟩) fun hHeld=>?_;clear hK K;refine rd [8,12] ?_;refine rc (fun K hK=>?_) ?_
    ·
     go_simp
     (with_reducible refine(jJ B 5 2 bc [⟨129,#[.pointer (some ⟨ba,0,none⟩)],fun r=>decide (r.item=e.id)⟩,⟨74,#[.pointer (some ⟨bT,0,none⟩)],fun r=>decide (r.az≤t)⟩] HF HB ?hc (hn:=by simp)).mono ?_)
     case hc=>intro c hc;simp only[dG,gZ,or_false] at hc;rcases hc with rfl|rfl;(exact HF.out.about (by simp));(exact HF.out.since (by simp))
     rintro e1 V5 ⟨ev,qv,ft,dX,rfl,HF⟩;refine kk hK (⟨cB B HF,cE e HF⟩) fun hHeld=>?_;clear hK K;refine dr 9 10 11 ?_;refine rE 12 fun K hK=>?_;go_simp;have np:=HF.out.lt (b:=b4) (o:=.cells e.cells.toArray 33 (0,0)) (by simp);obtain⟨bv,V6,q1,q2,q3,au⟩:=HF.out.alloc (.cells aW.cells.toArray 33);simp only[aW,af.cells] at q2;rw[q1] at np;rw[q1,q2];have HF:=hZ au;have HV:=hZ q3;have dI:=hZ np;clear au q1 q2 q3 np;refine kk hK (⟨cB B HF,cE e HF⟩) fun hHeld=>?_;clear hK K;refine rE 13 fun K hK=>?_;refine Kg (by rfl) (.tmp 6) (.tmp 18) (by rfl) (by rfl) bv ev (by rfl) (by rfl) (IE _).out HF.out HV.out (by simp[aW,af.cells]) ?_;intro V7 dE gS rj;have bS:=hZ (ay dE gS);have cF:=hZ rj;clear dE gS rj;refine kk hK (⟨aJ (cF.out bB (.cells B.cells.toArray 36 (0,0)) (by simp) (fun q=>by have h1:=HF.out.has (bB,.cells B.cells.toArray 36 (0,0)) (by simp);have h2:=HF.out.has (bv,.cells aW.cells.toArray 33 (0,0)) (by simp[aW,af.cells]);rw[q] at h1;rw[h1] at h2;injection h2 with h2;injection h2 with _ h2 _;exact absurd h2 (by decide))) (i:=5) rfl,aJ (cF.out b4 (.cells e.cells.toArray 33 (0,0)) (by simp) (by have:=dI.out;omega)) (i:=1) rfl⟩) fun hHeld=>?_
     clear hK K;refine tk 14 ?_;refine dn ?_;have x7:V7.cell? ⟨b4,7,none⟩=some (.int .i64 e.bQ):=aJ (cF.out b4 (.cells e.cells.toArray 33 (0,0)) (by simp) (by have:=dI.out;omega)) (i:=7) rfl;have xl:V7.cell? ⟨bL,0,none⟩=some (.int .i64 bQ):=aJ (cF.out bL (.cells #[.int .i64 bQ] 3 (0,0)) (by simp) (fun q=>by have h1:=HF.out.has (bL,.cells #[.int .i64 bQ] 3 (0,0)) (by simp);have h2:=HF.out.has (bv,.cells aW.cells.toArray 33 (0,0)) (by simp[aW,af.cells]);rw[q] at h1;rw[h1] at h2;injection h2 with h2;injection h2 with _ h2 _;exact absurd h2 (by decide))) (i:=0) rfl;(have hq:qv=kB (B.ls 5) e.id t:=by rw[←dX.out,jH];unfold kB;congr 1;funext r;simp[dw]);have HQ:=hZ hq;clear hHeld hq;obtain⟨p,hp⟩:=oQ ((e.bQ==bQ));have ij:decide (e.bQ=bQ)=p:=hp;have HP:=hZ ij;clear ij
     cases p<;>
     · go_wp2
       go_ret;rw[←HQ.out,HP.out];exact⟨by first|rfl|simp,bS.out.1⟩
    refine dx fun K hK=>?_;go_simp;have np:=HF.out.lt (b:=b4) (o:=.cells e.cells.toArray 33 (0,0)) (by simp);obtain⟨bv,V6,q1,q2,q3,au⟩:=HF.out.alloc (.cells aW.cells.toArray 33);simp only[aW,af.cells] at q2;rw[q1] at np;rw[q1,q2];have HF:=hZ au;have HV:=hZ q3;have dI:=hZ np;clear au q1 q2 q3 np;refine kk hK (⟨cB B HF,cE e HF⟩) fun hHeld=>?_;clear hK K;refine rE 8 fun K hK=>?_;go_simp
    (with_reducible refine(jJ B 5 2 bc [⟨129,#[.pointer (some ⟨ba,0,none⟩)],fun r=>decide (r.item=e.id)⟩,⟨74,#[.pointer (some ⟨bT,0,none⟩)],fun r=>decide (r.az≤t)⟩] HF HB ?hc (hn:=by simp)).mono ?_)
    case hc=>intro c hc;simp only[dG,gZ,or_false] at hc;rcases hc with rfl|rfl;(exact HF.out.about (by simp));(exact HF.out.since (by simp))
    rintro e1 V5 ⟨ev,qv,ft,dX,rfl,HF⟩;refine kk hK (⟨cB B HF,cE e HF⟩) fun hHeld=>?_;clear hK K;refine dr 9 10 11 ?_;refine rE 13 fun K hK=>?_;refine Kg (by rfl) (.tmp 6) (.tmp 18) (by rfl) (by rfl) bv ev (by rfl) (by rfl) (IE _).out HF.out HV.out (by simp[aW,af.cells]) ?_;intro V7 dE gS rj;have bS:=hZ (ay dE gS);have cF:=hZ rj;clear dE gS rj;refine kk hK (⟨aJ (cF.out bB (.cells B.cells.toArray 36 (0,0)) (by simp) (fun q=>by have h1:=HF.out.has (bB,.cells B.cells.toArray 36 (0,0)) (by simp);have h2:=HF.out.has (bv,.cells aW.cells.toArray 33 (0,0)) (by simp[aW,af.cells]);rw[q] at h1;rw[h1] at h2;injection h2 with h2;injection h2 with _ h2 _;exact absurd h2 (by decide))) (i:=5) rfl,aJ (cF.out b4 (.cells e.cells.toArray 33 (0,0)) (by simp) (by have:=dI.out;omega)) (i:=1) rfl⟩) fun hHeld=>?_;clear hK K;refine tk 14 ?_;refine dn ?_;have x7:V7.cell? ⟨b4,7,none⟩=some (.int .i64 e.bQ):=aJ (cF.out b4 (.cells e.cells.toArray 33 (0,0)) (by simp) (by have:=dI.out;omega)) (i:=7) rfl;have xl:V7.cell? ⟨bL,0,none⟩=some (.int .i64 bQ):=aJ (cF.out bL (.cells #[.int .i64 bQ] 3 (0,0)) (by simp) (fun q=>by have h1:=HF.out.has (bL,.cells #[.int .i64 bQ] 3 (0,0)) (by simp);have h2:=HF.out.has (bv,.cells aW.cells.toArray 33 (0,0)) (by simp[aW,af.cells]);rw[q] at h1;rw[h1] at h2;injection h2 with h2;injection h2 with _ h2 _;exact absurd h2 (by decide))) (i:=0) rfl
    (have hq:qv=kB (B.ls 5) e.id t:=by rw[←dX.out,jH];unfold kB;congr 1;funext r;simp[dw]);have HQ:=hZ hq;clear hHeld hq;obtain⟨p,hp⟩:=oQ ((e.bQ==bQ));have ij:decide (e.bQ=bQ)=p:=hp;have HP:=hZ ij;clear ij
    cases p<;>
    · go_wp2
      go_ret;rw[←HQ.out,HP.out];exact⟨by first|rfl|simp,bS.out.1⟩
   refine dx fun K hK=>?_;go_simp;have np:=HF.out.lt (b:=b4) (o:=.cells e.cells.toArray 33 (0,0)) (by simp);obtain⟨bv,V6,q1,q2,q3,au⟩:=HF.out.alloc (.cells aW.cells.toArray 33);simp only[aW,af.cells] at q2;rw[q1] at np;rw[q1,q2];have HF:=hZ au;have HV:=hZ q3;have dI:=hZ np;clear au q1 q2 q3 np;refine kk hK (⟨cB B HF,cE e HF⟩) fun hHeld=>?_;clear hK K;refine rE 7 fun K hK=>?_;go_simp
   (with_reducible refine(jX (B.ad 5) (B.ls 5).length (B.cp 5) (some ⟨bc,0,none⟩) 2 2 HF.out).mono ?_)
   rintro e1 V4 ⟨b1,b2,rfl,au⟩;have HF:=hZ au;clear au;refine kk hK (⟨cB B HF,cE e HF⟩) fun hHeld=>?_;clear hK K;refine rE 8 fun K hK=>?_;go_simp
   (with_reducible refine(jJ B 5 2 bc [⟨129,#[.pointer (some ⟨ba,0,none⟩)],fun r=>decide (r.item=e.id)⟩,⟨74,#[.pointer (some ⟨bT,0,none⟩)],fun r=>decide (r.az≤t)⟩] HF HB ?hc (hn:=by simp)).mono ?_)
   case hc=>intro c hc;simp only[dG,gZ,or_false] at hc;rcases hc with rfl|rfl;(exact HF.out.about (by simp));(exact HF.out.since (by simp))
   rintro e1 V5 ⟨ev,qv,ft,dX,rfl,HF⟩;refine kk hK (⟨cB B HF,cE e HF⟩) fun hHeld=>?_;clear hK K;refine dr 9 10 11 ?_;refine rE 13 fun K hK=>?_;refine Kg (by rfl) (.tmp 6) (.tmp 18) (by rfl) (by rfl) bv ev (by rfl) (by rfl) (IE _).out HF.out HV.out (by simp[aW,af.cells]) ?_;intro V7 dE gS rj;have bS:=hZ (ay dE gS);have cF:=hZ rj;clear dE gS rj;refine kk hK (⟨aJ (cF.out bB (.cells B.cells.toArray 36 (0,0)) (by simp) (fun q=>by have h1:=HF.out.has (bB,.cells B.cells.toArray 36 (0,0)) (by simp);have h2:=HF.out.has (bv,.cells aW.cells.toArray 33 (0,0)) (by simp[aW,af.cells]);rw[q] at h1;rw[h1] at h2;injection h2 with h2;injection h2 with _ h2 _;exact absurd h2 (by decide))) (i:=5) rfl,aJ (cF.out b4 (.cells e.cells.toArray 33 (0,0)) (by simp) (by have:=dI.out;omega)) (i:=1) rfl⟩) fun hHeld=>?_;clear hK K;refine tk 14 ?_;refine dn ?_;have x7:V7.cell? ⟨b4,7,none⟩=some (.int .i64 e.bQ):=aJ (cF.out b4 (.cells e.cells.toArray 33 (0,0)) (by simp) (by have:=dI.out;omega)) (i:=7) rfl;have xl:V7.cell? ⟨bL,0,none⟩=some (.int .i64 bQ):=aJ (cF.out bL (.cells #[.int .i64 bQ] 3 (0,0)) (by simp) (fun q=>by have h1:=HF.out.has (bL,.cells #[.int .i64 bQ] 3 (0,0)) (by simp);have h2:=HF.out.has (bv,.cells aW.cells.toArray 33 (0,0)) (by simp[aW,af.cells]);rw[q] at h1;rw[h1] at h2;injection h2 with h2;injection h2 with _ h2 _;exact absurd h2 (by decide))) (i:=0) rfl
   (have hq:qv=kB (B.ls 5) e.id t:=by rw[←dX.out,jH];unfold kB;congr 1;funext r;simp[dw]);have HQ:=hZ hq;clear hHeld hq;obtain⟨p,hp⟩:=oQ ((e.bQ==bQ));have ij:decide (e.bQ=bQ)=p:=hp;have HP:=hZ ij;clear ij
   cases p<;>
   · go_wp2
     go_ret;rw[←HQ.out,HP.out];exact⟨by first|rfl|simp,bS.out.1⟩
  refine dx fun K hK=>?_;go_simp;have np:=HF.out.lt (b:=b4) (o:=.cells e.cells.toArray 33 (0,0)) (by simp);obtain⟨bv,V6,q1,q2,q3,au⟩:=HF.out.alloc (.cells aW.cells.toArray 33);simp only[aW,af.cells] at q2;rw[q1] at np;rw[q1,q2];have HF:=hZ au;have HV:=hZ q3;have dI:=hZ np;clear au q1 q2 q3 np;refine kk hK (⟨cB B HF,cE e HF⟩) fun hHeld=>?_;clear hK K;refine rE 6 fun K hK=>?_;go_simp;obtain⟨bc,V3,q1,q2,-,au⟩:=HF.out.alloc (.cells #[.func (.func 129) #[] #[.pointer (some ⟨ba,0,none⟩)],.func (.func 74) #[] #[.pointer (some ⟨bT,0,none⟩)]] 45);rw[q1,q2];have HF:=hZ au;clear au q1 q2;refine kk hK (⟨cB B HF,cE e HF⟩) fun hHeld=>?_;clear hK K;refine rE 7 fun K hK=>?_;go_simp
  (with_reducible refine(jX (B.ad 5) (B.ls 5).length (B.cp 5) (some ⟨bc,0,none⟩) 2 2 HF.out).mono ?_)
  rintro e1 V4 ⟨b1,b2,rfl,au⟩;have HF:=hZ au;clear au;refine kk hK (⟨cB B HF,cE e HF⟩) fun hHeld=>?_;clear hK K;refine rE 8 fun K hK=>?_;go_simp
  (with_reducible refine(jJ B 5 2 bc [⟨129,#[.pointer (some ⟨ba,0,none⟩)],fun r=>decide (r.item=e.id)⟩,⟨74,#[.pointer (some ⟨bT,0,none⟩)],fun r=>decide (r.az≤t)⟩] HF HB ?hc (hn:=by simp)).mono ?_)
  case hc=>intro c hc;simp only[dG,gZ,or_false] at hc;rcases hc with rfl|rfl;(exact HF.out.about (by simp));(exact HF.out.since (by simp))
  rintro e1 V5 ⟨ev,qv,ft,dX,rfl,HF⟩;refine kk hK (⟨cB B HF,cE e HF⟩) fun hHeld=>?_;clear hK K;refine dr 9 10 11 ?_;refine rE 13 fun K hK=>?_;refine Kg (by rfl) (.tmp 6) (.tmp 18) (by rfl) (by rfl) bv ev (by rfl) (by rfl) (IE _).out HF.out HV.out (by simp[aW,af.cells]) ?_;intro V7 dE gS rj;have bS:=hZ (ay dE gS);have cF:=hZ rj;clear dE gS rj;refine kk hK (⟨aJ (cF.out bB (.cells B.cells.toArray 36 (0,0)) (by simp) (fun q=>by have h1:=HF.out.has (bB,.cells B.cells.toArray 36 (0,0)) (by simp);have h2:=HF.out.has (bv,.cells aW.cells.toArray 33 (0,0)) (by simp[aW,af.cells]);rw[q] at h1;rw[h1] at h2;injection h2 with h2;injection h2 with _ h2 _;exact absurd h2 (by decide))) (i:=5) rfl,aJ (cF.out b4 (.cells e.cells.toArray 33 (0,0)) (by simp) (by have:=dI.out;omega)) (i:=1) rfl⟩) fun hHeld=>?_;clear hK K;refine tk 14 ?_;refine dn ?_;have x7:V7.cell? ⟨b4,7,none⟩=some (.int .i64 e.bQ):=aJ (cF.out b4 (.cells e.cells.toArray 33 (0,0)) (by simp) (by have:=dI.out;omega)) (i:=7) rfl;have xl:V7.cell? ⟨bL,0,none⟩=some (.int .i64 bQ):=aJ (cF.out bL (.cells #[.int .i64 bQ] 3 (0,0)) (by simp) (fun q=>by have h1:=HF.out.has (bL,.cells #[.int .i64 bQ] 3 (0,0)) (by simp);have h2:=HF.out.has (bv,.cells aW.cells.toArray 33 (0,0)) (by simp[aW,af.cells]);rw[q] at h1;rw[h1] at h2;injection h2 with h2;injection h2 with _ h2 _;exact absurd h2 (by decide))) (i:=0) rfl
  have hq:qv=kB (B.ls 5) e.id t:=by rw[←dX.out,jH];unfold kB;congr 1;funext r;simp[dw]
  have HQ:=hZ hq;clear hHeld hq;obtain⟨p,hp⟩:=oQ ((e.bQ==bQ));have ij:decide (e.bQ=bQ)=p:=hp;have HP:=hZ ij;clear ij
  cases p<;>
  · go_wp2
    go_ret;rw[←HQ.out,HP.out];exact⟨by first|rfl|simp,bS.out.1⟩
 refine dx fun K hK=>?_;go_simp;have np:=HF.out.lt (b:=b4) (o:=.cells e.cells.toArray 33 (0,0)) (by simp);obtain⟨bv,V6,q1,q2,q3,au⟩:=HF.out.alloc (.cells aW.cells.toArray 33);simp only[aW,af.cells] at q2;rw[q1] at np;rw[q1,q2];have HF:=hZ au;have HV:=hZ q3;have dI:=hZ np;clear au q1 q2 q3 np;refine kk hK (⟨cB B HF,cE e HF⟩) fun hHeld=>?_;clear hK K;refine rE 4 fun K hK=>?_;go_simp
 (with_reducible refine(uS (e.id) HF.out).mono ?_)
 rintro e1 V1 ⟨ba,rfl,au⟩;have HF:=hZ au;clear au;refine kk hK (⟨cB B HF,cE e HF⟩) fun hHeld=>?_;clear hK K;refine rE 6 fun K hK=>?_;go_simp;obtain⟨bc,V3,q1,q2,-,au⟩:=HF.out.alloc (.cells #[.func (.func 129) #[] #[.pointer (some ⟨ba,0,none⟩)],.func (.func 74) #[] #[.pointer (some ⟨bT,0,none⟩)]] 45);rw[q1,q2];have HF:=hZ au;clear au q1 q2;refine kk hK (⟨cB B HF,cE e HF⟩) fun hHeld=>?_;clear hK K;refine rE 7 fun K hK=>?_;go_simp
 (with_reducible refine(jX (B.ad 5) (B.ls 5).length (B.cp 5) (some ⟨bc,0,none⟩) 2 2 HF.out).mono ?_)
 rintro e1 V4 ⟨b1,b2,rfl,au⟩;have HF:=hZ au;clear au;refine kk hK (⟨cB B HF,cE e HF⟩) fun hHeld=>?_;clear hK K;refine rE 8 fun K hK=>?_;go_simp
 (with_reducible refine(jJ B 5 2 bc [⟨129,#[.pointer (some ⟨ba,0,none⟩)],fun r=>decide (r.item=e.id)⟩,⟨74,#[.pointer (some ⟨bT,0,none⟩)],fun r=>decide (r.az≤t)⟩] HF HB ?hc (hn:=by simp)).mono ?_)
 case hc=>intro c hc;simp only[dG,gZ,or_false] at hc;rcases hc with rfl|rfl;(exact HF.out.about (by simp));(exact HF.out.since (by simp))
 rintro e1 V5 ⟨ev,qv,ft,dX,rfl,HF⟩;refine kk hK (⟨cB B HF,cE e HF⟩) fun hHeld=>?_;clear hK K;refine dr 9 10 11 ?_;refine rE 13 fun K hK=>?_;refine Kg (by rfl) (.tmp 6) (.tmp 18) (by rfl) (by rfl) bv ev (by rfl) (by rfl) (IE _).out HF.out HV.out (by simp[aW,af.cells]) ?_;intro V7 dE gS rj;have bS:=hZ (ay dE gS);have cF:=hZ rj;clear dE gS rj;refine kk hK (⟨aJ (cF.out bB (.cells B.cells.toArray 36 (0,0)) (by simp) (fun q=>by have h1:=HF.out.has (bB,.cells B.cells.toArray 36 (0,0)) (by simp);have h2:=HF.out.has (bv,.cells aW.cells.toArray 33 (0,0)) (by simp[aW,af.cells]);rw[q] at h1;rw[h1] at h2;injection h2 with h2;injection h2 with _ h2 _;exact absurd h2 (by decide))) (i:=5) rfl,aJ (cF.out b4 (.cells e.cells.toArray 33 (0,0)) (by simp) (by have:=dI.out;omega)) (i:=1) rfl⟩) fun hHeld=>?_;clear hK K;refine tk 14 ?_;refine dn ?_;have x7:V7.cell? ⟨b4,7,none⟩=some (.int .i64 e.bQ):=aJ (cF.out b4 (.cells e.cells.toArray 33 (0,0)) (by simp) (by have:=dI.out;omega)) (i:=7) rfl;have xl:V7.cell? ⟨bL,0,none⟩=some (.int .i64 bQ):=aJ (cF.out bL (.cells #[.int .i64 bQ] 3 (0,0)) (by simp) (fun q=>by have h1:=HF.out.has (bL,.cells #[.int .i64 bQ] 3 (0,0)) (by simp);have h2:=HF.out.has (bv,.cells aW.cells.toArray 33 (0,0)) (by simp[aW,af.cells]);rw[q] at h1;rw[h1] at h2;injection h2 with h2;injection h2 with _ h2 _;exact absurd h2 (by decide))) (i:=0) rfl
 have hq:qv=kB (B.ls 5) e.id t:=by rw[←dX.out,jH];unfold kB;congr 1;funext r;simp[dw]
 have HQ:=hZ hq;clear hHeld hq;obtain⟨p,hp⟩:=oQ ((e.bQ==bQ));have ij:decide (e.bQ=bQ)=p:=hp;have HP:=hZ ij;clear ij
 cases p<;>
 · go_wp2
   go_ret;rw[←HQ.out,HP.out];exact⟨by first|rfl|simp,bS.out.1⟩
theorem aix (B:bP) (bB bT bL:Nat) (t bQ:Int) (V:ae) (Y:Nat→Prop) (hY:∀k,Y k→k<V.heap.size) (hB:dH V Y B) (y1:Y bB) (y2:Y bT) (y3:Y bL) (h1:V.heap[bB]?=some (.cells B.cells.toArray 36 (0,0))) (h2:cG V bT 3 (.int .i64 t)) (h3:cG V bL 3 (.int .i64 bQ)):
 nO V Y ⟨70,#[.pointer (some ⟨bB,0,none⟩),.pointer (some ⟨bT,0,none⟩),.pointer (some ⟨bL,0,none⟩)],fun e=>decide (e.bQ=bQ)&& !(kB (B.ls 5) e.id t)⟩:=
 ⟨enters_of ad5 (by kernel_rfl) rfl,fun e W k=>aoo B e bB bT bL t bQ W ((hB.keeps k).mono (k.lt hY)) ((k _ y1).trans h1) (k.boxed h2 y2) (k.boxed h3 y3)⟩
theorem amK {P:Program} {fn:Func} {p q:Tmp} (h:fn.results=#[.tmp p,.tmp q]) (tmps:Array ai) (w:ae):(results fn tmps).run P w=.ok (.tuple #[tmps.getD p cM,tmps.getD q cM]) w:=by simp[results,h]
def EX (e b:af):Bool:=decide (0<uf (dZ e.az b.az) (dZ e.id b.id))
def xf (s:af×Bool) (e:af):af×Bool:=if !s.2||EX e s.1 then(e,true) else s
def og (l:List af):af×Bool:=l.foldl xf (aW,false)
theorem SF (l:List af) (e:af):og (l++[e])=xf (og l) e:=by unfold og;rw[List.foldl_append];rfl
def l8 (B:bP) (bQ t:Int):af×Bool:=og ((B.ls 4).filter fun e=>(decide (e.az≤t)&&decide (t≤e.bj))&&(decide (e.bQ=bQ)&& !(kB (B.ls 5) e.id t)))
theorem SG (B:bP) (bQ t:Int) (w:ae) (hB:dH w (bV w) B):
 ax ah 23 #[B.val,.int .i64 bQ,.int .i64 t] w fun e w'=>e=.returned (.tuple #[.string (l8 B bQ t).1.text,.bool (l8 B bQ t).2])∧Below w.heap.size w w':=by
 have HB:=hZ hB;have IE:=fun e:af=>hZ (di (e:=e));clear hB;refine(callsIn_wide (n:=3)).1 ?_;refine af8 Tryz.func23 rfl trivial ?_ rfl;simp only[Tryz.ntmps23,tf,eF,pQ,xU,Ch,BY,BZ,Cd,Ca,xS,s6];refine Og.2 ?_;go_wp2_with fail;have dB:=hZ (At.start w);obtain⟨b3,w0,q1,q2,q3,vd,bU⟩:=dB.out.eX (.cells B.cells.toArray 36);obtain⟨b4,w1,r1,r2,r3,jb,aP⟩:=vd.eX (.cells #[.int .i64 bQ] 3);obtain⟨b5,w2,t1,t2,t3,eZ,eO⟩:=jb.eX (.cells #[.int .i64 t] 3);obtain⟨b9,w3,u1,u2,u3,Zm,jM⟩:=eZ.eX (.cells aW.cells.toArray 33);obtain⟨iP,w4,v1,v2,v3,vg,gy⟩:=Zm.eX (.cells #[.bool false] 4);rw[bU] at r1;rw[aP] at t1;rw[eO] at u1;rw[jM] at v1;have eu:Hid (b3<b4∧b4<b5∧b5<b9∧b9<iP∧w.heap.size≤b3∧w4.heap.size=iP+1):=hZ (by omega);simp only[aW,af.cells] at u2;have jL:w.heap.size=b3:=q1;rw[q1,q2,r1,r2,t1,t2,u1,u2,v1,v2];have HF:Hid (At w w4.drew _):=hZ vg.drew;clear dB q1 q2 q3 vd bU r1 r2 r3 jb aP t1 t2 t3 eZ eO u1 u2 u3 Zm jM v1 v2 v3 vg gy jL;refine cJ (fun U=>U.cell? ⟨b3,4,none⟩=some (.slice (B.ad 4) (B.ls 4).length (B.cp 4))∧U.cell? ⟨b5,0,none⟩=some (.int .i64 t)) (⟨cB B HF,At.cell HF.out (b:=b5) (cs:=#[.int .i64 t]) (t:=3) (i:=0) (by simp) rfl⟩) fun hHeld=>?_;obtain⟨U0,en⟩:=oQ (w4.drew);rw[en] at HF hHeld⊢;clear en;refine bg 0 1 2 4 ?_;refine rE 3 fun K hK=>?_;go_simp
 (with_reducible refine(FD t HF.out).mono ?_)
 rintro e1 V2 ⟨bh,rfl,au⟩;have HF:=hZ au;clear au;refine kk hK (⟨cB B HF,At.cell HF.out (b:=b5) (cs:=#[.int .i64 t]) (t:=3) (i:=0) (by simp) rfl⟩) fun hHeld=>?_;clear hK K;refine rE 5 fun K hK=>?_;go_simp;obtain⟨bc,V3,g1,g2,-,au⟩:=HF.out.alloc (.cells #[.func (.func 130) #[] #[.pointer (some ⟨bh,0,none⟩)],.func (.func 70) #[] #[.pointer (some ⟨b3,0,none⟩),.pointer (some ⟨b5,0,none⟩),.pointer (some ⟨b4,0,none⟩)]] 45);rw[g1,g2];have HF:=hZ au;clear au g1 g2;refine kk hK (⟨cB B HF,At.cell HF.out (b:=b5) (cs:=#[.int .i64 t]) (t:=3) (i:=0) (by simp) rfl⟩) fun hHeld=>?_;clear hK K;refine rE 6 fun K hK=>?_;go_simp
 (with_reducible refine(jX (B.ad 4) (B.ls 4).length (B.cp 4) (some ⟨bc,0,none⟩) 2 2 HF.out).mono ?_)
 rintro e1 V4 ⟨b1,b2,rfl,au⟩;have HF:=hZ au;clear au;refine kk hK (⟨cB B HF,At.cell HF.out (b:=b5) (cs:=#[.int .i64 t]) (t:=3) (i:=0) (by simp) rfl⟩) fun hHeld=>?_;clear hK K;refine dn ?_;clear hHeld;obtain⟨Y,hY⟩:∃Y:Nat→Prop,Y=fun k=>k<V4.heap.size∧k≠b9∧k≠iP:=⟨_,rfl⟩;have tQ:∀k,Y k→k<V4.heap.size:=fun k hk=>by rw[hY] at hk;exact hk.1
 have YK:∀k,Y k→k≠b9∧k≠iP:=fun k hk=>by rw[hY] at hk;exact hk.2
 have iD:∀k cs T,(k,Obj.cells cs T (0,0))∈_→T≠33→T≠4→Y k:=fun k cs T hm h1 h2=>by
  rw[hY];refine⟨HF.out.lt hm,fun e=>?_,fun e=>?_⟩
  · have q1:=HF.out.has _ hm
    have q2:=HF.out.has (b9,.cells aW.cells.toArray 33 (0,0)) (by simp[aW,af.cells]);simp only at q1 q2;rw[e,q2] at q1;injection q1 with q1;injection q1 with _ q1 _;exact h1 q1.symm
  · have q1:=HF.out.has _ hm
    have q2:=HF.out.has (iP,.cells #[.bool false] 4 (0,0)) (by simp);simp only at q1 q2;rw[e,q2] at q1;injection q1 with q1;injection q1 with _ q1 _;exact h2 q1.symm
 have hold:∀k,bV w k→Y k:=fun k hk=>by
  unfold bV at hk;rw[hY];have:=eu.out;have:=HF.out.below.size;omega
 have yH:dH V4 Y B:=(HB.out.keeps (ej.gH HF.out.below fun _ h=>h)).mono hold;have y1:=iD b1 #[.slice (B.ad 4) (B.ls 4).length (B.cp 4)] 25 (by simp) (by decide) (by decide);have y2:=iD b2 #[.slice (some ⟨bc,0,none⟩) 2 2] 110 (by simp) (by decide) (by decide);have yc:=iD bc #[.func (.func 130) #[] #[.pointer (some ⟨bh,0,none⟩)],.func (.func 70) #[] #[.pointer (some ⟨b3,0,none⟩),.pointer (some ⟨b5,0,none⟩),.pointer (some ⟨b4,0,none⟩)]] 45 (by simp) (by decide) (by decide);have yh:=iD bh #[.int .i64 t] 3 (by simp) (by decide) (by decide);have y3:=iD b3 B.cells.toArray 36 (by simp) (by decide) (by decide);have y4:=iD b4 #[.int .i64 bQ] 3 (by simp) (by decide) (by decide);have y5:=iD b5 #[.int .i64 t] 3 (by simp) (by decide) (by decide)
 have AW:=NH [⟨130,#[.pointer (some ⟨bh,0,none⟩)],fun e=>decide (e.az≤t)&&decide (t≤e.bj)⟩,⟨70,#[.pointer (some ⟨b3,0,none⟩),.pointer (some ⟨b5,0,none⟩),.pointer (some ⟨b4,0,none⟩)],fun e=>decide (e.bQ=bQ)&& !(kB (B.ls 5) e.id t)⟩] (B.ls 4) (B.ad 4) (some ⟨bc,0,none⟩) (B.ls 4).length (B.cp 4) 2 2 b1 b2 rfl (aV (HB.out.cap 4 (by decide)).1 (HB.out.cap 4 (by decide)).2) rfl (by decide) Y V4 tQ y1 y2
  (HF.out.boxed (by simp)) (HF.out.boxed (by simp)) (yH.at_ 4 (by decide)) (fun i v hv=>by
    have fh:=HF.out.cell (b:=bc) (cs:=#[.func (.func 130) #[] #[.pointer (some ⟨bh,0,none⟩)],.func (.func 70) #[] #[.pointer (some ⟨b3,0,none⟩),.pointer (some ⟨b5,0,none⟩),.pointer (some ⟨b4,0,none⟩)]]) (t:=45) (by simp) (i:=i) (v:=v) (by simpa[jB.val] using hv);refine⟨_,rfl,yc,?_⟩;rw[show(⟨bc,0,none⟩:Addr).add i=⟨bc,i,none⟩ by simp[jy];omega]
    exact fh) (fun c hc=>by
    simp only[dG,gZ,or_false] at hc;rcases hc with rfl|rfl
    · exact XK t bh V4 Y yh (HF.out.boxed (by simp))
    · exact aix B b3 b5 b4 t bQ V4 Y tQ yH y3 y5 y4 (HF.out.has (b3,_) (by simp)) (HF.out.boxed (by simp)) (HF.out.boxed (by simp)))
 have HI:=hZ AW;have ki:=hZ (ay tQ YK);have nQ:Hid (aR V4 b9 aW):=hZ (HF.out.has (b9,.cells aW.cells.toArray 33 (0,0)) (by simp[aW,af.cells]));have WW:Hid (cG V4 iP 4 (.bool false)):=hZ (HF.out.boxed (by simp));have dI:Hid (Below w.heap.size w V4):=hZ HF.out.below;have aL:Hid (b9<V4.heap.size∧iP<V4.heap.size):=hZ ⟨bt nQ.out,WW.out.lt⟩;clear hY tQ YK iD hold yH y1 y2 yc yh y3 y4 y5 AW;go_wp2_with fail;refine(Og (n:=3)).1 ?_
 refine Kl (gf:=127) (lb:=#[.pointer (some ⟨b1,0,none⟩),.pointer (some ⟨b2,0,none⟩)]) rfl (enters_of NV (by kernel_rfl) rfl)
  HI.out (bK _ _) (fun k hk=>hk.elim) (fun _=>rfl) (fun h k=>h.trans k)
  (fun W o k hk=>kZ (by have:=ki.out.1 k hk;omega))
  (fun pre W=>aR W b9 (og pre).1∧cG W iP 4 (.bool (og pre).2)∧Below w.heap.size w W)
  (fun _ _ _=>False)
  ?hI (fun _ _ _ _ h _=>h.elim) ⟨nQ.out,WW.out,dI.out⟩
  (fun b x=>{tmps:=#[B.val,.int .i64 bQ,.int .i64 t,.pointer (some ⟨b3,0,none⟩),.pointer (some ⟨b4,0,none⟩),.pointer (some ⟨b5,0,none⟩),.string ⟨#[]⟩,.bool false,.func (.func 70) #[] #[.pointer (some ⟨b3,0,none⟩),.pointer (some ⟨b5,0,none⟩),.pointer (some ⟨b4,0,none⟩)],.pointer (some ⟨b9,0,none⟩),.pointer (some ⟨iP,0,none⟩),.pointer (some ⟨b,0,none⟩),.func (.func 70) #[] #[.pointer (some ⟨b3,0,none⟩),.pointer (some ⟨b5,0,none⟩),.pointer (some ⟨b4,0,none⟩)],.pointer (some ⟨b3,4,none⟩),.slice (B.ad 4) (B.ls 4).length (B.cp 4),.int .i64 t,.func (.func 130) #[] #[.pointer (some ⟨bh,0,none⟩)],.func (.func 70) #[] #[.pointer (some ⟨b3,0,none⟩),.pointer (some ⟨b5,0,none⟩),.pointer (some ⟨b4,0,none⟩)],.slice (some ⟨bc,0,none⟩) 2 2,.func (.func 127) #[] #[.pointer (some ⟨b1,0,none⟩),.pointer (some ⟨b2,0,none⟩)],af.val x,cM,cM,cM,cM,cM,cM,cM,cM,cM,cM,cM,cM,cM,cM,cM,cM,cM,cM,cM,cM,cM],defers:=[]})
  (fun b x W=>aR W b x) ?uV ?sF ?assign ?body ?done ?stop
 case hI=>
  rintro s A B' ⟨h1,h2,h3⟩ tt;have:=aL.out;exact⟨(tt.block _ (bt h1) (ud (by omega))).trans h1,tt.boxed h2 (ud (by omega)),tt.below h3 (aB _) (AR dI.out.size)⟩
 case uV=>
  intro b x A B' hb ar h tt;refine(tt.block _ ar ?_).trans h;rintro(e|e|e)
  · exact e
  · omega
  · omega
 case sF=>
  intro A B' hs hb;exact ej.gH hb (fun k hk=>by have:=ki.out.1 k hk;omega)
 case assign=>
  intro l0 x W b K hb hle hK;subst hb
  dsimp only[tN]
  gi_wp2_with (first
   |((with_reducible refine Gl rfl (.tmp 11) (.tmp 20) rfl rfl x rfl rfl ?hi ?ho ?_);(case hi=>exact(IE x).out);(case ho=>rfl);intro w1 aH aq aP)
   |fail)
  exact hK _ aH aq aP
 case body=>
  rintro l0 pre x b W hle ar ⟨hE,hX,hB⟩ hx hl;obtain⟨jI,LZ,Rb⟩:∃jI LZ,og pre=(jI,LZ):=⟨_,_,rfl⟩;rw[Rb] at hE hX;have tZ:og (pre++[x])=xf (jI,LZ) x:=by rw[SF,Rb]
  have pW:=hZ tZ;have HE:=hZ hE;have HX:=hZ hX;have HB:=hZ hB;have si:=hZ hx;clear Rb tZ hE hX hB hx hl;cases LZ
  · have bu:W.drew.cell? ⟨iP,0,none⟩=some (.bool false):=HX.out.cell
    gi_wp2_with fail
    refine NI (S:=fun U=>U.cell? ⟨iP,0,none⟩=some (.bool false)) (by kernel_rfl) (by kernel_rfl) (bu) fun hHeld=>?_;refine dr 0 1 2 ?_;refine tn 3 ?_;refine tn 4 ?_;refine tn 5 ?_;refine tn 6 ?_;refine tn 7 ?_;refine tn 8 ?_;refine tn 9 ?_;refine tn 10 ?_;refine tn 11 ?_;refine tn 12 ?_;refine tn 13 ?_;refine tn 14 ?_;refine tn 15 ?_;refine tk 16 ?_;refine wpAnyH_done (by kernel_rfl) ?_ _;refine qY.normal ?_;have CR:Hid (cG W.drew iP 4 (.bool false)):=HX;have Ag:Hid (aR W.drew b9 jI):=HE;have Lz:Hid (aR W.drew b x):=si;have cX:=hZ (bl (cs:=x.cells) Lz.out);have yL:=CR.out.cell;have Rx:=CR.out.frozen;clear hHeld bu
    gi_wp2_with (first
     |((with_reducible refine Gk rfl 33 (.tmp 11) rfl b 0 ?hx x.cells _ cX.out bk rfl (IE x).out ?_);(case hx=>rfl))
     | ((with_reducible refine NJ rfl (.tmp 9) (.tmp 38) rfl rfl b9 jI x rfl rfl ?hi Ag.out ?_);(case hi=>exact(IE x).out);intro w2 fx mH
        have cK:=hZ fx;have dD:=hZ mH;have jT:=mH.boxed CR.out (by have:=eu.out;omega);have lO:=hZ (jT.set (.bool true));have eo:=jT.cell;have eZ:=jT.frozen
        clear fx mH jT yL Rx)
     |fail)
    have oI:aO (fun k=>k=iP) w2 (w2.setCell ⟨iP,0,none⟩ (.bool true)):=aO.setCell w2 _ _ rfl;have ZN:=aL.out;have bf:=eu.out;have fJ:∀k,Y k→k≠b9∧k≠iP:=ki.out.2;have dK:Below W.heap.size W W.drew:=eR (bK _ _);(have Dh:∀k,Y k→k<W.heap.size:=fun k hk=>by have:=ki.out.1 k hk;omega);have Fv:ej Y W (w2.setCell ⟨iP,0,none⟩ (.bool true)):=fun k hk=>(oI.block k (iX (iX (Dh k hk) dK.size) dD.out.size) (fJ k hk).2).trans ((dD.out.block k (iX (Dh k hk) dK.size) (fJ k hk).1).trans (dK.block k (Dh k hk)));have aC:Below w.heap.size w W.drew:=HB.out.trans (dK.mono HB.out.size);(have h9:w.heap.size≤b9:=by omega);refine⟨(KeepsFrom.gH dK).trans ((KeepsFrom.rB dD.out (fun k e=>by omega)).trans (KeepsFrom.rB oI (fun k e=>by omega))),Fv,?_⟩
    dsimp only
    rw[pW.out];rw[show xf (jI,false) x=(x,true) from rfl];exact⟨(oI.block _ (bt cK.out) (by omega)).trans cK.out,lO.out,oI.below (dD.out.below aC (aB _) (fun k e=>by omega)) (aB _) (fun k e=>by omega)⟩
  · have CR:Hid (cG W.drew iP 4 (.bool true)):=HX
    have Ag:Hid (aR W.drew b9 jI):=HE;have Lz:Hid (aR W.drew b x):=si;have bu:W.drew.cell? ⟨iP,0,none⟩=some (.bool true)∧W.drew.cell? ⟨b,5,none⟩=some (.int .i64 x.az)∧W.drew.cell? ⟨b9,5,none⟩=some (.int .i64 jI.az)∧W.drew.cell? ⟨b,1,none⟩=some (.int .i64 x.id)∧W.drew.cell? ⟨b9,1,none⟩=some (.int .i64 jI.id):=⟨HX.out.cell,si.out.cell (i:=5) rfl,HE.out.cell (i:=5) rfl,si.out.cell (i:=1) rfl,HE.out.cell (i:=1) rfl⟩;obtain⟨q,hq⟩:=oQ (decide (0<uf (dZ x.az jI.az) (dZ x.id jI.id)));have HQ:Hid (EX x jI=q):=hZ hq
    gi_wp2_with fail
    refine NI (S:=fun U=>U.cell? ⟨iP,0,none⟩=some (.bool true)∧U.cell? ⟨b,5,none⟩=some (.int .i64 x.az)∧U.cell? ⟨b9,5,none⟩=some (.int .i64 jI.az)∧U.cell? ⟨b,1,none⟩=some (.int .i64 x.id)∧U.cell? ⟨b9,1,none⟩=some (.int .i64 jI.id)) (by kernel_rfl) (by kernel_rfl) (bu) fun hHeld=>?_;obtain⟨U,hU⟩:=oQ (W.drew);rw[hU] at hHeld bu Ag CR Lz⊢;have gM:Hid (V4.heap.size+2≤U.heap.size∧b<U.heap.size):=hZ (by rw[←hU];exact⟨by show V4.heap.size+2≤W.heap.size;omega,ar⟩);have Ly:Hid (Below W.heap.size W U):=hZ (by rw[←hU];exact eR (bK _ _));clear hU;refine bg 0 1 2 3 ?_;refine bg 4 5 6 8 ?_;refine dr 9 10 11 ?_;refine rE 7 fun K hK=>?_;go_simp
    (with_reducible refine(yy _ _ _).mono ?_)
    rintro e7 w7 ⟨rfl,rfl⟩;refine kk hK bu fun hHeld=>?_;clear hK K;refine rE 12 fun K hK=>?_;go_simp
    (with_reducible refine(yy _ _ _).mono ?_)
    rintro e8 w8 ⟨rfl,rfl⟩;refine kk hK bu fun hHeld=>?_;clear hK K;refine rE 13 fun K hK=>?_;go_simp;obtain⟨bo,lX⟩:=oQ (U.heap.size);obtain⟨U1,lx⟩:=oQ (U.alloc (.cells #[.int .i64 (dZ x.az jI.az),.int .i64 (dZ x.id jI.id)] 3));(have cO:U1.heap[bo]?=some (.cells #[.int .i64 (dZ x.az jI.az),.int .i64 (dZ x.id jI.id)] 3 (0,0)):=by rw[←lx,←lX];exact bG _ _);(have aq:Below U.heap.size U U1:=by rw[←lx];exact aY _ _);rw[lX,lx];have fF:=hZ cO;have aF:=hZ aq;have cW:=hZ (Ag.out.below aq);have P0:=hZ (Lz.out.below aq);have tF:Hid (cG U1 iP 4 (.bool true)):=hZ ((aq.block _ CR.out.lt).trans CR.out);have qV:Hid (U1.cell? ⟨iP,0,none⟩=some (.bool true)∧U1.cell? ⟨b,5,none⟩=some (.int .i64 x.az)∧U1.cell? ⟨b9,5,none⟩=some (.int .i64 jI.az)∧U1.cell? ⟨b,1,none⟩=some (.int .i64 x.id)∧U1.cell? ⟨b9,1,none⟩=some (.int .i64 jI.id)):=hZ ⟨tF.out.cell,P0.out.cell (i:=5) rfl,cW.out.cell (i:=5) rfl,P0.out.cell (i:=1) rfl,cW.out.cell (i:=1) rfl⟩;clear lX lx cO aq;refine kk hK (qV.out) fun hHeld=>?_;clear hK K;refine rE 14 fun K hK=>?_;go_simp
    (with_reducible refine(SU bo 2 (dZ x.az jI.az) (dZ x.id jI.id) U1 (aJ fF.out rfl) (aJ fF.out rfl)).mono ?_)
    rintro e9 w9 ⟨rfl,rfl⟩;refine kk hK (qV.out) fun hHeld=>?_;clear hK K;refine eC 15 16 ?_;refine wpAnyH_done (by kernel_rfl) ?_ _;refine qY.normal ?_;cases q
    · clear hHeld bu
      gi_wp2_with fail
      have ZN:=aL.out;have dK:Below W.heap.size W U1:=Ly.out.trans (aF.out.mono Ly.out.size);refine⟨KeepsFrom.gH dK,ej.gH dK (fun k hk=>by have:=ki.out.1 k hk;omega),?_⟩
      dsimp only
      rw[pW.out];rw[show xf (jI,true) x=(jI,true) by unfold xf;rw[HQ.out];rfl];exact⟨cW.out,tF.out,HB.out.trans (dK.mono HB.out.size)⟩
    · skip
      have cX:=hZ (bl (cs:=x.cells) P0.out);have yL:=tF.out.cell;have Rx:=tF.out.frozen;clear hHeld bu
      gi_wp2_with (first
       |((with_reducible refine Gk rfl 33 (.tmp 11) rfl b 0 ?hx x.cells _ cX.out bk rfl (IE x).out ?_);(case hx=>rfl))
       | ((with_reducible refine NJ rfl (.tmp 9) (.tmp 38) rfl rfl b9 jI x rfl rfl ?hi cW.out ?_);(case hi=>exact(IE x).out);intro w2 fx mH
          have cK:=hZ fx;have dD:=hZ mH;have jT:=mH.boxed tF.out (by have:=eu.out;omega);have lO:=hZ (jT.set (.bool true));have eo:=jT.cell;have eZ:=jT.frozen
          clear fx mH jT yL Rx)
       |fail)
      have oI:aO (fun k=>k=iP) w2 (w2.setCell ⟨iP,0,none⟩ (.bool true)):=aO.setCell w2 _ _ rfl;have ZN:=aL.out;have bf:=eu.out;have fJ:∀k,Y k→k≠b9∧k≠iP:=ki.out.2;have dK:Below W.heap.size W U1:=Ly.out.trans (aF.out.mono Ly.out.size);(have Dh:∀k,Y k→k<W.heap.size:=fun k hk=>by have:=ki.out.1 k hk;omega);have Fv:ej Y W (w2.setCell ⟨iP,0,none⟩ (.bool true)):=fun k hk=>(oI.block k (iX (iX (Dh k hk) dK.size) dD.out.size) (fJ k hk).2).trans ((dD.out.block k (iX (Dh k hk) dK.size) (fJ k hk).1).trans (dK.block k (Dh k hk)));have aC:Below w.heap.size w U1:=HB.out.trans (dK.mono HB.out.size);(have h9:w.heap.size≤b9:=by omega);refine⟨(KeepsFrom.gH dK).trans ((KeepsFrom.rB dD.out (fun k e=>by omega)).trans (KeepsFrom.rB oI (fun k e=>by omega))),Fv,?_⟩
      dsimp only
      rw[pW.out];rw[show xf (jI,true) x=(x,true) by unfold xf;rw[HQ.out];rfl];exact⟨(oI.block _ (bt cK.out) (by omega)).trans cK.out,lO.out,oI.below (dD.out.below aC (aB _) (fun k e=>by omega)) (aB _) (fun k e=>by omega)⟩
 case done=>
  rintro xs W hS ⟨hE,hX,hB⟩ hK
  have Fw:og xs=l8 B bQ t:=by
   rw[hS];unfold l8
   congr 2
   funext e
   simp[dw]
  rw[Fw] at hE hX;have HE:=hZ hE;have HX:=hZ hX;have HB:=hZ hB;have fR:=hZ hK;obtain⟨ks,RN⟩:=oQ (l8 B bQ t);have HKS:=hZ RN;rw[RN] at HE HX;clear hS Fw hE hX hB hK RN;have bu:W.drew.cell? ⟨b9,17,none⟩=some (.string ks.1.text)∧W.drew.cell? ⟨iP,0,none⟩=some (.bool ks.2):=⟨HE.out.cell (i:=17) rfl,HX.out.cell⟩;go_wp2_with fail;refine cJ (fun U=>U.cell? ⟨b9,17,none⟩=some (.string ks.1.text)∧U.cell? ⟨iP,0,none⟩=some (.bool ks.2)) bu fun hHeld=>?_;refine bg 0 1 2 3 ?_;refine tk 4 ?_;refine dn ?_;clear hHeld bu;go_wp2;refine⟨by simp,.inl ⟨_,_,rfl,Ab (w:=W.drew) fR.out,?_⟩⟩;refine⟨_,amK rfl _ _,?_,?_⟩
  · rw[HKS.out];rfl
  · exact(aO.putObj (Z:=fun k=>k=V4.heap.size) W.drew _ _ rfl).below (eR HB.out) (aB _) (fun k hk=>by have:=dI.out.size;omega)
 case stop=>
  rintro c pre W _ h _;exact h.elim
end Go.Proofs.YteeifhlhpiimoaaGreatDoor
end
section
namespace Go.Proofs.YteeifhlhpiimoaaGreatDoor
open Go Go.RowKit Go.Shelf Go.Sort
theorem Yf:∀{l m:List Int},l.Pairwise (· < ·)→m.Pairwise (· < ·)→(∀x,x∈l↔x∈m)→l=m
 |[],[],_,_,_=>rfl
 |[],y::m,_,_,h=>by have:=(h y).2 (Ae ..);cases this
 |x::l,[],_,_,h=>by have:=(h x).1 (Ae ..);cases this
 | x ::l,y::m,hl,hm,h=>by
   rw[List.pairwise_cons] at hl hm
   have FN:x=y:=by
    have h1:=(h x).1 (Ae ..);have h2:=(h y).2 (Ae ..);rcases dG.1 h1 with e|e
    · exact e
    · rcases dG.1 h2 with e2|e2
      · exact e2.symm
      · have:=hm.1 x e;have:=hl.1 y e2;omega
   subst FN
   congr 1
   refine Yf hl.2 hm.2 fun z=>⟨fun hz=>?_,fun hz=>?_⟩
   · rcases dG.1 ((h z).1 (qI _ hz)) with e|e
     · subst e;have:=hl.1 z hz;omega
     · exact e
   · rcases dG.1 ((h z).2 (qI _ hz)) with e|e
     · subst e;have:=hm.1 z hz;omega
     · exact e
theorem XJ (d:Array Int) (hs:∀i j,i≤j→j<d.size→d[i]! ≤d[j]!):∀m,m≤d.size→(xC d m).Pairwise (· < ·)∧∀x,x∈xC d m↔ ∃j,j<m∧d[j]! =x
 |0,_=>⟨by simp[xC],fun x=>by simp[xC]⟩
 | m + 1, hm=>by
   obtain⟨h1,h2⟩:=XJ d hs m (by omega);rw[Lib.compactUpTo_succ]
   by_cases hk:zP d m=true
   · rw [if_pos hk]
     refine⟨?_,fun x=>?_⟩
     · rw[List.pairwise_append]
       refine⟨h1,List.pairwise_singleton _ _,fun x hx y hy=>?_⟩;obtain rfl:=fQ.1 hy;obtain⟨j,hj,rfl⟩:=(h2 x).1 hx;(have bf:m=0∨d[m]! ≠d[m-1]! :=by simpa[zP] using hk);have a1:=hs j (m-1) (by omega) (by omega);have a2:=hs (m-1) m (by omega) (by omega);rcases bf with e|e
       · omega
       · omega
     · rw[List.mem_append,fQ,h2 x]
       constructor
       · rintro(⟨j,hj,e⟩|rfl)
         · exact⟨j,by omega,e⟩
         · exact⟨m,by omega,rfl⟩
       · rintro⟨j,hj,e⟩
         by_cases Dy:j=m
         · subst Dy;exact .inr e.symm
         · exact .inl ⟨j,by omega,e⟩
   · rw [if_neg hk,List.append_nil]
     refine⟨h1,fun x=>?_⟩;rw[h2 x];(have bf:¬(m=0∨d[m]! ≠d[m-1]!):=by simpa[zP] using hk);constructor
     · rintro⟨j,hj,e⟩;exact⟨j,by omega,e⟩
     · rintro⟨j,hj,e⟩
       by_cases Dy:j=m
       · subst Dy
         refine⟨j-1,by omega,?_⟩
         have:d[j]! =d[j-1]! :=by
          rcases Decidable.em (d[j]! =d[j-1]!) with q|q
          · exact q
          · exact absurd (.inr q) bf
         rw[←this];exact e
       · exact⟨j,by omega,e⟩
def zy (l:List Int):List Int:=kY (l.mergeSort fun x y=>decide (x≤y))
theorem anh (l:List Int):(zy l).Pairwise (· < ·)∧∀x,x∈zy l↔x∈l:=by
 unfold zy;obtain⟨ss,t_⟩:=oQ ((l.mergeSort fun x y=>decide (x≤y)));have hp:ss.Perm l:=by rw[←t_];exact List.mergeSort_perm _ _
 have akc:ss.Pairwise (fun x y=>x≤y):=by
  rw[←t_];have:=List.pairwise_mergeSort (le:=fun(x y:Int)=>decide (x≤y)) (fun a b c h1 h2=>by simp at h1 h2⊢;omega) (fun a b=>by simp;omega) l;exact this.imp (fun h=>by simpa using h)
 rw[t_]
 have hd:∀i j,i≤j→j<ss.toArray.size→ss.toArray[i]! ≤ss.toArray[j]! :=fun i j dh hj=>by
  have Jh:j<ss.length:=by simpa using hj
  rw[getElem!_pos _ i (by simp;omega),getElem!_pos _ j hj];rcases Nat.lt_or_ge i j with h|h
  · have:=List.pairwise_iff_getElem.1 akc i j (by omega) Jh h
    simpa using this
  · have:i=j:=by omega
    subst this;exact Int.le_refl _
 obtain⟨h1,h2⟩:=XJ ss.toArray hd ss.length (by simp);refine⟨h1,fun x=>?_⟩;rw[←hp.mem_iff];refine(h2 x).trans ?_;constructor
 · rintro⟨j,hj,e⟩
   rw[getElem!_pos _ j (by simpa using hj)] at e;rw[←e];simp
 · intro hx
   obtain⟨j,hj,e⟩:=List.getElem_of_mem hx;refine⟨j,hj,?_⟩;rw[getElem!_pos _ j (by simpa using hj)];simpa using e
section
variable {w:ae} {B g n cap:Nat} {e:TypeId} {l:List Int}
theorem OL.holds (h:OL w B e 1 (one iv) (.slice (some ⟨g,0,none⟩) n cap) l):Holds (Value.int .i64) w g 0 l.toArray:=by
 rcases h.2 with⟨he,_⟩|⟨g',fI,cur,he,hb,hg,hc,hm,hs,ht⟩
 · cases he
 · cases he
   refine holds_of_blockI hg ?_;rw[Nat.mul_one,wJ] at ht;exact ht
theorem OL.ab7 (h:OL w B e 1 (one iv) (.slice (some ⟨g,0,none⟩) n cap) l) (ts:List Int) (FL:ts.length=l.length) (q:Nat) (os:Array Obj) (k:Nat) (hk:k≤l.length):
 OL (grow (putRow (Value.int .i64) (Sort.ahead w q) g 0 ts.toArray) os) B e 1 (one iv) (.slice (some ⟨g,0,none⟩) k cap) (ts.take k):=by
 rcases h.2 with⟨he,_⟩|⟨g',fI,cur,he,hb,hg,hc,hm,hs,ht⟩
 · cases he
 · cases he
   have:=ownsRow_sortedI (n:=q) (os:=os) FL hb hg hc hm hs
   have h2:OL (grow (putRow (Value.int .i64) (Sort.ahead w q) g 0 ts.toArray) os) B e 1 (one iv) (.slice (some ⟨g,0,none⟩) l.length cap) ts:=by
    unfold OL;rw[wJ,FL];exact this
   rw[←FL] at hk;exact h2.take (fun _=>rfl) k hk (by simp)
end
structure ER (w w':ae) (B:Nat) (v v':ai) (m:List Int):Prop where
 ol:OL w' B 3 1 (one iv) v' m
 own:v'.ownBlock=v.ownBlock
 turns:aO (fun k=>v.ownBlock=some k) w w'
theorem aO.F0 {w w':ae} {o:Option Nat} (h:w.grownBy w' o):aO (fun k=>o=some k) w w':=⟨h.os,h.tape,h.output,h.size,fun k hk hz=>h.block k hk (fun e=>hz e.symm)⟩
theorem ER.trans {a b c:ae} {B:Nat} {u v x:ai} {l m:List Int} (h:ER a b B u v l) (k:ER b c B v x m):ER a c B u x m:=
 ⟨k.ol,k.own.trans h.own,h.turns.trans (k.turns.mono fun _ e=>h.own▸e)⟩
theorem anx {w:ae} {B:Nat} {v:ai} {l:List Int} (h:OL w B 3 1 (one iv) v l) (hl:l.length≤1000000):
 ax ah 82 #[v] w fun e w'=>e=.returned (.tuple #[])∧ER w w' B v v (l.mergeSort fun x y=>decide (x≤y)):=by
 rcases fL l.length with h0|h0
 · obtain⟨A,c,rfl,_,_⟩:=h.slice
   obtain rfl:=rO.1 h0;refine(Tryz.slices_Sort_int_none A c w).mono ?_;rintro e w' ⟨rfl,rfl⟩;exact⟨rfl,by simpa using h,rfl,aO.refl _ _⟩
 · obtain⟨g,c,rfl,_,hg,_,_⟩:=h.form h0
   refine(Tryz.slices_Sort_int g 0 c l w h.holds hg (by omega)).mono ?_;rintro e w' ⟨rfl,q,os,rfl⟩;have:=h.ab7 (l.mergeSort fun x y=>decide (x≤y)) (by simp) q os l.length (aB _);rw[List.take_of_length_le (by simp)] at this;exact⟨rfl,this,rfl,aO.F0 (af9 _)⟩
theorem aiu {w:ae} {B:Nat} {v:ai} {l:List Int} (h:OL w B 3 1 (one iv) v l) (hl:l.length≤1000000):
 ax ah 83 #[v] w fun e w'=> ∃v',e=.returned v'∧ER w w' B v v' (kY l):=by
 rcases fL l.length with h0|h0
 · obtain⟨A,c,rfl,_,_⟩:=h.slice
   obtain rfl:=rO.1 h0;refine(Tryz.slices_Compact_int_empty A c w).mono ?_;rintro e w' ⟨rfl,rfl⟩;exact⟨_,rfl,by simpa[kY,xC] using h,rfl,aO.refl _ _⟩
 · obtain⟨g,c,rfl,_,hg,hc,_⟩:=h.form h0
   refine(Tryz.slices_Compact_int g 0 c l w h.holds (by omega) hc).mono ?_;rintro e w' ⟨rfl,q,rfl⟩;have hle:=Lib.compact_length_le l;have:=h.ab7 (kY l++jY (l.length-(kY l).length) 0) (by simp;omega) q #[] (kY l).length hle;rw[List.take_left,grow_empty] at this;exact⟨_,rfl,this,rfl,aO.F0 (by have:=af9 (w:=w) (g:=g) (n:=q) (os:=#[]) (kY l++jY (l.length-(kY l).length) 0).toArray;rwa[grow_empty] at this)⟩
theorem TT {α:Type} {F:Fence} {nn:Nat} {P:Program} {w:ae} {B:Nat} {e t:TypeId} {size bytes:Nat} {f:α→List ai} {ops:Array Oper} {rest:List Oper} {o:Oper} {a:Act} {Q:Exit→Act→ae→Prop} (ct:o.guard=none) (s x:Operand)
 (ho:o.op=.call {callee:=.builtin .append,args:=#[s,x],argTypes:=#[t,t]}) (E:gi P t e size bytes) (v:ai) (l:List α) (n:Nat) (hn:l.length=n) (hs:a.eval s=v) (h:OL w B e size f v l) (y:α) (b:Nat) (cs:Array ai) (hx:a.eval x=.slice (some ⟨b,0,none⟩) 1 1)
 (hb:w.heap[b]?=some (.cells cs e (0,0))) (hcs:cs.toList=f y) (Dv:(f y).length=size) (kP:∀u∈f y,u.oneCell'=true) (qd:l.length+1≤maxLen) (qj:(l.length+1)*bytes≤140737488355328) (hB:B≤w.heap.size)
 (hk:∀g cap w',OL w' B e size f (.slice (some ⟨g,0,none⟩) (n+1) cap) (l++[y])→w.grownBy w' v.ownBlock→(v.ownBlock=some g∨g=w.heap.size)→g<w'.heap.size→Below B w w'→wpListIn F nn P ops Q rest (a.put o.dst (.slice (some ⟨g,0,none⟩) (n+1) cap)) w'):wpListIn F nn P ops Q (o::rest) a w:=by
 subst hn;refine wpListIn_plain ct fun K hK=>?_;obtain⟨g,cap,w',r1,r2,r3,r4,r5,r6⟩:=h.Tq (P:=P) E o.type y b cs hb hcs Dv kP qd qj hB;unfold Oper.wpIn;refine⟨?_,?_⟩
 · simp[Oper.about,ho,resolve,Target.leads,Sem.run_pure]
 · rw[Oper.semAt_plain F _ _ (by rw[ho];intro c kM;cases kM)]
   simp[execOp,ho,resolve,invoke,builtin,hs,hx,r1,Result.andThen];exact hK _ _ (hk g cap w' r2 r3 r4 r5 r6)
end Go.Proofs.YteeifhlhpiimoaaGreatDoor
end
section
namespace Go.Proofs.YteeifhlhpiimoaaGreatDoor
open Go Go.RowKit Go.Shelf Go.Sort
attribute [local go_sem] Oper.semAt_some
theorem C9:gi ah 23 3 1 8:=gi.mk' (z:=.int .i64 0) Tryz.underlying23 (by kernel_rfl) rfl (by decide)
def AM (B:bP) (p:Int):List Int:=zy (((B.ls 8).filter fun e=>decide (e.item=p)).map fun e=>e.dj)
theorem XQ (B:bP) (p:Int) (w:ae) (hB:dH w (bV w) B) (hl:(B.ls 8).length≤1000000):
 ax ah 31 #[B.val,.int .i64 p] w fun e w'=> ∃v,e=.returned v∧OL w' w.heap.size 3 1 (one iv) v (AM B p)∧Below w.heap.size w w':=by
 have HB:=hZ hB;have HL:=hZ hl;have IE:=fun e:af=>hZ (di (e:=e));clear hB hl;refine(callsIn_wide (n:=3)).1 ?_;refine af8 Tryz.func31 rfl trivial ?_ rfl;simp only[Tryz.ntmps31,tf,eF,pQ,xU,Ch,BY,BZ,Cd,Ca,xS,s6];refine Og.2 ?_;go_wp2_with fail;have dB:=hZ (At.start w);obtain⟨b2,w0,q1,q2,q3,vd,bU⟩:=dB.out.eX (.cells B.cells.toArray 36);obtain⟨b5,w1,r1,r2,r3,jb,aP⟩:=vd.eX (.cells #[.slice none 0 0] 23);rw[bU] at r1;have eu:Hid (b2<b5∧w.heap.size≤b2):=hZ (by omega);rw[q1,q2,r1,r2];have HF:Hid (At w w1.drew _):=hZ jb.drew;clear dB q1 q2 q3 vd bU r1 r2 r3 jb aP;refine cJ (fun U=>U.cell? ⟨b2,8,none⟩=some (.slice (B.ad 8) (B.ls 8).length (B.cp 8))) (cB B HF) fun hHeld=>?_;obtain⟨U0,en⟩:=oQ (w1.drew);rw[en] at HF hHeld⊢;clear en;refine dr 0 1 2 ?_;refine rE 3 fun K hK=>?_;go_simp
 (with_reducible refine(uS p HF.out).mono ?_)
 rintro e1 V2 ⟨ba,rfl,au⟩;have HF:=hZ au;clear au;refine kk hK (cB B HF) fun hHeld=>?_;clear hK K;refine rE 4 fun K hK=>?_;go_simp;obtain⟨bc,V3,g1,g2,-,au⟩:=HF.out.alloc (.cells #[.func (.func 129) #[] #[.pointer (some ⟨ba,0,none⟩)]] 45);rw[g1,g2];have HF:=hZ au;clear au g1 g2;refine kk hK (cB B HF) fun hHeld=>?_;clear hK K;refine rE 5 fun K hK=>?_;go_simp
 (with_reducible refine(jX (B.ad 8) (B.ls 8).length (B.cp 8) (some ⟨bc,0,none⟩) 1 1 HF.out).mono ?_)
 rintro e1 V4 ⟨b1,yv,rfl,au⟩;have HF:=hZ au;clear au;refine kk hK (cB B HF) fun hHeld=>?_;clear hK K;refine dn ?_;clear hHeld;obtain⟨Y,hY⟩:∃Y:Nat→Prop,Y=fun k=>k<V4.heap.size∧k≠b5:=⟨_,rfl⟩;have tQ:∀k,Y k→k<V4.heap.size:=fun k hk=>by rw[hY] at hk;exact hk.1
 have IY:∀k,Y k→k≠b5:=fun k hk=>by rw[hY] at hk;exact hk.2
 have iD:∀k cs T,(k,Obj.cells cs T (0,0))∈_→T≠23→Y k:=fun k cs T hm h1=>by
  rw[hY];refine⟨HF.out.lt hm,fun e=>?_⟩;have q1:=HF.out.has _ hm;have q2:=HF.out.has (b5,.cells #[.slice none 0 0] 23 (0,0)) (by simp);simp only at q1 q2;rw[e,q2] at q1;injection q1 with q1;injection q1 with _ q1 _;exact h1 q1.symm
 have hold:∀k,bV w k→Y k:=fun k hk=>by
  unfold bV at hk;rw[hY];have:=eu.out;have:=HF.out.below.size;omega
 have yH:dH V4 Y B:=(HB.out.keeps (ej.gH HF.out.below fun _ h=>h)).mono hold;have y1:=iD b1 #[.slice (B.ad 8) (B.ls 8).length (B.cp 8)] 25 (by simp) (by decide);have y2:=iD yv #[.slice (some ⟨bc,0,none⟩) 1 1] 110 (by simp) (by decide);have yc:=iD bc #[.func (.func 129) #[] #[.pointer (some ⟨ba,0,none⟩)]] 45 (by simp) (by decide);have ya:=iD ba #[.int .i64 p] 3 (by simp) (by decide)
 have AW:=NH [⟨129,#[.pointer (some ⟨ba,0,none⟩)],fun e=>decide (e.item=p)⟩] (B.ls 8) (B.ad 8) (some ⟨bc,0,none⟩) (B.ls 8).length (B.cp 8) 1 1 b1 yv rfl (aV (HB.out.cap 8 (by decide)).1 (HB.out.cap 8 (by decide)).2) rfl (by decide) Y V4 tQ y1 y2
  (HF.out.boxed (by simp)) (HF.out.boxed (by simp)) (yH.at_ 8 (by decide)) (fun i v hv=>by
    have fh:=HF.out.cell (b:=bc) (cs:=#[.func (.func 129) #[] #[.pointer (some ⟨ba,0,none⟩)]]) (t:=45) (by simp) (i:=i) (v:=v) (by simpa[jB.val] using hv);refine⟨_,rfl,yc,?_⟩;rw[show(⟨bc,0,none⟩:Addr).add i=⟨bc,i,none⟩ by simp[jy];omega]
    exact fh) (fun c hc=>by
    simp only[dG,gZ,or_false] at hc;subst hc
    exact Qv p ba V4 Y ya (HF.out.boxed (by simp)))
 have HI:=hZ AW;have ki:=hZ (ay tQ IY);have CQ:Hid (cG V4 b5 23 (.slice none 0 0)):=hZ (HF.out.boxed (by simp));have dI:Hid (Below w.heap.size w V4):=hZ HF.out.below;have aL:Hid (b5<V4.heap.size):=hZ CQ.out.lt;clear hY tQ IY iD hold yH y1 y2 yc ya AW;go_wp2_with fail;refine(Og (n:=3)).1 ?_
 refine Kl (gf:=127) (lb:=#[.pointer (some ⟨b1,0,none⟩),.pointer (some ⟨yv,0,none⟩)]) rfl (enters_of NV (by kernel_rfl) rfl)
  HI.out (bK _ _) (fun k hk=>hk.elim) (fun _=>rfl) (fun h k=>h.trans k)
  (fun W o k hk=>kZ (by have:=ki.out.1 k hk;omega))
  (fun pre W=> ∃v,cG W b5 23 v∧OL W (V4.heap.size+2) 3 1 (one iv) v (pre.map (fun e=>e.dj))∧Below w.heap.size w W)
  (fun _ _ _=>False)
  ?hI (fun _ _ _ _ h _=>h.elim) ⟨_,CQ.out,OL.nil,dI.out⟩
  (fun b x=>{tmps:=#[B.val,.int .i64 p,.pointer (some ⟨b2,0,none⟩),cM,.slice none 0 0,.pointer (some ⟨b5,0,none⟩),.pointer (some ⟨b,0,none⟩),.pointer (some ⟨b2,8,none⟩),.slice (B.ad 8) (B.ls 8).length (B.cp 8),.int .i64 p,.func (.func 129) #[] #[.pointer (some ⟨ba,0,none⟩)],.slice (some ⟨bc,0,none⟩) 1 1,.func (.func 127) #[] #[.pointer (some ⟨b1,0,none⟩),.pointer (some ⟨yv,0,none⟩)],af.val x,cM,cM,cM,cM,cM,cM,cM,cM,cM],defers:=[]})
  (fun b x W=>aR W b x) ?uV ?sF ?assign ?body ?done ?stop
 case hI=>
  rintro s A B' ⟨v,h1,h2,h3⟩ tt;have:=aL.out;refine⟨v,tt.boxed h1 (ud (by omega)),h2.keep fun g hg=>tt.block g (h2.lt g hg).2 ?_,tt.below h3 (aB _) (AR dI.out.size)⟩;rintro(e|e|e)
  · exact e
  · have:=(h2.lt g hg).1;omega
  · have:=(h2.lt g hg).1;omega
 case uV=>
  intro b x A B' hb ar h tt;refine(tt.block _ ar ?_).trans h;rintro(e|e|e)
  · exact e
  · omega
  · omega
 case sF=>
  intro A B' hs hb;exact ej.gH hb (fun k hk=>by have:=ki.out.1 k hk;omega)
 case assign=>
  intro l0 x W b K hb hle hK;subst hb
  dsimp only[tN]
  gi_wp2_with (first
   |((with_reducible refine Gl rfl (.tmp 6) (.tmp 13) rfl rfl x rfl rfl ?hi ?ho ?_);(case hi=>exact(IE x).out);(case ho=>rfl);intro w1 aH aq aP)
   |fail)
  exact hK _ aH aq aP
 case body=>
  rintro l0 pre x b W hle ar ⟨v,hv,cL,hB⟩ hx hl;obtain⟨A5,c5,rfl,-,-⟩:=cL.slice;obtain⟨k,hk⟩:=oQ ((pre.map (fun e=>e.dj)).length);rw[hk] at hv cL;have HK:=hZ hk;have HV:=hZ hv;have HR:=hZ cL;have bA:=hZ hB;have si:=hZ hx;have qm:k<(B.ls 8).length:=by rw[←hk,rP];exact hl
  have oA:Hid (k+1≤1000000):=hZ (by have:=HL.out;omega);have x9:=si.out.cell (i:=9) rfl;have c0:=hv.cell;clear hk hv cL hB hx hl qm;have gw:=aY W (.cells #[.int .i64 x.dj] 3);have g_:=hZ gw;clear gw
  gi_wp2_with (first
   | (gi_at_builtin;refine TT rfl (.tmp 14) (.tmp 17) rfl C9 (.slice A5 k c5) (pre.map (fun e=>e.dj)) k HK.out rfl (HR.out.below g_.out (aB _)) x.dj W.heap.size #[.int .i64 x.dj] rfl (bG W _) rfl rfl (fun u hu=>by simp[one,iv] at hu;subst hu;rfl) (by have:=oA.out;have:=HK.out;unfold maxLen;omega) (by have:=oA.out;have:=HK.out;omega) (by simp;omega) ?_
      intro g' fI w1 iT ep lD kx aq;have iF:cG w1 b5 23 (.slice A5 k c5):=(ep.block b5 (by have:=g_.out.size;have:=HV.out.lt;omega) (fun e=>by have:=(HR.out.lt b5 e.symm).1;have:=aL.out;omega)).trans ((g_.out.block _ HV.out.lt).trans HV.out);have cA:=hZ iF;have lL:=hZ iT;have rX:=hZ ep;have fj:=hZ lD;have c1:=iF.cell;have f1:=iF.frozen
      clear iT ep lD kx aq iF)
   |fail)
  have hT:aO (fun q=>q=b5) w1 (w1.setCell ⟨b5,0,none⟩ (.slice (some ⟨g',0,none⟩) (k+1) fI)):=aO.setCell _ _ _ rfl;have jq:∀q,(Value.slice A5 k c5).ownBlock=some q→V4.heap.size+2≤q:=fun q hq=>(HR.out.lt q hq).1;have DC:=aL.out;have aU:=g_.out.size;have oH:aO (fun q=>(Value.slice A5 k c5).ownBlock=some q) (W.alloc (.cells #[.int .i64 x.dj] 3)) w1:=Fc rX.out;have aq:Below (V4.heap.size+2) W w1:=oH.below (g_.out.mono (by omega)) (by omega) (fun q hq=>jq q hq)
  have IZ:ej Y W (w1.setCell ⟨b5,0,none⟩ (.slice (some ⟨g',0,none⟩) (k+1) fI)):=fun q hq=>by
   have h1:=ki.out.1 q hq;have h2:=ki.out.2 q hq;exact(fA _ _ _ _ h2).trans (aq.block q (by omega))
  refine⟨?_,IZ,.slice (some ⟨g',0,none⟩) (k+1) fI,cA.out.set _,?_,?_⟩
  · refine((KeepsFrom.gH g_.out).trans ⟨oH.size,fun q o h1 h2 h3=>?_⟩).trans (KeepsFrom.rB hT (fun q e=>by omega))
    refine(oH.block q (fU.1 h2).1 fun e=>?_).trans h2;have cL:=HR.out.below g_.out (aB _);rcases cL.2 with⟨e1,_⟩|⟨g9,Xz,XM,e1,_,h9,_⟩
    · rw[e1] at e;cases e
    · rw[e1] at e
      (have:g9=q:=by injection e);subst this;rw[h9] at h2;injection h2 with h2;rw[←h2] at h3;cases h3
  · rw[List.map_append,List.map_singleton]
    exact lL.out.keep fun q hq=>fA _ _ _ _ (fun e=>by
     (have:g'=q:=by injection hq);rcases fj.out with h1|h1
     · have:=jq g' h1;simp only at e;omega
     · simp only at e;omega)
  · have:=dI.out.size
    (have hlw:w.heap.size≤b5:=by have:=eu.out;omega);exact hT.below (bA.out.trans (aq.mono (by omega))) (aB _) (fun q hq=>by omega)
 case done=>
  rintro xs W hS ⟨v,hv,cL,hB⟩ hK
  have Sy:xs=(B.ls 8).filter fun e=>decide (e.item=p):=by
   rw[hS]
   congr 1
   funext e
   simp[dw]
  subst Sy
  have iE:(((B.ls 8).filter fun e=>decide (e.item=p)).map fun e=>e.dj).length≤1000000:=by
   have:=List.length_filter_le (fun e=>decide (e.item=p)) (B.ls 8);have:=HL.out;rw[rP];omega
  obtain⟨ll,DB⟩:=oQ (((B.ls 8).filter fun e=>decide (e.item=p)).map (fun e=>e.dj));have Zc:AM B p=zy ll:=by unfold AM;rw[DB]
  rw[DB] at cL iE;have HCU:=hZ Zc;have tz:=hZ iE;have HV:=hZ hv;have HR:=hZ cL;have bA:=hZ hB;have fR:=hZ hK;have c0:=hv.cell;have Jt:v.ownBlock≠some b5:=fun e=>by have:=(cL.lt b5 e).1;have:=aL.out;omega
  have Hj:=hZ Jt;clear hv cL hB hK hS DB Zc iE Jt
  go_wp2_with (first
   | (go_at_call 82;(with_reducible refine(anx HR.out tz.out).mono ?_);rintro e3 w3 ⟨rfl,Sb⟩
      have sc:=hZ Sb;have rr:cG w3 b5 23 v:=Sb.turns.boxed HV.out Hj.out;have mu:=hZ rr;have c3:=rr.cell
      clear Sb rr c0)
   | (go_at_call 83;(with_reducible refine(aiu sc.out.ol (by have:=tz.out;simpa using this)).mono ?_);rintro e4 w4 ⟨v4,rfl,Z_⟩
      have k_:=hZ Z_
      clear Z_)
   |fail)
  have kO:w3.heap[V4.heap.size]?=some (.deferred (some [])):=(sc.out.turns.block _ (fU.1 fR.out).1 (fun e=>by have:=(HR.out.lt _ e).1;omega)).trans fR.out;have jK:w4.heap[V4.heap.size]?=some (.deferred (some [])):=(k_.out.turns.block _ (fU.1 kO).1 (fun e=>by have:=(sc.out.ol.lt _ e).1;omega)).trans kO;refine⟨by simp,.inl ⟨_,_,rfl,Ab jK,?_⟩⟩;refine⟨_,results_tmp rfl _ _ _,_,rfl,?_,?_⟩
  · rw[HCU.out]
    have aU:=dI.out.size;exact(k_.out.ol.keep fun g hg=>kZ (by have:=(k_.out.ol.lt g hg).1;omega)).base (by omega)
  · have aU:=dI.out.size
    have aK:=sc.out.turns.below bA.out (aB _) (fun q hq=>by have:=(HR.out.lt q hq).1;omega);have cQ:=k_.out.turns.below aK (aB _) (fun q hq=>by have:=(sc.out.ol.lt q hq).1;omega);exact(aO.putObj (Z:=fun k=>k=V4.heap.size) w4 _ _ rfl).below cQ (aB _) (fun k hk=>by omega)
 case stop=>
  rintro c pre W _ h _;exact h.elim
structure bY where
 item:Int
 az:Int
 bj:Int
def bD (s:bY):List ai:=[.int .i64 s.item,.int .i64 s.az,.int .i64 s.bj]
def fq (e:af):bY:=⟨e.item,e.az,e.bj⟩
instance ap3:Inhabited bY:=⟨⟨0,0,0⟩⟩
theorem C':gi ah 61 75 3 24:=gi.mk' (z:=.agg #[.int .i64 0,.int .i64 0,.int .i64 0]) Tryz.underlying61 (by kernel_rfl) rfl (by decide)
def AG (x y:bY):Int:=uf (dZ x.az y.az) (dZ x.bj y.bj)
theorem ajb (x y:bY) (W:ae):ax ah 80 #[.agg #[.int .i64 x.item,.int .i64 x.az,.int .i64 x.bj],.agg #[.int .i64 y.item,.int .i64 y.az,.int .i64 y.bj]] W fun e w'=>e=.returned (.int .i64 (AG x y))∧gW W w':=by
 go_enter ad7,Tryz.ntmps80
 go_wp2_with fail;have dB:=hZ (At.start W);obtain⟨b1,w0,q1,q2,q3,vd,bU⟩:=dB.out.eX (.cells #[.int .i64 x.item,.int .i64 x.az,.int .i64 x.bj] 75);obtain⟨b2,w1,r1,r2,r3,jb,aP⟩:=vd.eX (.cells #[.int .i64 y.item,.int .i64 y.az,.int .i64 y.bj] 75);rw[bU] at r1;have ep:gW W w1:=by rw[←r2,←q2];exact(gW.alloc _ _).trans (gW.alloc _ _)
 rw[q1,q2,r1,r2];obtain⟨U,hU⟩:=oQ (w1.drew);have hf:=jb.drew;rw[hU] at hf;have HF:=hZ hf;have G9:Hid (gW W U):=hZ (by rw[←hU];exact ep.trans (gW.drew _));have aL:Hid (b1<U.heap.size∧b2<U.heap.size):=hZ ⟨hf.lt (b:=b1) (o:=.cells #[.int .i64 x.item,.int .i64 x.az,.int .i64 x.bj] 75 (0,0)) (by simp),hf.lt (b:=b2) (o:=.cells #[.int .i64 y.item,.int .i64 y.az,.int .i64 y.bj] 75 (0,0)) (by simp)⟩
 have bu:w1.drew.cell? ⟨b1,1,none⟩=some (.int .i64 x.az)∧w1.drew.cell? ⟨b2,1,none⟩=some (.int .i64 y.az)∧w1.drew.cell? ⟨b1,2,none⟩=some (.int .i64 x.bj)∧w1.drew.cell? ⟨b2,2,none⟩=some (.int .i64 y.bj):=by
  rw[hU];exact⟨HF.out.cell (cs:=#[.int .i64 x.item,.int .i64 x.az,.int .i64 x.bj]) (t:=75) (by simp) rfl,HF.out.cell (cs:=#[.int .i64 y.item,.int .i64 y.az,.int .i64 y.bj]) (t:=75) (by simp) rfl,HF.out.cell (cs:=#[.int .i64 x.item,.int .i64 x.az,.int .i64 x.bj]) (t:=75) (by simp) rfl,HF.out.cell (cs:=#[.int .i64 y.item,.int .i64 y.az,.int .i64 y.bj]) (t:=75) (by simp) rfl⟩
 clear dB q1 q2 q3 vd bU r1 r2 r3 jb aP ep hf;refine cJ (fun U=>U.cell? ⟨b1,1,none⟩=some (.int .i64 x.az)∧U.cell? ⟨b2,1,none⟩=some (.int .i64 y.az)∧U.cell? ⟨b1,2,none⟩=some (.int .i64 x.bj)∧U.cell? ⟨b2,2,none⟩=some (.int .i64 y.bj)) bu fun hHeld=>?_;rw[hU] at hHeld⊢;clear hU;refine bg 0 1 2 3 ?_;refine bg 5 6 7 8 ?_;refine rE 4 fun K hK=>?_;go_simp
 (with_reducible refine(yy _ _ _).mono ?_)
 rintro e7 w7 ⟨rfl,rfl⟩;refine kk hK hHeld fun hHeld=>?_;clear hK K;refine rE 9 fun K hK=>?_;go_simp
 (with_reducible refine(yy _ _ _).mono ?_)
 rintro e8 w8 ⟨rfl,rfl⟩;refine kk hK hHeld fun hHeld=>?_;clear hK K;refine rE 10 fun K hK=>?_;go_simp;obtain⟨bo,lX⟩:=oQ (U.heap.size);obtain⟨U1,lx⟩:=oQ (U.alloc (.cells #[.int .i64 (dZ x.az y.az),.int .i64 (dZ x.bj y.bj)] 3));have cO:U1.heap[bo]?=some (.cells #[.int .i64 (dZ x.az y.az),.int .i64 (dZ x.bj y.bj)] 3 (0,0)):=by rw[←lx,←lX];exact bG _ _
 have aq:Below U.heap.size U U1:=by rw[←lx];exact aY _ _
 have ep:gW W U1:=by rw[←lx];exact G9.out.trans (gW.alloc _ _)
 rw[lX,lx];have fF:=hZ cO;have rX:=hZ ep;have qV:Hid (U1.cell? ⟨b1,1,none⟩=some (.int .i64 x.az)∧U1.cell? ⟨b2,1,none⟩=some (.int .i64 y.az)∧U1.cell? ⟨b1,2,none⟩=some (.int .i64 x.bj)∧U1.cell? ⟨b2,2,none⟩=some (.int .i64 y.bj)):=hZ ⟨(aq.cell aL.out.1).trans hHeld.1,(aq.cell aL.out.2).trans hHeld.2.1,(aq.cell aL.out.1).trans hHeld.2.2.1,(aq.cell aL.out.2).trans hHeld.2.2.2⟩;clear lX lx cO aq ep;refine kk hK (qV.out) fun hHeld=>?_;clear hK K;refine rE 11 fun K hK=>?_;go_simp
 (with_reducible refine(SU bo 2 (dZ x.az y.az) (dZ x.bj y.bj) U1 (aJ fF.out rfl) (aJ fF.out rfl)).mono ?_)
 rintro e9 w9 ⟨rfl,rfl⟩;refine kk hK (qV.out) fun hHeld=>?_;clear hK K;refine tk 12 ?_;refine dn ?_;clear hHeld bu;go_wp2;go_ret;exact⟨rfl,rX.out⟩
theorem MO (x y:bY):ltOf AG x y=dQ bY.az bY.bj x y:=by
 unfold ltOf AG uf dZ dQ
 by_cases h1:x.az<y.az
 · simp[h1]
 · by_cases h2:y.az<x.az
   · have:¬x.az=y.az:=by omega
     simp[h1,h2,this]
   · have h3:x.az=y.az:=by omega
     by_cases h4:x.bj<y.bj
     · simp[h3,h4]
     · by_cases h5:y.bj<x.bj<;>simp[h3,h4,h5]
theorem anZ:SWO (ltOf AG) where
 irrefl x:=by rw[MO];simp[dQ]
 trans x y z h1 h2:=by rw[MO] at*;simp[dQ] at*;omega
 ntrans x y z h1 h2:=by rw[MO] at*;simp[dQ] at*;omega
theorem anC {w:ae} {N:Nat} {v:ai} {l:List bY} (h:OL w N 75 3 bD v l) (hl:l.length≤1000000):
 ax ah 79 #[v,.func (.func 80) #[] #[]] w fun r w'=>r=.returned (.tuple #[])∧∃l',OL w' N 75 3 bD v l'∧l'.Perm l∧Up (ltOf AG) l'∧aO (fun q=>v.ownBlock=some q) w w':=
 acm Tryz.ack 3 (by decide) Tryz.isAgg75 Tryz.sizeOf75 bD (fun _=>rfl) (fun x u hu=>by simp[bD] at hu;rcases hu with rfl|rfl|rfl<;>rfl) AG anZ 80
  (enters_of ad7 (by kernel_rfl) rfl) (fun x y W=>ajb x y W) (fun w=>AnyF.slices_SortFunc_none Tryz.ack none 0 _ w) h (by omega)
theorem ait (A:Option Addr) (n c:Nat) (hn:n<2) (w:ae):ax ah 81 #[.slice A n c] w fun e w'=>e=.returned (.slice A n c)∧w'=w:=by
 have d1:decide (n<2)=true:=by simp[hn]
 go_enter Tryz.func81,Tryz.ntmps81
 go_wp2;go_ret;exact⟨rfl,rfl⟩
def qb (B:bP) (p:Int):List bY:=((B.ls 2).filter fun e=>decide (e.item=p)).map fq
end Go.Proofs.YteeifhlhpiimoaaGreatDoor
end
