/-
  slices.SortedStableFunc of at most 31 entries with known.History's comparison: the stable sort; the like for what stands beside it. Conditions: the row is owned; at most 31 entries.
-/
import Derived.Test.YteeifhlhpiimoaaGreatDoorXAo
import Derived.Test.YteeifhlhpiimoaaGreatDoorXAa
import Derived.Test.YteeifhlhpiimoaaGreatDoorXAm
import Derived.Test.YteeifhlhpiimoaaGreatDoorXAl
import Derived.Test.YteeifhlhpiimoaaGreatDoorXAj
import Derived.Test.YteeifhlhpiimoaaGreatDoorXAi
set_option maxHeartbeats 8000000
set_option maxRecDepth 100000
open And renaming intro→ay
open Array renaming getElem?_eq_some_iff→fU
open Go renaming Calls→ax,TypeId→bF,Value→ai,World→ae,bodyPost_ret→et,rounds_succ→xO,wpList_load_mid→GG,wp_loop_rounds→GH,yieldsIf_load_mid→Oi
open Go.Act renaming put→sV
open Go.Addr renaming add→jy
open Go.Proofs.Tryz renaming func172→adu,ntmps172→aeC,prog→ah,underlying29→pM,underlying36→je,underlying58→B8
open Go.World renaming alloc_heap_new→bG
open List renaming getElem?_eq_getElem→bp,length_map→rP,mem_cons→dG,not_mem_nil→gZ,setIfInBounds_toArray→ta,set_cons_succ→tc,set_cons_zero→td
open Nat renaming le_refl→aB,le_trans→aV,zero_le→ei
section
namespace Go.Proofs.YteeifhlhpiimoaaGreatDoor
open Go Go.RowKit Go.Shelf Go.Sort
attribute [local go_sem] Oper.semAt_some
theorem OL.tag {w:ae} {N:Nat} {v:ai} {l:List af} {m:List TE} (he:m.map TE.e=l):OL w N 33 18 af.cells v l↔OL w N 33 18 TE.cells v m:=by
 subst he;unfold OL;rw[rP,List.flatMap_map]
theorem akn {w:ae} {N g n c:Nat} {l:List TE} {a b:Nat} (h:OL w N 33 18 TE.cells (.slice (some ⟨g,0,none⟩) n c) l) (hl:n≤1000000) (d_:a≤b) (hb:b≤n) (ht:∀p q x y,a≤p→p<q→q<b→l[p]?=some x→l[q]?=some y→x.t<y.t):
 ax ah 156 #[.slice (some ⟨g,0,none⟩) n c,.int .i64 (a:Int),.int .i64 (b:Int),.func (.func 78) #[] #[]] w fun r w'=>r=.returned (.tuple #[])∧Below N w w'∧∃l',OL w' N 33 18 TE.cells (.slice (some ⟨g,0,none⟩) n c) l'∧lR cV l' l a b:=by
 have hn:=h.len.1;subst hn;obtain⟨hm,hz⟩:=ako d_ hb ht;have ri:CmpLays ah 78 #[] TE.cells 18 qT9 g 0 l.toArray.size w:=fun m os dk hs x y=>(ZB x.e y.e _).mono fun e w' q=>⟨q.1,q.2⟩
 have hc:∃cur,w.heap[g]?=some (.cells cur 33 (0,0)):=by
  rcases h.2 with⟨he,_⟩|⟨g',cap,cur,he,_,hc,_⟩
  · cases he
  · cases he;exact⟨cur,hc⟩
 obtain⟨cur,hc⟩:=hc
 have hs:=AnyQ.insertionSortCmpFunc (P:=ah) (α:=TE) {Tryz.Nq with} 18 Tryz.isAgg33 Tryz.sizeOf33 TE.cells (fun _=>rfl) (fun x=>ma x.e) qT9 78 #[] g 0 c a b l.toArray w
  (enters_of Tryz.func78 (by kernel_rfl) rfl) ri (Tn (f:=TE.cells) (k:=18) (by decide) (fun _=>rfl) h) ((fU.1 hc).1) d_ (by simpa using hb) (by simp;omega)
 rw[List.size_toArray] at hs;refine Calls.mono (show ax ah 156 _ _ _ from hs) fun e w' q=>?_;obtain⟨rfl,m,os,rfl⟩:=q;refine⟨rfl,(Ty hc _ os).2.below (Below.refl _ _) ?_ (fun k hk=>?_),_,acn (f:=TE.cells) (k:=18) (by decide) (fun _=>rfl) h _ hz os,hm⟩
 · exact aV (h.lt g rfl).1 (Nat.le_of_lt (h.lt g rfl).2)
 · have:=(h.lt g rfl).1;omega
theorem Sd.aoc {l:List TE} (h:Sd cV l 0 l.length):Up cV l:=by
 unfold Up;rw[List.pairwise_iff_getElem];intro i j hi hj dh;exact h i j _ _ (ei _) dh hj (bp hi) (bp hj)
theorem an4 (l:List af):∀(p q:Nat) (x y:TE),p<q→(lF l 0)[p]?=some x→(lF l 0)[q]?=some y→x.t<y.t:=fun p q x y h hx hy=>by
 have h1:=Kh l 0 p x hx;have h2:=Kh l 0 q y hy;omega
def Qi (w:ae) (N:Nat) (v:ai) (l:List af) (r:Ending) (w':ae):Prop:=r=.returned (.tuple #[])∧OL w' N 33 18 af.cells v (dc (dQ af.az af.id) l)∧Below N w w'
theorem anG {w':ae} {N:Nat} {v:ai} {l:List af} {L:List TE} (ho:OL w' N 33 18 TE.cells v L) (hm:lR cV L (lF l 0) 0 l.length):OL w' N 33 18 af.cells v (dc (dQ af.az af.id) l):=by
 have h1:L.length=l.length:=by rw[hm.perm.length_eq,TH]
 exact(OL.tag (anH hm.perm (Sd.aoc (by rw[h1];exact hm.up)))).2 ho
theorem anI {w:ae} {N:Nat} {v:ai} {l:List af} (h:OL w N 33 18 af.cells v l) (hl:l.length≤31):
 ax ah 172 #[v,.int .i64 l.length,.func (.func 78) #[] #[]] w (Qi w N v l):=by
 have hT:=(OL.tag (acw l 0)).1 h;obtain⟨n,hn⟩:=oQ (l.length);have Mc:=TH l 0;rw[hn] at Mc;have Mz:=an4 l;have HE:=hZ (fun W L (ho:OL W N 33 18 TE.cells v L) (hm:lR cV L (lF l 0) 0 n)=>anG ho (by rw[hn];exact hm))
 have oR:v=.slice none 0 0→ax ah 156 #[v,.int .i64 0,.int .i64 (n:Int),.func (.func 78) #[] #[]] w fun r w'=>r=.returned (.tuple #[])∧Below N w w'∧∃l',OL w' N 33 18 TE.cells v l'∧lR cV l' (lF l 0) 0 n:=fun e=>by
  subst e;have h0:=h.len.1;have hn':=AnyF.insertionSortCmpFunc_none (P:=ah) {Tryz.Nq with} none 0 (.func (.func 78) #[] #[]) w;obtain rfl:n=0:=by omega
  refine Calls.mono (show ax ah 156 _ _ _ from hn') fun e w' q=>?_;rw[q.2];exact⟨q.1,Below.refl _ _,_,hT,List.Perm.refl _,fun _ _=>rfl,fun k h1 h2=>by omega,fun p q x y h1 h2 h3=>by omega⟩
 have My:∀g c,v=.slice (some ⟨g,0,none⟩) n c→∀(a b:Nat) (x y:Int),x=a→y=b→a≤b→b≤n→∀W L,OL W N 33 18 TE.cells v L→(∀p q x y,a≤p→p<q→q<b→L[p]?=some x→L[q]?=some y→x.t<y.t)→ax ah 156 #[v,.int .i64 x,.int .i64 y,.func (.func 78) #[] #[]] W fun r w'=>r=.returned (.tuple #[])∧Below N W w'∧∃l',OL w' N 33 18 TE.cells v l'∧lR cV l' L a b:=fun g c e a b x y hx hy d_ hb W L ho ht=>by
  subst e hx hy;exact akn ho (by omega) d_ hb ht
 have Mi:v=.slice none 0 0∧n=0∨∃g c,v=.slice (some ⟨g,0,none⟩) n c:=by
  rcases h.2 with⟨e,h0⟩|⟨g,cap,cur,e,_⟩
  · exact .inl ⟨e,by omega⟩
  · exact .inr ⟨g,cap,by rw[e,hn]⟩
 rw[hn] at hl⊢;unfold Qi
 by_cases ar:n<20
 · have HW:Hid (ax ah 156 #[v,.int .i64 0,.int .i64 (n:Int),.func (.func 78) #[] #[]] w fun r w'=>r=.returned (.tuple #[])∧Below N w w'∧∃l',OL w' N 33 18 TE.cells v l'∧lR cV l' (lF l 0) 0 n):=hZ (by
    rcases Mi with⟨e,_⟩|⟨g,c,e⟩
    · exact oR e
    · exact My g c e 0 n 0 n rfl rfl (ei _) (aB _) w _ hT fun p q x y _ h2 _=>Mz p q x y h2)
   (have d1:decide ((20:Int)≤(n:Int))=false:=by simp;omega);(have d2:decide ((20:Int)<(n:Int))=false:=by simp;omega);(have d3:decide (20≤n)=false:=by simp;omega);(have d4:decide (20<n)=false:=by simp;omega);clear h hn hT Mc Mz oR My Mi hl ar
   go_enter adu,aeC
   go_wp2;refine GH 1 ?_;rw[xO]
   go_wp2_with (go_at_call 156;(with_reducible refine HW.out.mono ?_);rintro e1 w1 ⟨rfl,aq,L1,iT,l5⟩;have HO:=hZ (HE.out _ _ iT l5);have HB:=hZ aq;clear iT aq l5)
   refine GH 1 ?_;rw[xO];go_wp2
   go_end0
   exact⟨rfl,HO.out,HB.out⟩
 · obtain ⟨g, c, rfl⟩ :∃g c,v=.slice (some ⟨g,0,none⟩) n c:=by
    rcases Mi with⟨_,h0⟩|h
    · omega
    · exact h
   have HI:=hZ (My g c rfl);have HS:=hZ (fun W L (ho:OL W N 33 18 TE.cells (.slice (some ⟨g,0,none⟩) n c) L) (wL:20<n) s1 s2 s3=>show ax ah 232 #[.slice (some ⟨g,0,none⟩) n c,.int .i64 0,.int .i64 20,.int .i64 (n:Int),.func (.func 78) #[] #[]] W _ from an2 n L N g n c 0 20 n (by omega) (by decide) wL (aB _) (by omega) W ho s1 s2 s3);have HO:=hZ hT;have Hx:=hZ Mc;have Lv:=hZ Mz;have HN:Hid (20≤n∧n≤31):=hZ (by omega);have de:Hid (Below N w w):=hZ (Below.refl _ _);(have d1:decide (20≤n)=true:=by simp;omega);(have d2:decide (40≤n)=false:=by simp;omega);(have d3:decide ((20:Int)≤(n:Int))=true:=by simp;omega);(have d4:decide ((40:Int)≤(n:Int))=false:=by simp;omega);clear h hn hT Mc Mz oR My Mi hl ar;obtain⟨T,YI⟩:=oQ (lF l 0);rw[YI] at HO Hx Lv HE;clear YI
   go_enter adu,aeC
   go_wp2
   go_loopw [7,8] (fun av bv wr=>(av=.int .i64 0∧bv=.int .i64 20∧Hid (OL wr N 33 18 TE.cells (.slice (some ⟨g,0,none⟩) n c) T∧Below N w wr))∨(av=.int .i64 20∧bv=.int .i64 40∧Hid (∃L,OL wr N 33 18 TE.cells (.slice (some ⟨g,0,none⟩) n c) L∧lR cV L T 0 20∧Below N w wr))) (fun av _ _=>20-(intOf av).toNat)
   case atStart=>exact .inl ⟨rfl,rfl,hZ ⟨HO.out,de.out⟩⟩
   case round=>
    clear HO de;rcases hrel with⟨rfl,rfl,HR⟩|⟨rfl,rfl,HR⟩
    · have HC:=hZ (HI.out 0 20 0 20 rfl rfl (by decide) HN.out.1 wr T HR.out.1 fun p q x y _ h2 _=>Lv.out p q x y h2)
      go_wp2_with (go_at_call 156;(with_reducible refine HC.out.mono ?_);rintro e1 w1 ⟨rfl,aq,L1,iT,l5⟩;have j_:=hZ (ay iT (ay l5 (HR.out.2.trans aq)));clear iT aq l5)
      go_roundw
      case rel=>exact .inr ⟨rfl,rfl,hZ ⟨_,j_.out⟩⟩
      case measure=>decide
    · obtain ⟨L1, hL⟩ :=HR.out
      have HL:=hZ hL
      have HC:=hZ (HI.out 20 n 20 n rfl rfl HN.out.1 (aB _) wr L1 hL.1 fun p q x y h1 h2 h3 hx hy=>by
       rw[hL.2.1.out p (.inr h1)] at hx;rw[hL.2.1.out q (.inr (by omega))] at hy
       exact Lv.out p q x y h2 hx hy)
      clear hL
      by_cases wL:n=20
      · have d5:decide (20<n)=false:=by simp;omega
        (have d6:decide ((20:Int)<(n:Int))=false:=by simp;omega);have GW:=hZ wL;clear wL
        go_wp2_with (go_at_call 156;(with_reducible refine HC.out.mono ?_);rintro e1 w1 ⟨rfl,aq,L2,iT,l5⟩;have j_:=hZ (ay iT (ay l5 aq));clear iT aq l5)
        refine GH 1 ?_;rw[xO];go_wp2
        go_end0
        have hm:=j_.out.2.1
        have Bp:lR cV L2 T 0 n:=by
         have e:∀k,L2[k]?=L1[k]?:=fun k=>hm.out k (by have:=GW.out;omega);have e2:L2=L1:=List.ext_getElem? e;rw[e2,GW.out];exact HL.out.2.1
        exact⟨rfl,HE.out _ _ j_.out.1 Bp,HL.out.2.2.trans j_.out.2.2⟩
      · have d5:decide (20<n)=true:=by have:=HN.out;simp;omega
        (have d6:decide ((20:Int)<(n:Int))=true:=by have:=HN.out;simp;omega);(have d8:decide ((40:Int)<(n:Int))=false:=by have:=HN.out;simp;omega);(have d9:decide (40<n)=false:=by have:=HN.out;simp;omega);have GW:Hid (20<n):=hZ (by have:=HN.out;omega);clear wL
        go_wp2_with (go_at_call 156;(with_reducible refine HC.out.mono ?_);rintro e1 w1 ⟨rfl,aq,L2,iT,l5⟩
                     have j_:=hZ (ay iT (ay l5 aq))
                     have HSY:=hZ (HS.out w1 L2 iT GW.out (Sd.xj (fun k _ h=>l5.out k (.inl h)) HL.out.2.1.up) l5.up (fun p q x y h1 h2 h3 h4 hx hy=>by
                      rw[l5.out p (.inl h2)] at hx;obtain⟨p',q1,q2,q3⟩:=HL.out.2.1.MG p h1 h2;obtain⟨r',r1,r2,r3⟩:=l5.MG q h3 h4;rw[q3] at hx;rw[r3,HL.out.2.1.out r' (.inr r1)] at hy
                      exact Lv.out p' r' x y (by omega) hx hy))
                     clear iT aq l5)
        refine GH 2 ?_;rw[xO];go_wp2_with fail;refine GH 1 ?_;rw[xO]
        go_wp2_with (go_at_call 232;(with_reducible refine HSY.out.mono ?_);rintro e1 w2 ⟨rfl,aA,L3,sJ,fT⟩;have sc:=hZ (ay sJ (ay fT aA));clear sJ aA fT)
        rw[xO];go_wp2_with fail
        go_end0
        have h1:=HL.out.2.1;have h2:=j_.out.2.1;have h3:=sc.out.2.1
        exact⟨rfl,HE.out _ _ sc.out.1 ⟨h3.perm.trans (h2.perm.trans h1.perm),fun k hk=>(h3.out k hk).trans ((h2.out k (by omega)).trans (h1.out k (by have:=GW.out;omega))),fun k _ hk=>(by
         obtain⟨x,hx⟩:∃x,L3[k]?=some x:=⟨_,bp (by rw[h3.perm.length_eq,h2.perm.length_eq,h1.perm.length_eq,Hx.out];exact hk)⟩;obtain⟨j,hj,e⟩:=List.getElem_of_mem ((h3.perm.trans (h2.perm.trans h1.perm)).mem_iff.1 (List.mem_of_getElem? hx))
         exact⟨j,ei _,by rw[Hx.out] at hj;exact hj,by rw[hx,bp hj,e]⟩),h3.up⟩,HL.out.2.2.trans (j_.out.2.2.trans sc.out.2.2)⟩
theorem anz {w:ae} {N:Nat} {v:ai} {l:List af} (h:OL w N 33 18 af.cells v l) (hl:l.length≤31):
 ax ah 132 #[v,.func (.func 78) #[] #[]] w (Qi w N v l):=by
 obtain⟨A,c,rfl,-,-⟩:=h.slice;have HW:=hZ (anI h hl);obtain⟨n,hn⟩:=oQ (l.length);rw[hn] at HW⊢;clear h hn hl
 go_enter Tryz.func132,Tryz.ntmps132
 go_wp2_with (go_at_call 172;(with_reducible refine HW.out.mono ?_);rintro e1 w1 ⟨rfl,iT,sN⟩)
 go_end0
 exact⟨rfl,iT,sN⟩
theorem anE (b1 b2 N:Nat) (L:List af) (Sp:List af→Prop) (w:ae) (hI:tG ah 127 #[.pointer (some ⟨b1,0,none⟩),.pointer (some ⟨b2,0,none⟩)] tN (fun _=>False) (ej (bV w)) (fun xs=>xs=L) Sp N w) (hN:N≤1000000) (hL:L.length≤31):
 ax ah 77 #[.func (.func 127) #[] #[.pointer (some ⟨b1,0,none⟩),.pointer (some ⟨b2,0,none⟩)],.func (.func 78) #[] #[]] w fun e w'=> ∃v,e=.returned v∧OL w' w.heap.size 33 18 af.cells v (dc (dQ af.az af.id) L)∧Below w.heap.size w w':=by
 have HC:=hZ (air b1 b2 N L Sp w hI hN);clear hI hN
 go_enter Tryz.func77,Tryz.ntmps77
 go_wp2_with (first
  |(go_at_call 131;(with_reducible refine HC.out.mono ?_);rintro e1 w1 ⟨v1,rfl,iT,aq⟩;have HO:=hZ iT;have HB:=hZ aq;clear iT aq)
  |(go_at_call 132;(with_reducible refine(anz HO.out hL).mono ?_);rintro e2 w2 ⟨rfl,sJ,mH⟩;have gL:=hZ sJ;have dD:=hZ mH;clear sJ mH)
  |fail)
 go_ret;exact⟨v1,rfl,gL.out,HB.out.trans dD.out⟩
end Go.Proofs.YteeifhlhpiimoaaGreatDoor
end
section
namespace Go.Proofs.YteeifhlhpiimoaaGreatDoor
open Go Go.RowKit Go.Shelf
attribute [local go_sem] Oper.semAt_some
def vk (B:bP) (p:Int):List Pt:=if (B.ls 1).any fun e=>decide (e.item=p) then(dc (dQ af.az af.id) (iO (B.ls 0) p)).map fP else[]
def EN (B:bP) (p:Int) (w:ae) (e:Ending) (w':ae):Prop:=∃v,e=.returned (.agg #[.string (fk (B.ls 1) p).rn,.string (fk (B.ls 1) p).rd,v])∧OL w' w.heap.size 86 5 fK v (vk B p)∧Below w.heap.size w w'
theorem ZC (B:bP) (p:Int) (w:ae) (hB:dH w (bV w) B) (hl:(B.ls 0).length≤1000000) (wL:(iO (B.ls 0) p).length≤31):ax ah 27 #[B.val,.int .i64 p] w (EN B p w):=by
 have HB:=hZ hB;have HL:=hZ (ay hl wL);have IE:=fun e:af=>hZ (di (e:=e));clear hB hl wL
 go_enter Tryz.func27,Tryz.ntmps27
 go_wp2;have dB:=hZ (At.start w);obtain⟨b0,w0,q1,q2,q3,hf,bU⟩:=dB.out.eX (.cells B.cells.toArray 36);rw[q1,q2];have dB:=hZ hf;have P8:=hZ q3;clear hf q1 q2 q3;obtain⟨b4,w1,q1,q2,q3,hf,aP⟩:=dB.out.eX (.cells #[.string ⟨#[]⟩,.string ⟨#[]⟩,.slice none 0 0] 58);rw[bU] at q1;rw[q1,q2];have dB:=hZ hf;have yq:=hZ q3;clear hf q1 q2 q3 bU;clear aP;have HF:=hZ dB.out.drew;clear dB
 go_cut [5,6] from 11 to 20 (fun v5 v6 U=> ∃(bv:Nat) (ev:af) (qv:Bool),v5=.pointer (some ⟨bv,0,none⟩)∧v6=.bool qv∧Below w.heap.size w U∧aR U bv ev∧U.heap[b4]?=some (.cells jc 58 (0,0))∧U.heap[b0]?=some (.cells B.cells.toArray 36 (0,0))∧(qv=(B.ls 1).any fun e=>decide (e.item=p))∧ev=fk (B.ls 1) p)
 case first=>
  refine cJ (fun U=>U.cell? ⟨b0,1,none⟩=some (.slice (B.ad 1) (B.ls 1).length (B.cp 1))) (cB B HF) fun hHeld=>?_;obtain⟨U0,en⟩:=oQ (w1.drew);rw[en] at HF hHeld⊢;clear en;refine dr 0 1 2 ?_;refine rd [3,10] ?_;refine rc (fun K hK=>?_) ?_
  ·
   go_simp
   (with_reducible refine(uS (p) HF.out).mono ?_)
   rintro e1 V1 ⟨ba,rfl,au⟩;have HF:=hZ au;clear au;refine kk hK (cB B HF) fun hHeld=>?_;clear hK K;refine rd [4,10] ?_;refine rc (fun K hK=>?_) ?_
   ·
    go_simp;obtain⟨bc,V3,q1,q2,-,au⟩:=HF.out.alloc (.cells #[.func (.func 129) #[] #[.pointer (some ⟨ba,0,none⟩)]] 45);rw[q1,q2];have HF:=hZ au;clear au q1 q2;refine kk hK (cB B HF) fun hHeld=>?_;clear hK K;refine rd [5,10] ?_;refine rc (fun K hK=>?_) ?_
    ·
     go_simp
     (with_reducible refine(jX (B.ad 1) (B.ls 1).length (B.cp 1) (some ⟨bc,0,none⟩) 1 1 HF.out).mono ?_)
     rintro e1 V4 ⟨b1,b2,rfl,au⟩;have HF:=hZ au;clear au;refine kk hK (cB B HF) fun hHeld=>?_;clear hK K;refine rd [6,10] ?_;refine rc (fun K hK=>?_) ?_
     ·
      go_simp
      (with_reducible refine(jJ B 1 1 bc [⟨129,#[.pointer (some ⟨ba,0,none⟩)],fun e=>decide (e.item=p)⟩] HF HB ?hc (hn:=by simp)).mono ?_)
      case hc=>intro c hc;simp only[dG,gZ,or_false] at hc;obtain rfl:=hc;exact HF.out.about (by simp)
      rintro e1 V5 ⟨ev,qv,ft,dX,rfl,HF⟩;refine kk hK (cB B HF) fun hHeld=>?_;clear hK K;refine dr 7 8 9 ?_;refine rE 10 fun K hK=>?_;go_simp;obtain⟨bv,V6,q1,q2,HV,HF⟩:=lT HF;rw[q1,q2];clear q1 q2;refine kk hK (cB B HF) fun hHeld=>?_;clear hK K;refine rE 11 fun K hK=>?_;refine me (.tmp 5) (.tmp 19) bv ev (IE _) HF HV ?_;intro V7 bS cF;refine kk hK (aJ (cF.out b0 B.cells.toArray 36 (by simp) (by decide)) (i:=1) rfl) fun hHeld=>?_;clear hK K;refine tk 12 ?_;refine dn ?_;have bJ:=hZ (cF.out b4 #[.string ⟨#[]⟩,.string ⟨#[]⟩,.slice none 0 0] 58 (by simp) (by decide));have de:=hZ (cF.out b0 B.cells.toArray 36 (by simp) (by decide));have HQ:Hid (qv=(B.ls 1).any fun e=>decide (e.item=p)):=hZ (by rw[←dX.out,jH];congr 1;funext e;simp[dw]);have HE:Hid (ev=fk (B.ls 1) p):=hZ (by rw[←ft.out];unfold fk;congr 2;funext e;simp[dw]);clear hHeld;go_wp2
      go_meet
      case rel=>exact⟨bv,ev,qv,rfl,rfl,bS.out.1,bS.out.2,bJ.out,de.out,HQ.out,HE.out⟩
     refine dx fun K hK=>?_;go_simp;obtain⟨bv,V6,q1,q2,HV,HF⟩:=lT HF;rw[q1,q2];clear q1 q2;refine kk hK (cB B HF) fun hHeld=>?_;clear hK K;refine rE 6 fun K hK=>?_;go_simp
     (with_reducible refine(jJ B 1 1 bc [⟨129,#[.pointer (some ⟨ba,0,none⟩)],fun e=>decide (e.item=p)⟩] HF HB ?hc (hn:=by simp)).mono ?_)
     case hc=>intro c hc;simp only[dG,gZ,or_false] at hc;obtain rfl:=hc;exact HF.out.about (by simp)
     rintro e1 V5 ⟨ev,qv,ft,dX,rfl,HF⟩;refine kk hK (cB B HF) fun hHeld=>?_;clear hK K;refine dr 7 8 9 ?_;refine rE 11 fun K hK=>?_;refine me (.tmp 5) (.tmp 19) bv ev (IE _) HF HV ?_;intro V7 bS cF;refine kk hK (aJ (cF.out b0 B.cells.toArray 36 (by simp) (by decide)) (i:=1) rfl) fun hHeld=>?_;clear hK K;refine tk 12 ?_;refine dn ?_;have bJ:=hZ (cF.out b4 #[.string ⟨#[]⟩,.string ⟨#[]⟩,.slice none 0 0] 58 (by simp) (by decide));have de:=hZ (cF.out b0 B.cells.toArray 36 (by simp) (by decide));have HQ:Hid (qv=(B.ls 1).any fun e=>decide (e.item=p)):=hZ (by rw[←dX.out,jH];congr 1;funext e;simp[dw]);have HE:Hid (ev=fk (B.ls 1) p):=hZ (by rw[←ft.out];unfold fk;congr 2;funext e;simp[dw]);clear hHeld;go_wp2
     go_meet
     case rel=>exact⟨bv,ev,qv,rfl,rfl,bS.out.1,bS.out.2,bJ.out,de.out,HQ.out,HE.out⟩
    refine dx fun K hK=>?_;go_simp;obtain⟨bv,V6,q1,q2,HV,HF⟩:=lT HF;rw[q1,q2];clear q1 q2;refine kk hK (cB B HF) fun hHeld=>?_;clear hK K;refine rE 5 fun K hK=>?_;go_simp
    (with_reducible refine(jX (B.ad 1) (B.ls 1).length (B.cp 1) (some ⟨bc,0,none⟩) 1 1 HF.out).mono ?_)
    rintro e1 V4 ⟨b1,b2,rfl,au⟩;have HF:=hZ au;clear au;refine kk hK (cB B HF) fun hHeld=>?_;clear hK K;refine rE 6 fun K hK=>?_;go_simp
    (with_reducible refine(jJ B 1 1 bc [⟨129,#[.pointer (some ⟨ba,0,none⟩)],fun e=>decide (e.item=p)⟩] HF HB ?hc (hn:=by simp)).mono ?_)
    case hc=>intro c hc;simp only[dG,gZ,or_false] at hc;obtain rfl:=hc;exact HF.out.about (by simp)
    rintro e1 V5 ⟨ev,qv,ft,dX,rfl,HF⟩;refine kk hK (cB B HF) fun hHeld=>?_;clear hK K;refine dr 7 8 9 ?_;refine rE 11 fun K hK=>?_;refine me (.tmp 5) (.tmp 19) bv ev (IE _) HF HV ?_;intro V7 bS cF;refine kk hK (aJ (cF.out b0 B.cells.toArray 36 (by simp) (by decide)) (i:=1) rfl) fun hHeld=>?_;clear hK K;refine tk 12 ?_;refine dn ?_;have bJ:=hZ (cF.out b4 #[.string ⟨#[]⟩,.string ⟨#[]⟩,.slice none 0 0] 58 (by simp) (by decide));have de:=hZ (cF.out b0 B.cells.toArray 36 (by simp) (by decide));have HQ:Hid (qv=(B.ls 1).any fun e=>decide (e.item=p)):=hZ (by rw[←dX.out,jH];congr 1;funext e;simp[dw]);have HE:Hid (ev=fk (B.ls 1) p):=hZ (by rw[←ft.out];unfold fk;congr 2;funext e;simp[dw]);clear hHeld;go_wp2
    go_meet
    case rel=>exact⟨bv,ev,qv,rfl,rfl,bS.out.1,bS.out.2,bJ.out,de.out,HQ.out,HE.out⟩
   refine dx fun K hK=>?_;go_simp;obtain⟨bv,V6,q1,q2,HV,HF⟩:=lT HF;rw[q1,q2];clear q1 q2;refine kk hK (cB B HF) fun hHeld=>?_;clear hK K;refine rE 4 fun K hK=>?_;go_simp;obtain⟨bc,V3,q1,q2,-,au⟩:=HF.out.alloc (.cells #[.func (.func 129) #[] #[.pointer (some ⟨ba,0,none⟩)]] 45);rw[q1,q2];have HF:=hZ au;clear au q1 q2;refine kk hK (cB B HF) fun hHeld=>?_;clear hK K;refine rE 5 fun K hK=>?_;go_simp
   (with_reducible refine(jX (B.ad 1) (B.ls 1).length (B.cp 1) (some ⟨bc,0,none⟩) 1 1 HF.out).mono ?_)
   rintro e1 V4 ⟨b1,b2,rfl,au⟩;have HF:=hZ au;clear au;refine kk hK (cB B HF) fun hHeld=>?_;clear hK K;refine rE 6 fun K hK=>?_;go_simp
   (with_reducible refine(jJ B 1 1 bc [⟨129,#[.pointer (some ⟨ba,0,none⟩)],fun e=>decide (e.item=p)⟩] HF HB ?hc (hn:=by simp)).mono ?_)
   case hc=>intro c hc;simp only[dG,gZ,or_false] at hc;obtain rfl:=hc;exact HF.out.about (by simp)
   rintro e1 V5 ⟨ev,qv,ft,dX,rfl,HF⟩;refine kk hK (cB B HF) fun hHeld=>?_;clear hK K;refine dr 7 8 9 ?_;refine rE 11 fun K hK=>?_;refine me (.tmp 5) (.tmp 19) bv ev (IE _) HF HV ?_;intro V7 bS cF;refine kk hK (aJ (cF.out b0 B.cells.toArray 36 (by simp) (by decide)) (i:=1) rfl) fun hHeld=>?_;clear hK K;refine tk 12 ?_;refine dn ?_;have bJ:=hZ (cF.out b4 #[.string ⟨#[]⟩,.string ⟨#[]⟩,.slice none 0 0] 58 (by simp) (by decide));have de:=hZ (cF.out b0 B.cells.toArray 36 (by simp) (by decide));have HQ:Hid (qv=(B.ls 1).any fun e=>decide (e.item=p)):=hZ (by rw[←dX.out,jH];congr 1;funext e;simp[dw]);have HE:Hid (ev=fk (B.ls 1) p):=hZ (by rw[←ft.out];unfold fk;congr 2;funext e;simp[dw]);clear hHeld;go_wp2
   go_meet
   case rel=>exact⟨bv,ev,qv,rfl,rfl,bS.out.1,bS.out.2,bJ.out,de.out,HQ.out,HE.out⟩
  refine dx fun K hK=>?_;go_simp;obtain⟨bv,V6,q1,q2,HV,HF⟩:=lT HF;rw[q1,q2];clear q1 q2;refine kk hK (cB B HF) fun hHeld=>?_;clear hK K;refine rE 3 fun K hK=>?_;go_simp
  (with_reducible refine(uS (p) HF.out).mono ?_)
  rintro e1 V1 ⟨ba,rfl,au⟩;have HF:=hZ au;clear au;refine kk hK (cB B HF) fun hHeld=>?_;clear hK K;refine rE 4 fun K hK=>?_;go_simp;obtain⟨bc,V3,q1,q2,-,au⟩:=HF.out.alloc (.cells #[.func (.func 129) #[] #[.pointer (some ⟨ba,0,none⟩)]] 45);rw[q1,q2];have HF:=hZ au;clear au q1 q2;refine kk hK (cB B HF) fun hHeld=>?_;clear hK K;refine rE 5 fun K hK=>?_;go_simp
  (with_reducible refine(jX (B.ad 1) (B.ls 1).length (B.cp 1) (some ⟨bc,0,none⟩) 1 1 HF.out).mono ?_)
  rintro e1 V4 ⟨b1,b2,rfl,au⟩;have HF:=hZ au;clear au;refine kk hK (cB B HF) fun hHeld=>?_;clear hK K;refine rE 6 fun K hK=>?_;go_simp
  (with_reducible refine(jJ B 1 1 bc [⟨129,#[.pointer (some ⟨ba,0,none⟩)],fun e=>decide (e.item=p)⟩] HF HB ?hc (hn:=by simp)).mono ?_)
  case hc=>intro c hc;simp only[dG,gZ,or_false] at hc;obtain rfl:=hc;exact HF.out.about (by simp)
  rintro e1 V5 ⟨ev,qv,ft,dX,rfl,HF⟩;refine kk hK (cB B HF) fun hHeld=>?_;clear hK K;refine dr 7 8 9 ?_;refine rE 11 fun K hK=>?_;refine me (.tmp 5) (.tmp 19) bv ev (IE _) HF HV ?_;intro V7 bS cF;refine kk hK (aJ (cF.out b0 B.cells.toArray 36 (by simp) (by decide)) (i:=1) rfl) fun hHeld=>?_;clear hK K;refine tk 12 ?_;refine dn ?_;have bJ:=hZ (cF.out b4 #[.string ⟨#[]⟩,.string ⟨#[]⟩,.slice none 0 0] 58 (by simp) (by decide));have de:=hZ (cF.out b0 B.cells.toArray 36 (by simp) (by decide));have HQ:Hid (qv=(B.ls 1).any fun e=>decide (e.item=p)):=hZ (by rw[←dX.out,jH];congr 1;funext e;simp[dw]);have HE:Hid (ev=fk (B.ls 1) p):=hZ (by rw[←ft.out];unfold fk;congr 2;funext e;simp[dw]);clear hHeld;go_wp2
  go_meet
  case rel=>exact⟨bv,ev,qv,rfl,rfl,bS.out.1,bS.out.2,bJ.out,de.out,HQ.out,HE.out⟩
 case rest=>
 obtain⟨bv,ev,qv,rfl,rfl,aai,aaj,YU,YQ,vu,Zg⟩:=hcut;have bS:=hZ (ay aai aaj);have bJ:=hZ YU;have de:=hZ YQ;have HQ:=hZ vu;have HE:=hZ Zg;clear aai aaj YU YQ vu Zg;cases qv
 · go_wp2_with (first
    |(refine wpList_build rfl 58 #[] rfl jc (by kernel_rfl) ?_)
    | ((with_reducible refine nK rfl 58 (.tmp 4) (.tmp 23) rfl rfl b4 jc jc rfl ?hy ?hi bJ.out ?ho ?h1 ?_);(case hy=>rfl);(case hi=>kernel_rfl);(case ho=>rfl);(case h1=>exact vJ _ _ _ rfl);intro w9 jl lB
       have wb:=hZ jl;have Hw:=hZ lB
       clear jl lB)
    |fail)
   have Se:w9.rangeAt b4 0 jc.toList:=fun k v hv=>aJ wb.out (by simpa using hv);refine et (vM rfl _ _ b4 jc.toList _ rfl Se B8 rfl (by kernel_rfl)) rfl ?_
   have hn:fk (B.ls 1) p=aW:=by
    unfold fk;have h1:=HQ.out
    have:(B.ls 1).filter (fun e=>decide (e.item=p))=[]:=by
     rw[List.filter_eq_nil_iff];intro e he q;rw[eq_comm,List.any_eq_false] at h1;exact h1 e he q
    rw[this];rfl
   refine⟨.slice none 0 0,?_,?_,Hw.out.below bS.out.1 (aB _) (fun k hk=>by have:=yq.out;omega)⟩
   · rw[hn];rfl
   · unfold vk
     rw[←HQ.out,if_neg (by decide)];exact OL.nil
 · have hF:At w wc.drew [(b0,.cells B.cells.toArray 36 (0,0)),(b4,.cells jc 58 (0,0)),(bv,.cells ev.cells.toArray 33 (0,0))]:=((((At.start w).below.trans bS.out.1|>fun hb=>(⟨hb,fun p h=>by cases h⟩:At w wc [])).cons bS.out.2).cons bJ.out|>.cons de.out).drew
   clear HF;have HF:=hZ hF;clear hF;go_wp2;refine cJ (fun U=>U.cell? ⟨b0,0,none⟩=some (.slice (B.ad 0) (B.ls 0).length (B.cp 0))) (cB B HF) fun hHeld=>?_;obtain⟨U0,en⟩:=oQ (wc.drew);rw[en] at HF hHeld⊢;clear en;refine dr 0 1 2 ?_;refine rE 3 fun K hK=>?_;go_simp
   (with_reducible refine(uS (p) HF.out).mono ?_)
   rintro e1 V1 ⟨ba,rfl,au⟩;have HF:=hZ au;clear au;refine kk hK (cB B HF) fun hHeld=>?_;clear hK K;refine rE 4 fun K hK=>?_;go_simp;obtain⟨bc,V3,q1,q2,-,au⟩:=HF.out.alloc (.cells #[.func (.func 129) #[] #[.pointer (some ⟨ba,0,none⟩)]] 45);rw[q1,q2];have HF:=hZ au;clear au q1 q2;refine kk hK (cB B HF) fun hHeld=>?_;clear hK K;refine rE 5 fun K hK=>?_;go_simp
   (with_reducible refine(jX (B.ad 0) (B.ls 0).length (B.cp 0) (some ⟨bc,0,none⟩) 1 1 HF.out).mono ?_)
   rintro e1 V4 ⟨b1,b2,rfl,au⟩;have HF:=hZ au;clear au;refine kk hK (cB B HF) fun hHeld=>?_;clear hK K;refine rE 6 fun K hK=>?_;go_simp
   (with_reducible refine(anE b1 b2 _ _ _ _ (aaJ HF.out [⟨129,#[.pointer (some ⟨ba,0,none⟩)],fun e=>decide (e.item=p)⟩] (B.ls 0) (B.ad 0) (some ⟨bc,0,none⟩) (B.ls 0).length (B.cp 0) 1 1 b1 b2 rfl (aV (HB.out.cap 0 (by decide)).1 (HB.out.cap 0 (by decide)).2) rfl (by decide) (by simp) (by simp) (HB.out.at_ 0 (by decide)) bc rfl 45 (by simp[jB.val]) ?hc) HL.out.1 ?hL).mono ?_)
   case hc=>intro c hc;simp only[dG,gZ,or_false] at hc;obtain rfl:=hc;exact HF.out.about (by simp)
   case hL=>rw[Xn];exact HL.out.2
   rintro e1 V8 ⟨v8,rfl,yX,eN⟩;rw[Xn] at yX;have Ao:=hZ (yX.base HF.out.below.size);have au:=HF.out.step eN;have HF:=hZ au;clear au yX eN;refine kk hK (cB B HF) fun hHeld=>?_;clear hK K;refine tk 7 ?_;refine dn ?_;obtain⟨hs,Mm⟩:=oQ (dc (dQ af.az af.id) (iO (B.ls 0) p));(have hlen:hs.length≤31:=by rw[←Mm,(xt _).length_eq];exact HL.out.2);rw[Mm] at Ao;have G':=hZ Mm;obtain⟨A8,c8,rfl,ajW,ap1⟩:=Ao.out.slice;obtain⟨n8,Fz⟩:=oQ (hs.length);rw[Fz] at Ao hlen ajW⊢;have Lb:=hZ Fz;have dI:Hid (aR V8 bv ev):=hZ (HF.out.has (bv,.cells ev.cells.toArray 33 (0,0)) (by simp));have Es:Hid (V8.heap[b4]?=some (.cells jc 58 (0,0))):=hZ (HF.out.has (b4,.cells jc 58 (0,0)) (by simp));have fi:Hid (Below w.heap.size w V8):=hZ HF.out.below;have Km:=dI.out.cell (i:=15) rfl;have Kn:=dI.out.cell (i:=16) rfl;clear Mm Fz hHeld HF bS bJ de;have zL:IntKind.i64.wrap ((n8:Int)-64)=(n8:Int)-64:=by rw[IntKind.wrap_i64];omega
   by_cases lz:c8=0
   · obtain rfl:n8=0:=by omega
     subst lz;have oR:hs=[]:=List.eq_nil_of_length_eq_zero Lb.out
     go_wp2_with (first
      |(refine wpList_build rfl 58 #[(0,.tmp 32)] rfl #[.string ev.rn,.string ev.rd,.slice none 0 0] (by kernel_rfl) ?_)
      | ((with_reducible refine nK rfl 58 (.tmp 8) (.tmp 33) rfl rfl V8.heap.size #[.string ev.rn,.string ev.rd,.slice none 0 0] jc rfl ?hy ?hi (bG _ _) ?ho ?h1 ?_);(case hy=>rfl);(case hi=>kernel_rfl);(case ho=>rfl);(case h1=>exact vJ _ _ _ rfl);intro w9 jl lB
         have cZ:Below V8.heap.size V8 w9:=lB.below (aY V8 _) (aB _) (fun k hk=>by omega);obtain⟨b8,eN⟩:=oQ (V8.heap.size);have HO9:=hZ (Ao.out.below cZ (aB _));rw[eN] at jl cZ⊢;have wb:=hZ jl;have eK:=hZ cZ;have gj:=hZ eN
         clear jl lB cZ eN)
      |fail)
     all_goals
      refine GH 1 ?_;rw[xO];obtain⟨v,hv⟩:=oQ (Value.slice none 0 0);have iA:Hid (OL w9 (b8+1) 86 5 fK v (hs.map fP)):=hZ (by rw[←hv,oR];exact OL.nil);have lJ:Hid (w9.heap[b8]?=some (.cells #[.string ev.rn,.string ev.rd,v] 58 (0,0))):=hZ (by rw[←hv];exact wb.out);have cy:Hid (Below b8 V8 w9):=eK;clear hv oR
      have tY:v.oneCell'=true:=by
       obtain⟨A9,c9,e9,_,_⟩:=iA.out.slice;rw[e9];rfl
      have CL:=hZ tY;have GX:Hid (w9.heap[b4]?=some (.cells jc 58 (0,0))):=hZ ((cy.out.block b4 (by have:=gj.out;have:=(fU.1 Es.out).1;omega)).trans Es.out);have Hd:Hid (w9.rangeAt b8 0 [.string ev.rn,.string ev.rd,v]):=hZ (fun k u hv=>aJ lJ.out (by simpa using hv));clear tY
      go_wp2_with (first
       |((with_reducible refine GG rfl 58 (.tmp 8) rfl b8 0 ?hx [.string ev.rn,.string ev.rd,v] _ Hd.out B8 rfl ?hi ?_);(case hx=>rfl);(case hi=>kernel_rfl))
       | ((with_reducible refine nK rfl 58 (.tmp 4) (.tmp 56) rfl rfl b4 #[.string ev.rn,.string ev.rd,v] jc rfl ?hy ?hi GX.out ?ho ?h1 ?_);(case hy=>rfl);(case hi=>kernel_rfl);(case ho=>rfl);(case h1=>exact vJ _ _ _ CL.out);intro TQ yL zd
          have OQ:=hZ yL;have Hv:=hZ zd
          clear yL zd)
       |fail)
      have FG:TQ.rangeAt b4 0 [.string ev.rn,.string ev.rd,v]:=fun k u hv=>aJ OQ.out (by simpa using hv);refine et (vM rfl _ _ b4 [.string ev.rn,.string ev.rd,v] _ rfl FG B8 rfl (by kernel_rfl)) rfl ?_;have ajH:=(fU.1 Es.out).1;have eN:=gj.out;have oO:=fi.out.size;have YV:=yq.out;refine⟨v,?_,?_,?_⟩
      · rw[←HE.out]
      · unfold vk
        rw[←HQ.out,if_pos rfl,G'.out];exact(iA.out.keep fun g hg=>Hv.out.block g (iA.out.lt g hg).2 (fun e=>by have:=(iA.out.lt g hg).1;omega)).base (by omega)
      · exact Hv.out.below (fi.out.trans (cy.out.mono (by omega))) (aB _) (fun k hk=>by omega)
   · obtain ⟨g8,rfl⟩:∃g8,A8=some ⟨g8,0,none⟩:=by
      rcases Ao.out.2 with⟨e,_⟩|⟨g8,cap,cur,e,_⟩
      · injection e with _ _ e;exact absurd e lz
      · injection e with e _ _;exact⟨g8,e⟩
     have hmx:max 0 ((n8:Int)-64)=0:=by omega
     go_wp2_with (first
      |(refine wpList_build rfl 58 #[(0,.tmp 32)] rfl #[.string ev.rn,.string ev.rd,.slice none 0 0] (by kernel_rfl) ?_)
      | ((with_reducible refine nK rfl 58 (.tmp 8) (.tmp 33) rfl rfl V8.heap.size #[.string ev.rn,.string ev.rd,.slice none 0 0] jc rfl ?hy ?hi (bG _ _) ?ho ?h1 ?_);(case hy=>rfl);(case hi=>kernel_rfl);(case ho=>rfl);(case h1=>exact vJ _ _ _ rfl);intro w9 jl lB
         have cZ:Below V8.heap.size V8 w9:=lB.below (aY V8 _) (aB _) (fun k hk=>by omega);obtain⟨b8,eN⟩:=oQ (V8.heap.size);have HO9:=hZ (Ao.out.below cZ (aB _));rw[eN] at jl cZ⊢;have wb:=hZ jl;have eK:=hZ cZ;have gj:=hZ eN
         clear jl lB cZ eN)
      |fail)
     clear Km Kn zL hmx;(have Zs:g8<b8:=by have:=(Ao.out.lt g8 rfl).2;have:=gj.out;omega);have HG8:=hZ Zs;clear Zs
     go_loopw [41] (fun vi wr=> ∃(k:Nat) (v:ai),vi=.int .i64 (k:Int)∧k≤n8∧wr.heap[b8]?=some (.cells #[.string ev.rn,.string ev.rd,v] 58 (0,0))∧OL wr (b8+1) 86 5 fK v ((hs.take k).map fP)∧Below b8 V8 wr) (fun vi _=>match vi with|.int _ k=>n8-k.toNat|_=>0)
     case atStart=>exact⟨0,_,rfl,by omega,wb.out,OL.nil,eK.out⟩
     case round=>
      obtain⟨k,v,rfl,hk,lY,FE,aC⟩:=hrel;have lJ:=hZ lY;have iA:=hZ FE;have cy:=hZ aC;clear lY FE aC
      by_cases ar:k<n8
      · have z1:(0:Int)≤(k:Int):=by omega
        (have z2:(k:Int)<(n8:Int):=by omega);(have NG:IntKind.i64.wrap ((k:Int)+1)=((k+1:Nat):Int):=by rw[IntKind.wrap_i64];omega);(have d1:decide (k<n8)=true:=by simp[ar]);obtain⟨e,he⟩:∃e,hs[k]?=some e:=⟨_,bp (by rw[Lb.out];exact ar)⟩
        have cP:wr.rangeAt g8 (k*18) e.cells:=by
         have h1:=eW.iW (Y:=fun _=>True) (Ao.out.below (cy.out.mono (by have:=gj.out;omega)) (aB _)) (fun _ _=>trivial);obtain⟨b,hb,-,h2⟩:=h1 k e he;injection hb with hb;injection hb with hb _ _;rw[hb];exact h2
        have cX:=hZ cP;(have DA:((hs.take k).map fP).length=k:=by rw[rP,List.length_take,Lb.out];omega);have wy:=hZ DA;(have eP:(hs.take (k+1)).map fP=(hs.take k).map fP++[fP e]:=by rw[List.take_add_one,he];simp);have kI:=hZ eP;obtain⟨A9,c9,rfl,-,-⟩:=iA.out.slice;rw[DA] at iA lJ;clear cP he DA eP
        go_wp2_with (first
         |(with_reducible refine lx (.tmp 43) g8 (k*18) cX.out (IE e).out Tryz.underlying33 ?_)
         | ((with_reducible refine oh rfl (.tmp 10) (.tmp 44) rfl rfl e rfl rfl ?hi ?ho ?_);(case hi=>exact(IE e).out);(case ho=>rfl);intro w7 gS dE sM
            obtain⟨be,fS⟩:=oQ (wr.heap.size);rw[fS] at gS⊢;have rT:=hZ fS;have jD:=hZ dE;have OR:=ak dE lJ;have aht:=hZ (iA.out.below dE (aB _));have y0:=aJ (i:=2) OR.out rfl;have y5:=gS.cell (i:=5) rfl;have TY:=gS.cell (i:=11) rfl;have TZ:=gS.cell (i:=12) rfl;have T0:=gS.cell (i:=13) rfl;have T3:=gS.cell (i:=14) rfl;have PL:Hid (b8<w7.heap.size):=hZ (fU.1 OR.out).1
            clear fS dE sM gS)
         |(refine wpList_build rfl 86 #[(0,.tmp 48),(1,.tmp 50)] rfl (fK (fP e)).toArray (by kernel_rfl) ?_)
         | ((with_reducible refine ao8 rfl (.tmp 51) rfl (fP e) ?hx ?_);(case hx=>rfl)
            intro bn V gw aC Jq oS;have v_:=hZ gw;have g_:=hZ aC;have Ph:=hZ Jq;have PJ:=hZ oS
            clear gw aC Jq oS)
         | (at_builtin;refine nJ rfl (.tmp 46) (.tmp 52) 56 rfl QF (.slice A9 k c9) ((hs.take k).map fP) k wy.out rfl (aht.out.below (g_.out.mono (by have:=v_.out;omega)) (aB _)) (fP e) bn (fK (fP e)).toArray rfl Ph.out rfl rfl (fun u hu=>by simp[fK] at hu;rcases hu with rfl|rfl|rfl|rfl|rfl<;>rfl) (by have:=wy.out;unfold maxLen;omega) (by have:=wy.out;omega) (by have:=PJ.out;have:=v_.out;have:=PL.out;omega) ?_
            intro g' fI zL iT ep lD kx aq;have lL:=hZ iT;have Mh:zL.heap[b8]?=some (.cells #[.string ev.rn,.string ev.rd,.slice A9 k c9] 58 (0,0)):=(aq.block b8 (by omega)).trans ((g_.out.block b8 (by have:=v_.out;have:=PL.out;omega)).trans OR.out);have ahi:=hZ Mh;have aF:=hZ aq;have apM:=hZ kx;have fj:=hZ lD;have c1:=aJ (i:=2) Mh rfl;have f1:=cY Mh 2
            clear iT ep lD kx aq Mh)
         |fail)
        have YS:Below b8 V8 (zL.setCell ⟨b8,2,none⟩ (.slice (some ⟨g',0,none⟩) (k+1) fI)):=by
         have h1:=cy.out.trans ((jD.out.mono (by have:=rT.out;have:=(fU.1 lJ.out).1;omega)).trans ((g_.out.mono (by have:=v_.out;have:=PL.out;omega)).trans (aF.out.mono (by omega))));exact h1.setCell (p:=⟨b8,2,none⟩) (aB _) _
        have ZW:OL (zL.setCell ⟨b8,2,none⟩ (.slice (some ⟨g',0,none⟩) (k+1) fI)) (b8+1) 86 5 fK (.slice (some ⟨g',0,none⟩) (k+1) fI) ((hs.take (k+1)).map fP):=by
         rw[kI.out];exact lL.out.keep fun q hq=>Below.heap_setCell _ _ _ _ (fun e=>by have:=(lL.out.lt q hq).1;simp only at e;omega)
        have kC:=hZ (ay (S4 ahi.out (.slice (some ⟨g',0,none⟩) (k+1) fI)) (ay ZW YS));clear YS ZW
        go_round
        case rel=>exact⟨k+1,_,rfl,by omega,kC.out.1,kC.out.2.1,kC.out.2.2⟩
        case measure=>simp;omega
      · have d1:decide (k<n8)=false:=by simp;omega
        (obtain rfl:k=n8:=by omega);rw[List.take_of_length_le (by rw[Lb.out];omega)] at iA
        have tY:v.oneCell'=true:=by
         obtain⟨A9,c9,e9,_,_⟩:=iA.out.slice;rw[e9];rfl
        have CL:=hZ tY;have GX:Hid (wr.heap[b4]?=some (.cells jc 58 (0,0))):=hZ ((cy.out.block b4 (by have:=gj.out;have:=(fU.1 Es.out).1;omega)).trans Es.out);have Hd:Hid (wr.rangeAt b8 0 [.string ev.rn,.string ev.rd,v]):=hZ (fun k u hv=>aJ lJ.out (by simpa using hv));clear tY
        go_wp2_with (first
         |((with_reducible refine GG rfl 58 (.tmp 8) rfl b8 0 ?hx [.string ev.rn,.string ev.rd,v] _ Hd.out B8 rfl ?hi ?_);(case hx=>rfl);(case hi=>kernel_rfl))
         | ((with_reducible refine nK rfl 58 (.tmp 4) (.tmp 56) rfl rfl b4 #[.string ev.rn,.string ev.rd,v] jc rfl ?hy ?hi GX.out ?ho ?h1 ?_);(case hy=>rfl);(case hi=>kernel_rfl);(case ho=>rfl);(case h1=>exact vJ _ _ _ CL.out);intro TQ yL zd
            have OQ:=hZ yL;have Hv:=hZ zd
            clear yL zd)
         |fail)
        have FG:TQ.rangeAt b4 0 [.string ev.rn,.string ev.rd,v]:=fun k u hv=>aJ OQ.out (by simpa using hv);refine et (vM rfl _ _ b4 [.string ev.rn,.string ev.rd,v] _ rfl FG B8 rfl (by kernel_rfl)) rfl ?_;have ajH:=(fU.1 Es.out).1;have eN:=gj.out;have oO:=fi.out.size;have YV:=yq.out;refine⟨v,?_,?_,?_⟩
        · rw[←HE.out]
        · unfold vk
          rw[←HQ.out,if_pos rfl,G'.out];exact(iA.out.keep fun g hg=>Hv.out.block g (iA.out.lt g hg).2 (fun e=>by have:=(iA.out.lt g hg).1;omega)).base (by omega)
        · exact Hv.out.below (fi.out.trans (cy.out.mono (by omega))) (aB _) (fun k hk=>by omega)
end Go.Proofs.YteeifhlhpiimoaaGreatDoor
end
section
namespace Go.Proofs.YteeifhlhpiimoaaGreatDoor
open Go Go.RowKit Go.Shelf Wr
attribute [local go_sem] Oper.semAt_some
structure St (w W:ae) (L:List (Nat×Obj)) (Bs:List bP):Prop where
 at_:At w W L
 eA:∀B∈Bs,dH W (bV W) B
 pow:dY W
section
variable {w W W':ae} {L:List (Nat×Obj)} {Bs:List bP}
theorem St.start (hp:dY w):St w w [] []:=⟨At.start w,fun B h=>absurd h (by simp),hp⟩
theorem St.step (h:St w W L Bs) (hb:Below W.heap.size W W'):St w W' L Bs:=⟨h.at_.step hb,fun B hB=>(h.eA B hB).below hb,h.pow.below hb⟩
theorem St.drew (h:St w W L Bs):St w W.drew L Bs:=h.step (Below.drew (Below.refl _ _))
theorem St.add (h:St w W L Bs) {B:bP} (hB:dH W (bV W) B):St w W L (B::Bs):=⟨h.at_,fun C hC=>by rcases dG.1 hC with rfl|hC;exact hB;exact h.eA C hC,h.pow⟩
theorem St.put (h:St w W L Bs) {k:Nat} {o:Obj} (ho:W.heap[k]?=some o):St w W ((k,o)::L) Bs:=⟨h.at_.cons ho,h.eA,h.pow⟩
theorem St.row (h:St w W L Bs) {b:Nat} {cs:List ai} {t:bF} (hm:(b,.cells cs.toArray t (0,0))∈L):W.rangeAt b 0 cs:=bl (h.at_.has _ hm)
end
theorem xA {P:Program} {ops:Array Oper} {rest:List Oper} {o:Oper} {a:Act} {w V:ae} {L:List (Nat×Obj)} {Bs:List bP} {Q:Exit→Act→ae→Prop} {old:Array ai} (ct:o.guard=none) (T:bF) (x y:Operand) (ho:o.op=.store T x y) (hd:o.dst=none) (cs:Array ai)
 (hx:a.eval x=.pointer (some ⟨V.heap.size,0,none⟩)) (hy:a.eval y=.agg cs) (hi:(P.info? T).map (·.size)=some cs.size) (hold:old.size=cs.size) (h1:cs.all (·.oneCell')=true) (hSt:St w V L Bs)
 (hk:∀b V',V.heap.size=b→St w V' ((b,.cells cs T (0,0))::L) Bs→wpList P ops Q rest a V'):wpList P ops Q (o::rest) a (V.alloc (.cells old T)):=by
 refine nK ct T x y ho hd V.heap.size cs old hx hy hi (bG _ _) hold h1 fun V' h2 h3=>?_;exact hk _ V' rfl ((hSt.step (h3.below (aY V _) (aB _) (fun k hk=>by omega))).put h2)
theorem OL.first {α:Type} {w:ae} {B k n:Nat} {T:bF} {f:α→List ai} {v x:ai} {l:List α} (h:OL w B T k f v l) (hn:l.length=n) (hl:0<n) (hk:0<k) (hx:(l.flatMap f)[0]?=some x):∃g cap cur,v=.slice (some ⟨g,0,none⟩) n cap∧w.heap[g]?=some (.cells cur T (0,0))∧cur[0]?=some x:=by
 subst hn;rcases h.2 with⟨e1,h0⟩|⟨g,cap,cur,e1,hb,hc,h4,h5,h6,h7⟩
 · omega
 · refine⟨g,cap,cur,e1,hc,?_⟩
   have hm:0<l.length*k:=Nat.mul_pos hl hk;(have h8:(cur.toList.take (l.length*k))[0]?=some x:=by rw[h7];exact hx);rw[List.getElem?_take,if_pos hm] at h8;simpa using h8
theorem ab1 (n:Nat):(uj n).size=32:=by
 show(Ka n).toArray.size=32;simp[Ka]
theorem QG:∀e∈lv,e.oE:=by
 have h1:=ab1 1;have h2:=ab1 2;intro e he;simp only[lv,dG,gZ,or_false] at he;rcases he with rfl|rfl|rfl|rfl|rfl|rfl|rfl|rfl
 · exact⟨by decide,by decide,by decide,by decide,by decide,by decide,by decide⟩
 · exact⟨by decide,by decide,by decide,by decide,by decide,by decide,by decide⟩
 · exact⟨by decide,by decide,by decide,by decide,by decide,by decide,by decide⟩
 · exact⟨by decide,by decide,by decide,by decide,by decide,by decide,by show(uj 1).size≤65536;omega⟩
 · exact⟨by decide,by decide,by decide,by decide,by decide,by decide,by show(uj 2).size≤65536;omega⟩
 · exact⟨by decide,by decide,by decide,by decide,by decide,by decide,by decide⟩
 · exact⟨by decide,by decide,by decide,by decide,by decide,by decide,by decide⟩
 · exact⟨by decide,by decide,by decide,by decide,by decide,by decide,by decide⟩
def ow (B:bP) (day:Int):Prop:=∀j,j<9→B.ls j=gB lv day j
def LA (ps:List Pt) (w:ae) (e:Ending) (w':ae):Prop:=∃v,e=.returned (.agg #[.string ⟨#[49]⟩,.string ⟨#[49,48]⟩,v])∧OL w' w.heap.size 86 5 fK v ps∧Below w.heap.size w w'
theorem RI (B:bP) (l0:List af) (ps:List Pt) (h0:B.ls 0=l0) (h1:B.ls 1=[AQ]) (hl:l0.length≤1000000) (wL:(iO l0 2).length≤31) (nu:(dc (dQ af.az af.id) (iO l0 2)).map fP=ps) (w:ae) (hB:dH w (bV w) B):
 ax ah 27 #[B.val,.int .i64 2] w (LA ps w):=by
 refine(ZC B 2 w hB (by rw[h0];exact hl) (by rw[h0];exact wL)).mono fun e w' q=>?_;obtain⟨v,rfl,h2,h3⟩:=q;refine⟨v,?_,?_,h3⟩
 · rw[h1];rfl
 · unfold vk at h2
   rw[h0,h1,nu] at h2;exact h2
section
variable {B:bP} {w:ae} (hB:dH w (bV w) B)
include hB
theorem ajQ (h:ow B 9):ax ah 27 #[B.val,.int .i64 2] w (LA [] w):=
 RI B [] [] (by rw[h 0 (by decide),akD]) (by rw[h 1 (by decide),akE]) (by simp) (by simp[iO]) (by kernel_rfl) w hB
theorem ajO (h:ow B 10):ax ah 27 #[B.val,.int .i64 2] w (LA [fP qZ] w):=
 RI B [qZ] [fP qZ] (by rw[h 0 (by decide),aaK]) (by rw[h 1 (by decide),akA]) (by simp) (by decide) (by rw[ajU];rfl) w hB
theorem ajP (h:ow B 30):ax ah 27 #[B.val,.int .i64 2] w (LA [fP Da,fP qZ] w):=
 RI B [qZ,Da] [fP Da,fP qZ] (by rw[h 0 (by decide),aaL]) (by rw[h 1 (by decide),akB]) (by simp) (by decide) (by rw[ajV];rfl) w hB
theorem akH (h:ow B 30):ax ah 23 #[B.val,.int .i64 3,.int .i64 101] w fun e w'=>e=.returned (.tuple #[.string ⟨#[]⟩,.bool false])∧Below w.heap.size w w':=by
 have hk:l8 B 3 101=(aW,false):=by unfold l8;rw[h 4 (by decide),h 5 (by decide),aaM,aaN];kernel_rfl
 have:=SG B 3 101 w hB;rw[hk] at this;exact this
theorem JZ (h:ow B 30) (t:Int) (n:Nat) (hn:n≤1000000) (hk:((og ([E',E_].filter fun e=>(decide (e.az≤t)&&decide (t≤e.bj))&&(decide (e.bQ=3)&& !(kB [Fa] e.id t)))).2&&decide ((og ([E',E_].filter fun e=>(decide (e.az≤t)&&decide (t≤e.bj))&&(decide (e.bQ=3)&& !(kB [Fa] e.id t)))).1.text=uj n))=true):
 ax ah 49 #[B.val,.int .i64 t,.int .i64 n] w (cC w true):=by
 have:=akM B t n hn w hB;have hi:JX B t n=true:=by unfold JX l8;rw[h 4 (by decide),h 5 (by decide),aaM,aaN];exact hk
 rw[hi] at this;exact this
theorem akI (h:ow B 30):ax ah 49 #[B.val,.int .i64 49,.int .i64 1] w (cC w true):=JZ hB h 49 1 (by decide) (by kernel_rfl)
theorem akJ (h:ow B 30):ax ah 49 #[B.val,.int .i64 50,.int .i64 2] w (cC w true):=JZ hB h 50 2 (by decide) (by kernel_rfl)
theorem akK (h:ow B 30):ax ah 49 #[B.val,.int .i64 59,.int .i64 2] w (cC w true):=JZ hB h 59 2 (by decide) (by kernel_rfl)
theorem akL (h:ow B 30):ax ah 49 #[B.val,.int .i64 60,.int .i64 1] w (cC w true):=JZ hB h 60 1 (by decide) (by kernel_rfl)
theorem akG (h:ow B 30):ax ah 49 #[B.val,.int .i64 100,.int .i64 1] w (cC w true):=JZ hB h 100 1 (by decide) (by kernel_rfl)
theorem ah6 (h:ow B 30):ax ah 24 #[B.val,.int .i64 2] w fun e w'=>e=.returned (.tuple #[.agg #[.string ⟨#[51]⟩,.string ⟨#[49]⟩],.bool true])∧Below w.heap.size w w':=by
 have:=Xx B 2 w hB;rw[h 7 (by decide),akC] at this;exact this
theorem XO (h:ow B 30):ax ah 31 #[B.val,.int .i64 2] w fun e w'=> ∃v,e=.returned v∧OL w' w.heap.size 3 1 (one iv) v [9]∧Below w.heap.size w w':=by
 have:=XQ B 2 w hB (by rw[h 8 (by decide),aaO];decide);unfold AM at this;rw[h 8 (by decide),aaO,su8] at this;exact this
end
theorem anb {B:bP} {w:ae} (hB:dH w (bV w) B):ax ah 14 #[B.val,B.val] w (cC w true):=by
 have:=Kc B B w hB hB
 rwa[(BN B B).2 (fun _ _=>rfl)] at this
theorem ana {B C:bP} {w:ae} (hB:dH w (bV w) B) (hC:dH w (bV w) C) (uT:ow B 10) (h30:ow C 30):ax ah 14 #[B.val,C.val] w (cC w false):=by
 have:=Kc B C w hB hC
 have hn:sQ B C=false:=by
  cases hs:sQ B C with
  |false=>rfl
  | true=>
    have:=(BN B C).1 hs 0 (by decide);rw[uT 0 (by decide),h30 0 (by decide),aaK,aaL] at this;injection this with _ this;cases this
 rwa[hn] at this
theorem OL.empty {α:Type} {w:ae} {B k:Nat} {T:bF} {f:α→List ai} {v:ai} (h:OL w B T k f v ([]:List α)):∃A c,v=.slice A 0 c:=by
 obtain⟨A,c,e,-,-⟩:=h.slice;exact⟨A,c,e⟩
theorem ab9 {w:ae} {A A2:Option Addr} {c c2:Nat} (hA:iC w (one iv) 1 A [9]) (mC:iC w (one iv) 1 A2 [9]):ax ah 30 #[.slice A 1 c,.slice A2 1 c2] w (cC w true):=
 aca [9] [9] A A2 1 c 1 c2 rfl rfl (by decide) w hA mC
theorem Yg (a b:ByteArray) (W:ae):(binOp .eql 29 (.agg #[.string a,.string b]) (.agg #[.string a,.string b])).run ah W=.ok (.bool true) W:=by
 go_simp
theorem Yp (x y:Operand) (cs ds:Array ai) (W:ae):(eqGuard .eql 29 x y (.agg cs) (.agg ds)).run ah W=.ok () W:=by kernel_rfl
theorem anc (w:ae) (hp:dY w):ax ah 11 #[] w (cC w true):=by
 have HF:=hZ (St.start hp);clear hp
 go_enter Tryz.func11,Tryz.ntmps11
 go_wp2_with (first
  |(go_at_call 48;(with_reducible refine(aja _).mono ?_);rintro e2 w2 ⟨bx,rfl,mD,hb⟩;have au:=HF.out.step hb;have HF:=hZ au;have HX:=hZ mD;clear hb au mD)
  |(go_at_call 15;(with_reducible refine(J0 lv 10 (some ⟨bx,0,none⟩) 8 8 rfl (by decide) _ HX.out QG HF.out.pow).mono ?_);rintro e2 w2 ⟨ou,rfl,hB,hI,hb⟩;have au:=(HF.out.step hb).add hB;have HF:=hZ au;have We:Hid (ow ou 10):=hZ hI;clear hb hB au hI)
  |(go_at_call 15;(with_reducible refine(J0 lv 30 (some ⟨bx,0,none⟩) 8 8 rfl (by decide) _ HX.out QG HF.out.pow).mono ?_);rintro e2 w2 ⟨jZ,rfl,hB,hI,hb⟩;have au:=(HF.out.step hb).add hB;have HF:=hZ au;have uG:Hid (ow jZ 30):=hZ hI;clear hb hB au hI)
  |(go_at_call 15;(with_reducible refine(J0 lv 9 (some ⟨bx,0,none⟩) 8 8 rfl (by decide) _ HX.out QG HF.out.pow).mono ?_);rintro e2 w2 ⟨B9,rfl,hB,hI,hb⟩;have au:=(HF.out.step hb).add hB;have HF:=hZ au;have fD:Hid (ow B9 9):=hZ hI;clear hb hB au hI)
  |((with_reducible refine xA rfl 36 (.tmp 1) (.tmp 12) rfl rfl (ou.cells.toArray) ?hx ?hy ?hi ?ho ?h1 HF.out ?_);(case hx=>rfl);(case hy=>rfl);(case hi=>exact qx ou);(case ho=>rfl);(case h1=>exact SS _);intro b1 V hb bW;rw[hb];have HF:=hZ bW;clear hb bW)
  |((with_reducible refine xA rfl 36 (.tmp 2) (.tmp 14) rfl rfl (jZ.cells.toArray) ?hx ?hy ?hi ?ho ?h1 HF.out ?_);(case hx=>rfl);(case hy=>rfl);(case hi=>exact qx jZ);(case ho=>rfl);(case h1=>exact SS _);intro b2 V hb bW;rw[hb];have HF:=hZ bW;clear hb bW)
  |((with_reducible refine xy ?hw 36 (.tmp 1) rfl b1 0 ?hx ou.cells _ (HF.out.row (b:=b1) (cs:=ou.cells) (t:=36) (by simp)) je rfl (qx ou) ?_);(case hw=>rfl);(case hx=>rfl))
  |((with_reducible refine xy ?hw 36 (.tmp 2) rfl b2 0 ?hx jZ.cells _ (HF.out.row (b:=b2) (cs:=jZ.cells) (t:=36) (by simp)) je rfl (qx jZ) ?_);(case hw=>rfl);(case hx=>rfl))
  |(go_at_call 27;(with_reducible refine(ajQ (HF.out.eA B9 (by simp)) fD.out).mono ?_);rintro e2 w2 ⟨v9,rfl,ho,hb⟩;obtain⟨A9,c9,rfl⟩:=OL.empty ho;have au:=HF.out.step hb;have HF:=hZ au;clear hb au ho)
  |(go_at_call 27;(with_reducible refine(ajO (HF.out.eA ou (by simp)) We.out).mono ?_);rintro e2 w2 ⟨v9,rfl,ho,hb⟩;obtain⟨g4,c4,aiz,rfl,hg,hc⟩:=OL.first (n:=1) ho rfl (by decide) (by decide) (x:=.int .i64 10) rfl;have au:=(HF.out.step hb).put hg;have HF:=hZ au;have tq:=hZ hc;clear hb au ho hg hc)
  |(go_at_call 27;(with_reducible refine(ajP (HF.out.eA jZ (by simp)) uG.out).mono ?_);rintro e2 w2 ⟨v9,rfl,ho,hb⟩;obtain⟨g5,c5,aiA,rfl,hg,hc⟩:=OL.first (n:=2) ho rfl (by decide) (by decide) (x:=.int .i64 5) rfl;have au:=(HF.out.step hb).put hg;have HF:=hZ au;have G4:=hZ hc;clear hb au ho hg hc)
  |((with_reducible refine xA rfl 58 (.tmp 3) (.tmp 17) rfl rfl (#[.string ⟨#[49]⟩,.string ⟨#[49,48]⟩,.slice A9 0 c9]) ?hx ?hy ?hi ?ho ?h1 HF.out ?_);(case hx=>rfl);(case hy=>rfl);(case hi=>kernel_rfl);(case ho=>rfl);(case h1=>exact vJ _ _ _ rfl);intro b3 V hb bW;rw[hb];have HF:=hZ bW;clear hb bW)
  |((with_reducible refine xA rfl 58 (.tmp 4) (.tmp 19) rfl rfl (#[.string ⟨#[49]⟩,.string ⟨#[49,48]⟩,.slice (some ⟨g4,0,none⟩) 1 c4]) ?hx ?hy ?hi ?ho ?h1 HF.out ?_);(case hx=>rfl);(case hy=>rfl);(case hi=>kernel_rfl);(case ho=>rfl);(case h1=>exact vJ _ _ _ rfl);intro b4 V hb bW;rw[hb];have HF:=hZ bW;clear hb bW)
  |((with_reducible refine xA rfl 58 (.tmp 5) (.tmp 21) rfl rfl (#[.string ⟨#[49]⟩,.string ⟨#[49,48]⟩,.slice (some ⟨g5,0,none⟩) 2 c5]) ?hx ?hy ?hi ?ho ?h1 HF.out ?_);(case hx=>rfl);(case hy=>rfl);(case hi=>kernel_rfl);(case ho=>rfl);(case h1=>exact vJ _ _ _ rfl);intro b5 V hb bW;rw[hb];have HF:=hZ bW;clear hb bW)
  |(go_at_call 23;(with_reducible refine(akH (HF.out.eA jZ (by simp)) uG.out).mono ?_);rintro e2 w2 ⟨rfl,hb⟩;have au:=HF.out.step hb;have HF:=hZ au;clear hb au)
  |(go_at_call 24;(with_reducible refine(ah6 (HF.out.eA jZ (by simp)) uG.out).mono ?_);rintro e2 w2 ⟨rfl,hb⟩;have au:=HF.out.step hb;have HF:=hZ au;clear hb au)
  |((with_reducible refine xA rfl 29 (.tmp 8) (.tmp 30) rfl rfl (#[.string ⟨#[51]⟩,.string ⟨#[49]⟩]) ?hx ?hy ?hi ?ho ?h1 HF.out ?_);(case hx=>rfl);(case hy=>rfl);(case hi=>kernel_rfl);(case ho=>rfl);(case h1=>simp[Value.oneCell']);intro b8 V hb bW;rw[hb];have HF:=hZ bW;clear hb bW)
  |(go_at_call 49;(with_reducible refine(akI (HF.out.eA jZ (by simp)) uG.out).mono ?_);rintro e2 w2 ⟨rfl,hb⟩;have au:=HF.out.step hb;have HF:=hZ au;clear hb au)
  |(go_at_call 49;(with_reducible refine(akJ (HF.out.eA jZ (by simp)) uG.out).mono ?_);rintro e2 w2 ⟨rfl,hb⟩;have au:=HF.out.step hb;have HF:=hZ au;clear hb au)
  |(go_at_call 49;(with_reducible refine(akK (HF.out.eA jZ (by simp)) uG.out).mono ?_);rintro e2 w2 ⟨rfl,hb⟩;have au:=HF.out.step hb;have HF:=hZ au;clear hb au)
  |(go_at_call 49;(with_reducible refine(akL (HF.out.eA jZ (by simp)) uG.out).mono ?_);rintro e2 w2 ⟨rfl,hb⟩;have au:=HF.out.step hb;have HF:=hZ au;clear hb au)
  | (go_at_call 49;(with_reducible refine(akG (HF.out.eA jZ (by simp)) uG.out).mono ?_);rintro e2 wK ⟨rfl,hb⟩;have au:=HF.out.step hb;have HF:=hZ au;clear hb au
     have x4:=HF.out.at_.cell (b:=b4) (cs:=#[.string ⟨#[49]⟩,.string ⟨#[49,48]⟩,.slice (some ⟨g4,0,none⟩) 1 c4]) (t:=58) (by simp) (i:=2) rfl
     have x5:=HF.out.at_.cell (b:=b5) (cs:=#[.string ⟨#[49]⟩,.string ⟨#[49,48]⟩,.slice (some ⟨g5,0,none⟩) 2 c5]) (t:=58) (by simp) (i:=2) rfl)
  |fail)
 clear x4 x5;obtain⟨L,bW,mb1,mb2,SP,mb4,mb5,mb8,mg4,mg5⟩:∃L,St w wK L [B9,jZ,ou]∧(b1,.cells (ou.cells.toArray:Array ai) 36 (0,0))∈L∧(b2,.cells (jZ.cells.toArray:Array ai) 36 (0,0))∈L∧(b3,.cells (#[.string ⟨#[49]⟩,.string ⟨#[49,48]⟩,.slice A9 0 c9]:Array ai) 58 (0,0))∈L∧(b4,.cells (#[.string ⟨#[49]⟩,.string ⟨#[49,48]⟩,.slice (some ⟨g4,0,none⟩) 1 c4]:Array ai) 58 (0,0))∈L∧(b5,.cells (#[.string ⟨#[49]⟩,.string ⟨#[49,48]⟩,.slice (some ⟨g5,0,none⟩) 2 c5]:Array ai) 58 (0,0))∈L∧(b8,.cells (#[.string ⟨#[51]⟩,.string ⟨#[49]⟩]:Array ai) 29 (0,0))∈L∧(g4,.cells (aiz:Array ai) 86 (0,0))∈L∧(g5,.cells (aiA:Array ai) 86 (0,0))∈L:=⟨_,HF.out,by simp,by simp,by simp,by simp,by simp,by simp,by simp,by simp⟩;have wB:Hid (∀U,St w U L [B9,jZ,ou]→St w U L [B9,jZ,ou]∧U.cell? ⟨b3,2,none⟩=some (.slice A9 0 c9)∧U.cell? ⟨b4,2,none⟩=some (.slice (some ⟨g4,0,none⟩) 1 c4)∧U.cell? ⟨g4,0,none⟩=some (.int .i64 10)∧U.cell? ⟨b5,2,none⟩=some (.slice (some ⟨g5,0,none⟩) 2 c5)∧U.cell? ⟨g5,0,none⟩=some (.int .i64 5)):=hZ (fun U h=>⟨h,h.at_.cell SP (i:=2) rfl,h.at_.cell mb4 (i:=2) rfl,h.at_.cell mg4 (i:=0) tq.out,h.at_.cell mb5 (i:=2) rfl,h.at_.cell mg5 (i:=0) G4.out⟩);have HM:=hZ (ay mb1 (ay mb2 (ay SP mb8)));have bu:=wB.out _ bW.drew;clear HF bW mb1 mb2 SP mb4 mb5 mb8 mg4 mg5;refine cJ (fun U=>St w U L [B9,jZ,ou]∧U.cell? ⟨b3,2,none⟩=some (.slice A9 0 c9)∧U.cell? ⟨b4,2,none⟩=some (.slice (some ⟨g4,0,none⟩) 1 c4)∧U.cell? ⟨g4,0,none⟩=some (.int .i64 10)∧U.cell? ⟨b5,2,none⟩=some (.slice (some ⟨g5,0,none⟩) 2 c5)∧U.cell? ⟨g5,0,none⟩=some (.int .i64 5)) bu fun hHeld=>?_
 obtain⟨U0,en⟩:=oQ (wK.drew);rw[en] at hHeld⊢;clear en bu;refine bg 0 1 2 3 ?_;refine eC 4 5 ?_;refine tl 6 rfl (Oi (by rfl) 29 (.tmp 69) rfl b3 0 (by rfl) [.string ⟨#[49]⟩,.string ⟨#[49,48]⟩] _ (fun w hw=>fun k u hu=>(hw.1.row (cs:=[.string ⟨#[49]⟩,.string ⟨#[49,48]⟩,.slice A9 0 c9]) HM.out.2.2.1) k u (by rcases k with _|_|k<;>first|(simp at hu;done)|simpa using hu)) pM rfl (by kernel_rfl)) ?_;refine tk 7 ?_;refine tl 8 rfl (NL (by rfl) 29 29 (.tmp 70) (.tmp 71) (by rfl) (.agg #[.string ⟨#[49]⟩,.string ⟨#[49,48]⟩]) (.agg #[.string ⟨#[49]⟩,.string ⟨#[49,48]⟩]) (by rfl) (by rfl) true (fun w=>Yp _ _ _ _ w) (fun w=>Yg _ _ w)) ?_;refine bg 9 10 11 12 ?_;refine bg 13 14 15 16 ?_;refine bg 17 18 19 20 ?_;refine bg 21 22 23 24 ?_;refine bg 25 26 27 28 ?_;refine tk 29 ?_;refine tl 30 rfl (yx b1 0 (qx ou) je (fun w hw=>hw.1.row HM.out.1)) ?_;refine tl 31 rfl (yx b1 0 (qx ou) je (fun w hw=>hw.1.row HM.out.1)) ?_;refine rE 32 fun K hK=>?_;go_simp
 (with_reducible refine(anb (hHeld.1.eA ou (by simp))).mono ?_)
 rintro e5 U5 ⟨rfl,cn⟩;have HH:=hZ (hHeld.1.step cn);clear cn;refine kk hK (wB.out _ HH.out) fun hHeld=>?_;clear hK K;refine eC 33 34 ?_;refine tl 35 rfl (yx b1 0 (qx ou) je (fun w hw=>hw.1.row HM.out.1)) ?_;refine tl 36 rfl (yx b2 0 (qx jZ) je (fun w hw=>hw.1.row HM.out.2.1)) ?_;refine rE 37 fun K hK=>?_;go_simp
 (with_reducible refine(ana (hHeld.1.eA ou (by simp)) (hHeld.1.eA jZ (by simp)) We.out uG.out).mono ?_)
 rintro e5 U5 ⟨rfl,cn⟩;have HH:=hZ (hHeld.1.step cn);clear cn;refine kk hK (wB.out _ HH.out) fun hHeld=>?_;clear hK K;refine bg 38 39 40 41 ?_;refine eC 42 43 ?_;refine tl 44 rfl (Oi (by rfl) 29 (.tmp 8) rfl b8 0 (by rfl) [.string ⟨#[51]⟩,.string ⟨#[49]⟩] _ (fun w hw=>hw.1.row HM.out.2.2.2) pM rfl (by kernel_rfl)) ?_;refine rE 45 fun K hK=>?_;go_simp
 (with_reducible refine(abd _ _).mono ?_)
 rintro e5 U5 ⟨rfl,cn⟩;have HH:=hZ (hHeld.1.step cn);clear cn;refine kk hK (wB.out _ HH.out) fun hHeld=>?_;clear hK K;refine tl 46 rfl (NL (by rfl) 29 29 (.tmp 108) (.tmp 109) (by rfl) (.agg #[.string ⟨#[51]⟩,.string ⟨#[49]⟩]) (.agg #[.string ⟨#[51]⟩,.string ⟨#[49]⟩]) (by rfl) (by rfl) true (fun w=>Yp _ _ _ _ w) (fun w=>Yg _ _ w)) ?_;refine eC 47 48 ?_;refine tl 49 rfl (yx b2 0 (qx jZ) je (fun w hw=>hw.1.row HM.out.2.1)) ?_;refine rd [50,51] ?_;refine rc (fun K hK=>?_) ?_
 ·
  go_simp
  (with_reducible refine(XO (hHeld.1.eA jZ (by simp)) uG.out).mono ?_)
  rintro e7 U7 ⟨v7,rfl,DI,dE⟩;obtain⟨A7,c7,kS,-,-⟩:=DI.slice;have Su:v7=.slice A7 1 c7:=kS;subst Su;have wC:Hid (iC U7 (one iv) 1 A7 [9]):=hZ (iC.iW (fun _=>rfl) DI);have HH:=hZ (hHeld.1.step dE);clear DI kS dE;refine kk hK (wB.out _ HH.out) fun hHeld=>?_;clear hK K;refine rE 51 fun K hK=>?_;go_simp;have Fj:=aY U7 (.cells #[.int .i64 9] 3);have lA:=bG U7 (.cells #[.int .i64 9] 3);obtain⟨b9,cZ⟩:=oQ (U7.heap.size);obtain⟨V9,ly⟩:=oQ (U7.alloc (.cells #[.int .i64 9] 3));have HH:=hZ (hHeld.1.step Fj);have wC:Hid (iC V9 (one iv) 1 A7 [9]):=hZ (by rw[←ly];exact wC.out.below Fj);rw[ly] at lA HH⊢;rw[cZ] at lA⊢;have jF:Hid (iC V9 (one iv) 1 (some ⟨b9,0,none⟩) [9]):=hZ (iC.of_block (fun _=>rfl) lA);clear Fj lA cZ ly;refine kk hK (wB.out _ HH.out) fun hHeld=>?_;clear hK K;refine rE 52 fun K hK=>?_;go_simp
  (with_reducible refine(ab9 wC.out jF.out).mono ?_)
  rintro e8 U8 ⟨rfl,eN⟩;have HH:=hZ (hHeld.1.step eN);clear eN;refine kk hK (wB.out _ HH.out) fun hHeld=>?_;clear hK K;refine eC 53 54 ?_;refine dn ?_;clear hHeld;go_wp2;go_ret;exact⟨rfl,HH.out.at_.below⟩
 refine dx fun K hK=>?_;go_simp;have Fj:=aY U5 (.cells #[.int .i64 9] 3);have lA:=bG U5 (.cells #[.int .i64 9] 3);obtain⟨b9,cZ⟩:=oQ (U5.heap.size);obtain⟨V9,ly⟩:=oQ (U5.alloc (.cells #[.int .i64 9] 3));have HH:=hZ (hHeld.1.step Fj);rw[ly] at lA HH⊢;rw[cZ] at lA⊢;have jF:Hid (iC V9 (one iv) 1 (some ⟨b9,0,none⟩) [9]):=hZ (iC.of_block (fun _=>rfl) lA);clear Fj lA cZ ly;refine kk hK (wB.out _ HH.out) fun hHeld=>?_;clear hK K;refine rE 50 fun K hK=>?_;go_simp
 (with_reducible refine(XO (hHeld.1.eA jZ (by simp)) uG.out).mono ?_)
 rintro e7 U7 ⟨v7,rfl,DI,dE⟩;obtain⟨A7,c7,kS,-,-⟩:=DI.slice;have Su:v7=.slice A7 1 c7:=kS;subst Su;have wC:Hid (iC U7 (one iv) 1 A7 [9]):=hZ (iC.iW (fun _=>rfl) DI);have HH:=hZ (hHeld.1.step dE);have jF:=hZ (jF.out.below dE);clear DI kS dE;refine kk hK (wB.out _ HH.out) fun hHeld=>?_;clear hK K;refine rE 52 fun K hK=>?_;go_simp
 (with_reducible refine(ab9 wC.out jF.out).mono ?_)
 rintro e8 U8 ⟨rfl,eN⟩;have HH:=hZ (hHeld.1.step eN);clear eN;refine kk hK (wB.out _ HH.out) fun hHeld=>?_;clear hK K;refine eC 53 54 ?_;refine dn ?_;clear hHeld;go_wp2;go_ret;exact⟨rfl,HH.out.at_.below⟩
end Go.Proofs.YteeifhlhpiimoaaGreatDoor
end
