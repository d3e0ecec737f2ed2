/-
  Contract of entry.Valid for a kind that has a shape. Conditions: the shape's and the conditions' contracts.
-/
import Derived.Test.YteeifhlhpiimoaaGreatDoorZAf
import Derived.Test.YteeifhlhpiimoaaGreatDoorZAa
set_option maxHeartbeats 8000000
set_option maxRecDepth 100000
namespace Go.Proofs.YteeifhlhpiimoaaGreatDoor
open Go Go.RowKit Go.Shelf
attribute [local go_sem] Oper.semAt_some
theorem ShapeAt.open {W:World} {B:Nat} {v:Value} {d:ShapeD} (h:ShapeAt W B v d):∃b1 R cr,v=.agg #[.slice (some ⟨b1,0,none⟩) d.parts.length d.parts.length,.func (.func d.key) #[] #[],.int .i64 1,.int .i64 1000000,.nilFunc,.slice R d.rest.length cr]∧
 W.heap[b1]?=some (.cells (d.parts.flatMap PartD.cells).toArray 109 (0,0))∧LAt W W.heap.size R fnV d.rest:=by
 obtain⟨b1,R,cr,rfl,h1,h2,h3⟩:=h;refine⟨b1,R,cr,rfl,h2,?_⟩;rcases h3 with⟨e,rfl,-⟩|⟨b2,rfl,-,-,h4⟩
 · rw[e];exact LAt.nil
 · intro i x hx
   have hc:=cells_i h4 (i:=i) (v:=fnV x) (by simp[hx])
   exact⟨_,rfl,cells_lt h4,by
    unfold Addr.add
    split
    · rename_i h0;rw[h0] at hc;exact hc
    · simpa using hc⟩
theorem LAt.ofMap {W:World} {B:Nat} {A:Option Addr} {rs:List (Nat×Bool)} {l:List Nat} (h:LAt W B A fnV l) (hl:l=rs.map (·.1)):LAt W B A (fun p:Nat×Bool=>fnV p.1) rs:=fun i x hx=>by
 refine h i x.1 ?_;rw[hl,List.getElem?_map,hx];rfl
theorem Asks.step {w w':World} {v:Value} {g:Nat} {b:Bool} (h:Asks w v g b) (hb:Below w.heap.size w w'):Asks w' v g b:=⟨h.enters,fun W hW=>h.calls W (hb.trans (hW.mono hb.size))⟩
theorem valid_core (e:Ent) (d:ShapeD) (qs:List PartE) (rs:List (Nat×Bool)) (w:World) (hS:∀W,Calls Tryz.prog 62 #[.int .i64 e.kind] W (ShapeP W d)) (hr:d.rest=rs.map (·.1)) (hrl:rs.length≤1000)
 (hask:∀p∈rs,Asks w e.val p.1 p.2) (hq:d.parts.length=qs.length) (hql:qs.length≤1000) (hfit:∀(i:Nat) (p:PartD) (q:PartE),d.parts[i]?=some p→qs[i]?=some q→Fits p q)
 (h1:1≤e.ver) (h2:e.ver≤1000000) (h3:0≤e.day) (h4:e.day≤100000):
 Calls Tryz.prog 20 #[e.val] w (ValP w (rs.all (·.2)&&checks qs e)):=by
 have g1:decide (e.ver<1)=false:=by simp;omega
 have g2:decide (1000000<e.ver)=false:=by simp;omega
 have g3:decide (e.day<0)=false:=by simp;omega
 have g4:decide (100000<e.day)=false:=by simp;omega
 have HS:=hZ hS;have IE:=hZ (ientry (e:=e));have IE2:Hid ((Tryz.prog.info? 33).map (·.size)=some e.cells.toArray.size):=hZ (by rw[List.size_toArray];exact IE.out);have HASK:=hZ hask;have HFIT:=hZ hfit;have HR:=hZ hr;obtain⟨rl,hrl0⟩:=oQ (d.rest.length);have HRL:Hid (rs.length=rl∧rl≤1000):=hZ (by rw[←hrl0,hr,List.length_map];exact⟨rfl,hrl⟩);obtain⟨ql,hql0⟩:=oQ (d.parts.length);have HQL:Hid (qs.length=ql∧ql≤1000):=hZ (by omega);have HRL0:=hZ hrl0;have HQL0:=hZ hql0;obtain⟨z,hz⟩:=oQ (rs.all (·.2));rw[hz];have HZ:=hZ hz;clear hS hask hfit hr hrl hql hq hz h1 h2 h3 h4 hrl0 hql0;obtain⟨p0,hp0⟩:=oQ (w.heap.size);have HP0:=hZ hp0;clear hp0;cases z
 · rw [Bool.false_and]
   go_enter Tryz.func20,Tryz.ntmps20
   go_wp2_with (first
    | ((with_reducible refine box_ent rfl (.tmp 0) rfl e ?hx ?_);(case hx=>rfl);intro w1 he1 hb1 hs1
       have HE1:=hZ he1;have HB1:=hZ hb1;have x0:=he1.cell (i:=0) rfl
       clear he1 hb1)
    | (go_at_call 62;(with_reducible refine(HS.out _).mono ?_);rintro e2 w2 ⟨v,rfl,hsh,hb2⟩
       obtain⟨b1,R,cr,rfl,hpa,hra⟩:=hsh.open;rw[HRL0.out] at hsh;rw[HQL0.out] at hsh;have kk:=below_new w2 (.cells #[.slice (some ⟨b1,0,none⟩) ql ql,.func (.func d.key) #[] #[],.int .i64 1,.int .i64 1000000,.nilFunc,.slice R rl cr] 112);have he3:=(HE1.out.below hb2).below kk;have hb3:=(HB1.out.trans (hb2.mono HB1.out.size)).trans (kk.mono (Nat.le_trans HB1.out.size hb2.size));have y0:=he3.cell (i:=2) rfl;have y1:=he3.cell (i:=3) rfl;have hs3:=World.alloc_heap_new w2 (.cells #[.slice (some ⟨b1,0,none⟩) ql ql,.func (.func d.key) #[] #[],.int .i64 1,.int .i64 1000000,.nilFunc,.slice R rl cr] 112);have HPA:=hZ (below_at2 kk hpa);have HRA:=hZ (((hra.below kk).more kk.size).ofMap HR.out);rw[HQL0.out,HRL0.out];have HCT:=hZ (contains_walk rs R rl cr HRL.out.1 HRL.out.2 w.heap.size e _ HRA.out he3 (fun p hp=>(HASK.out p hp).step hb3));rw[HZ.out] at HCT;have HE3:=hZ he3;have HB3:=hZ hb3;have HS3:=hZ hs3
       clear hb2 hsh hpa hra kk he3 hb3 hs3)
    | (go_at_call 67;(with_reducible refine HCT.out.mono ?_);rintro e4 w4 ⟨rfl,hb4⟩
       have HB4:=bTr HB3 hb4
       clear hb4)
    |fail)
   go_ret;exact⟨rfl,HB4.out⟩
 · rw [Bool.true_and]
   go_enter Tryz.func20,Tryz.ntmps20
   go_wp2_with (first
    | ((with_reducible refine box_ent rfl (.tmp 0) rfl e ?hx ?_);(case hx=>rfl);intro w1 he1 hb1 hs1
       have HE1:=hZ he1;have HB1:=hZ hb1;have x0:=he1.cell (i:=0) rfl
       clear he1 hb1)
    | (go_at_call 62;(with_reducible refine(HS.out _).mono ?_);rintro e2 w2 ⟨v,rfl,hsh,hb2⟩
       obtain⟨b1,R,cr,rfl,hpa,hra⟩:=hsh.open;rw[HRL0.out] at hsh;rw[HQL0.out] at hsh;have kk:=below_new w2 (.cells #[.slice (some ⟨b1,0,none⟩) ql ql,.func (.func d.key) #[] #[],.int .i64 1,.int .i64 1000000,.nilFunc,.slice R rl cr] 112);have he3:=(HE1.out.below hb2).below kk;have hb3:=(HB1.out.trans (hb2.mono HB1.out.size)).trans (kk.mono (Nat.le_trans HB1.out.size hb2.size));have y0:=he3.cell (i:=2) rfl;have y1:=he3.cell (i:=3) rfl;have hs3:=World.alloc_heap_new w2 (.cells #[.slice (some ⟨b1,0,none⟩) ql ql,.func (.func d.key) #[] #[],.int .i64 1,.int .i64 1000000,.nilFunc,.slice R rl cr] 112);have HPA:=hZ (below_at2 kk hpa);have HRA:=hZ (((hra.below kk).more kk.size).ofMap HR.out);rw[HQL0.out,HRL0.out];have HCT:=hZ (contains_walk rs R rl cr HRL.out.1 HRL.out.2 w.heap.size e _ HRA.out he3 (fun p hp=>(HASK.out p hp).step hb3));rw[HZ.out] at HCT;have HE3:=hZ he3;have HB3:=hZ hb3;have HS3:=hZ hs3
       clear hb2 hsh hpa hra kk he3 hb3 hs3)
    | (go_at_call 67;(with_reducible refine HCT.out.mono ?_);rintro e4 w4 ⟨rfl,hb4⟩
       have HB4:=bTr HB3 hb4;have HE4:=hZ (HE3.out.below hb4);have HS4:=bAt hb4 HS3;have HPA4:=bAt hb4 HPA;have HRG:=hZ (range_of (cs:=e.cells) HE4.out)
       clear hb4)
    |((with_reducible refine wpList_load_mid rfl 33 (.tmp 1) rfl w.heap.size 0 ?hx e.cells _ HRG.out Tryz.underlying33 rfl IE.out ?_);(case hx=>rfl))
    | ((with_reducible refine store_new rfl (.tmp 5) (.tmp 43) rfl rfl e ?hx ?hy IE2.out ?hold ?_);(case hx=>rfl);(case hy=>rfl);(case hold=>rfl);intro w5 he5 hb5 hs5
       have HE5:=hZ he5;have HS5:=bAt hb5 HS4;have HPA5:=bAt hb5 HPA4;have HE0:=hZ (HE4.out.below hb5);have HB5:=bTr HB4 hb5;have q0:=cells_i (i:=0) HS5.out rfl;have HLT:Hid (w.heap.size<w4.heap.size∧b1<w4.heap.size):=hZ ⟨cells_lt HE4.out,cells_lt HPA4.out⟩
       clear he5 hb5 hs5)
    |fail)
   obtain⟨b5,hb5⟩:=oQ (w4.heap.size);rw[hb5] at HE5 HLT⊢;clear hb5 x0 y0 y1 q0 HS5 HS4 HS3 HB3 HE3 HCT HRA HPA HRG HE4 HPA4 HB4 HE1 HB1 hs1 HS HASK HR HZ
   go_loopw [7,9,10,47,58] (fun _ _ _ v _ wr=> ∃(i:Nat) (e':Ent),v=.int .i64 (i:Int)∧i≤ql∧Hid (checks (qs.drop i) e'=checks qs e)∧Hid (SameHead e' e)∧EntAt wr b5 e'∧EntAt wr w.heap.size e∧wr.heap[b1]?=some (.cells (d.parts.flatMap PartD.cells).toArray 109 (0,0))∧Below w.heap.size w wr) (fun _ _ _ v _ _=>match v with|.int _ k=>ql-k.toNat|_=>0)
   case atStart=>exact⟨0,e,rfl,Nat.zero_le _,hZ rfl,hZ ⟨rfl,rfl,rfl,rfl⟩,HE5.out,HE0.out,HPA5.out,HB5.out⟩
   case round=>
    obtain⟨i,e',rfl,hi,HCK,HSH,hE5,hE0,hPA,hB⟩:=hrel;have HE:=hZ hE5;have HEE:=hZ hE0;have HPA:=hZ hPA;have HB:=hZ hB
    by_cases hlt:i<ql
    · have d1:decide (i<ql)=true:=by simp[hlt]
      (have z1:(0:Int)≤(i:Int):=by omega);(have z2:(i:Int)<(ql:Int):=by omega);obtain⟨p,hp⟩:∃p,d.parts[i]?=some p:=⟨_,List.getElem?_eq_getElem (by rw[HQL0.out];exact hlt)⟩;obtain⟨q,hq⟩:∃q,qs[i]?=some q:=⟨_,List.getElem?_eq_getElem (by rw[HQL.out.1];exact hlt)⟩;have hf:=HFIT.out i p q hp hq
      cases hf with
      | num enters calls ix=>
        rename_i g ci l
        have r0:wr.cell? ⟨b1,i*4,none⟩=some (.func (.func g) #[] #[]):=cells_i hPA (by have h:=flat4 _ i _ hp 0 (by omega);simpa[PartD.cells] using h);have r1:wr.cell? ⟨b1,i*4+1,none⟩=some (.int .i64 l):=cells_i hPA (by have h:=flat4 _ i _ hp 1 (by omega);simpa[PartD.cells] using h);have r2:wr.cell? ⟨b1,i*4+2,none⟩=some (.int .i64 1000000):=cells_i hPA (by have h:=flat4 _ i _ hp 2 (by omega);simpa[PartD.cells] using h);have r3:wr.cell? ⟨b1,i*4+3,none⟩=some .nilFunc:=cells_i hPA (by have h:=flat4 _ i _ hp 3 (by omega);simpa[PartD.cells] using h);have HC:=hZ (fun W=>calls b5 W);clear hE5 hE0 hPA hB calls;have hnil:=neq_nil;have HE2:=hZ (HE.out.below (below_new wr (.cells #[.func (.func g) #[] #[],.int .i64 l,.int .i64 1000000,.nilFunc] 109)));have nc:=HE2.out.cell (num_cell ix e');have nf:=HE2.out.free ci;obtain⟨x,hx⟩:=oQ (e'.num ci);rw[hx] at nc;have HX:=hZ hx
        have hdrop:qs.drop i=.num ci l::qs.drop (i+1):=by
         (have hlt2:i<qs.length:=by rw[HQL.out.1];exact hlt);rw[List.drop_eq_getElem_cons hlt2]
         congr 1
         rw[List.getElem?_eq_getElem hlt2] at hq;exact Option.some.inj hq
        have HD:=hZ hdrop;have IX:=hZ ix;(have w1:IntKind.i64.wrap ((i:Int)+1)=((i+1:Nat):Int):=by rw[IntKind.wrap_i64];have:=HQL.out.2;omega);(have hbw:wr.heap.size≠b5:=by have:=cells_lt HE.out;omega);clear hdrop hx ix;have hck:=HCK.out;rw[HD.out,checks,HX.out] at hck
        by_cases c1:x<l
        · have e1:decide (x<l)=true:=by simp[c1]
          rw[decide_eq_false (by omega),Bool.false_and] at hck;have HF:=hZ hck;clear hck c1
          go_wp2_with (first
           |((with_reducible refine(HC.out _).mono ?_);rintro e6 w6 ⟨rfl,rfl⟩)
           |fail)
          go_quiet (fail)
          go_wp2;rw[←HF.out];go_ret;exact⟨rfl,HB.out.trans ((below_new _ _).mono HB.out.size|>.trans (Go.Joins.below_draws _ _ _))⟩
        · have e1:decide (x<l)=false:=by simp;omega
          rw[decide_eq_true (by omega),Bool.true_and] at hck
          by_cases c2:1000000<x
          · have e2:decide (1000000<x)=true:=by simp[c2]
            rw[decide_eq_false (by omega),Bool.false_and] at hck;have HF:=hZ hck;clear hck c1 c2
            go_wp2_with (first
             |((with_reducible refine(HC.out _).mono ?_);rintro e6 w6 ⟨rfl,rfl⟩)
             |fail)
            go_quiet (fail)
            go_wp2;rw[←HF.out];go_ret;exact⟨rfl,HB.out.trans ((below_new _ _).mono HB.out.size|>.trans (Go.Joins.below_draws _ _ _))⟩
          · have e2:decide (1000000<x)=false:=by simp;omega
            rw[decide_eq_true (by omega),Bool.true_and] at hck;have HF:=hZ hck;clear hck c1 c2
            go_wp2_with (first
             |((with_reducible refine(HC.out _).mono ?_);rintro e6 w6 ⟨rfl,rfl⟩)
             |fail)
            go_quiet (fail)
            go_wp2
            go_round
            case rel=>
             have kk:=below_new wr (.cells #[.func (.func g) #[] #[],.int .i64 l,.int .i64 1000000,.nilFunc] 109);have hlt0:=HLT.out;refine⟨i+1,e'.clr ci,rfl,by omega,HF,hZ (HSH.out.clr ci),ent_set (W:=(wr.alloc (.cells #[.func (.func g) #[] #[],.int .i64 l,.int .i64 1000000,.nilFunc] 109)).drewN _) HE2.out (clr_num IX.out e'),?_,?_,?_⟩
             · exact(Below.heap_setCell _ _ _ _ (by show w.heap.size≠b5;omega)).trans (HEE.out.below (kk.trans (Go.Joins.below_draws _ _ _)))
             · exact(Below.heap_setCell _ _ _ _ (by show b1≠b5;omega)).trans (below_at2 (kk.trans (Go.Joins.below_draws _ _ _)) HPA.out)
             · exact((HB.out.trans (kk.mono HB.out.size)).trans (Go.Joins.below_draws _ _ _)).setCell (by show w.heap.size≤b5;omega) _
            case measure=>simp;omega
      | txt enters calls ix len=>
        rename_i g is
        have r0:wr.cell? ⟨b1,i*4,none⟩=some .nilFunc:=cells_i hPA (by have h:=flat4 _ i _ hp 0 (by omega);simpa[PartD.cells] using h);have r1:wr.cell? ⟨b1,i*4+1,none⟩=some (.int .i64 0):=cells_i hPA (by have h:=flat4 _ i _ hp 1 (by omega);simpa[PartD.cells] using h);have r2:wr.cell? ⟨b1,i*4+2,none⟩=some (.int .i64 0):=cells_i hPA (by have h:=flat4 _ i _ hp 2 (by omega);simpa[PartD.cells] using h);have r3:wr.cell? ⟨b1,i*4+3,none⟩=some (.func (.func g) #[] #[]):=cells_i hPA (by have h:=flat4 _ i _ hp 3 (by omega);simpa[PartD.cells] using h);have HC:=hZ (fun W=>calls b5 W);clear hE5 hE0 hPA hB calls;have hfn:=neq_fn g
        have hdrop:qs.drop i=.txt is::qs.drop (i+1):=by
         (have hlt2:i<qs.length:=by rw[HQL.out.1];exact hlt);rw[List.drop_eq_getElem_cons hlt2]
         congr 1
         rw[List.getElem?_eq_getElem hlt2] at hq;exact Option.some.inj hq
        have hck:=HCK.out;rw[hdrop,checks] at hck;have HF:=hZ hck;have IX:=hZ ix;(have w1:IntKind.i64.wrap ((i:Int)+1)=((i+1:Nat):Int):=by rw[IntKind.wrap_i64];have:=HQL.out.2;omega);have kk:=below_new wr (.cells #[.nilFunc,.int .i64 0,.int .i64 0,.func (.func g) #[] #[]] 109);have HE2:=hZ (HE.out.below kk);have HEE2:=hZ (HEE.out.below kk);have HPA2:=bAt kk HPA;have HB2:=bTr HB kk;obtain⟨m,hm⟩:=oQ (is.length);rw[hm] at len;have HM:=hZ hm;clear hdrop hck ix kk hm
        go_wp2_with (first
         | ((with_reducible refine(HC.out _).mono ?_);rintro e6 w6 ⟨v6,rfl,ho6,hb6⟩
            obtain⟨A6,c6,rfl,-⟩:=ho6.slice;have HO6:=hZ ho6;have HE6:=hZ (HE2.out.below hb6);have HEE6:=hZ (HEE2.out.below hb6);have HPA6:=bAt hb6 HPA2;have HB6:=bTr HB2 hb6;rw[HM.out] at HO6⊢
            clear ho6 hb6)
         |fail)
        have hb6:b5<(wr.alloc (.cells #[.nilFunc,.int .i64 0,.int .i64 0,.func (.func g) #[] #[]] 109)).heap.size:=cells_lt HE2.out;obtain⟨B6,hB6⟩:=oQ ((wr.alloc (.cells #[.nilFunc,.int .i64 0,.int .i64 0,.func (.func g) #[] #[]] 109)).heap.size);rw[hB6] at HO6 hb6;have H56:=hZ hb6;clear hB6 hb6 r0 r1 r2 r3 HC;obtain⟨wo,hwo⟩:∃wo:World,wo=wr:=⟨_,rfl⟩
        go_loopw [9,58] (fun _ v w7=> ∃k:Nat,v=.int .i64 (k:Int)∧k≤m∧EntAt w7 b5 ((is.take k).foldl Ent.clr e')∧Hid (SameHead ((is.take k).foldl Ent.clr e') e)∧EntAt w7 w.heap.size e∧w7.heap[b1]?=some (.cells (d.parts.flatMap PartD.cells).toArray 109 (0,0))∧OL w7 B6 129 1 (one (ptr b5)) (.slice A6 m c6) is∧Below w.heap.size w w7) (fun _ v _=>match v with|.int _ k=>m-k.toNat|_=>0)
        case atStart=>exact⟨0,rfl,Nat.zero_le _,HE6.out,HSH,HEE6.out,HPA6.out,HO6.out,HB6.out⟩
        case round=>
         obtain⟨k,rfl,hk,hE7,hSH7,hEE7,hPA7,hO7,hB7⟩:=hrel;have HE7:=hZ hE7;have HEE7:=hZ hEE7;have HPA7:=hZ hPA7;have HO7:=hZ hO7;have HB7:=hZ hB7
         by_cases hkm:k<m
         · have hkl:k<is.length:=by rw[HM.out];exact hkm
           obtain⟨a,rfl,-,hac⟩:=hO7.lat.get hkl;obtain⟨ci,hci⟩:=oQ (is[k]);have hmem:is[k]∈is:=List.getElem_mem hkl;rw[hci] at hac hmem;unfold ptr at hac;(have htake:is.take (k+1)=is.take k++[ci]:=by rw[List.take_succ_eq_append_getElem hkl,hci]);have HT:=hZ htake;obtain⟨s0,hs0⟩:=txt_cell (IX.out ci hmem) ((is.take k).foldl Ent.clr e');have nc:=hE7.cell hs0;have nf:=hE7.free ci;have HIX:=hZ (IX.out ci hmem);(have e1:decide (k<m)=true:=by simp[hkm]);(have y1:(0:Int)≤(k:Int):=by omega);(have y2:(k:Int)<(m:Int):=by omega);(have w2:IntKind.i64.wrap ((k:Int)+1)=((k+1:Nat):Int):=by rw[IntKind.wrap_i64];omega);clear hE7 hEE7 hPA7 hO7 hB7 hci hmem htake hs0 hkl;go_wp2_with fail
           go_round
           case rel=>
            have hlt0:=HLT.out;have h56:=H56.out;refine⟨k+1,rfl,by omega,?_,hZ ?_,?_,?_,?_,?_⟩
            · rw[HT.out,List.foldl_append];exact ent_set HE7.out (clr_txt HIX.out _)
            · rw[HT.out,List.foldl_append];exact hSH7.out.clr ci
            · exact(Below.heap_setCell _ _ _ _ (by show w.heap.size≠b5;omega)).trans HEE7.out
            · exact(Below.heap_setCell _ _ _ _ (by show b1≠b5;omega)).trans HPA7.out
            · exact HO7.out.keep (fun q hq=>Below.heap_setCell _ _ _ _ (by have:=(HO7.out.lt q hq).1;show q≠b5;omega))
            · exact HB7.out.setCell (by show w.heap.size≤b5;omega) _
           case measure=>simp;omega
         · have e1:decide (k<m)=false:=by simp;omega
           have htk:is.take k=is:=List.take_of_length_le (by rw[HM.out];omega);have HTK:=hZ htk;clear hE7 hEE7 hPA7 hO7 hB7 htk;go_wp2_with fail
           go_round
           case rel=>exact⟨i+1,_,rfl,by omega,HF,by rw[HTK.out] at hSH7;exact hSH7,by have:=HE7.out;rw[HTK.out] at this;exact this,HEE7.out,HPA7.out,HB7.out⟩
           case measure=>simp;omega
    · have d1:decide (i<ql)=false:=by simp;omega
      have hdn:qs.drop i=[]:=List.drop_of_length_le (by rw[HQL.out.1];omega);have hck:=HCK.out;rw[hdn] at hck;have HF:=hZ hck;have HEQ:=hZ (fun W=>eq_ent2 HSH.out W);have RG1:=hZ (range_of (cs:=e'.cells) HE.out);clear hE5 hE0 hPA hB hck hdn;have y0:=HEE.out.cell (i:=0) rfl;have y2:=HEE.out.cell (i:=2) rfl;have y3:=HEE.out.cell (i:=3) rfl;have y4:=HEE.out.cell (i:=4) rfl
      go_wp2_with (first
       |((with_reducible refine wpList_load_mid rfl 33 (.tmp 5) rfl b5 0 ?hx e'.cells _ RG1.out Tryz.underlying33 rfl ientry ?_);(case hx=>rfl))
       |((with_reducible refine step_eql rfl 33 33 (.tmp 85) (.tmp 94) rfl (.agg e'.cells.toArray) (.agg #[.int .i64 e.kind,.int .i64 0,.int .i64 e.ver,.int .i64 e.day,.bool e.gone,.int .i64 0,.int .i64 0,.int .i64 0,.int .i64 0,.int .i64 0,.int .i64 0,.string ⟨#[]⟩,.string ⟨#[]⟩,.string ⟨#[]⟩,.string ⟨#[]⟩,.string ⟨#[]⟩,.string ⟨#[]⟩,.string ⟨#[]⟩]) ?hx ?hy (checks [] e') (guard_ent _ _ _ _ _) (HEQ.out _) ?_);(case hx=>rfl);(case hy=>rfl))
       |fail)
      rw[←HF.out];go_ret;exact⟨rfl,HB.out⟩
end Go.Proofs.YteeifhlhpiimoaaGreatDoor
