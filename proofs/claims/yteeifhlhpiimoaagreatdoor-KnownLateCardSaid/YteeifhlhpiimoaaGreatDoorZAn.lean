/-
  Contracts of the law's example and key. Conditions: each contract's own. Contracts of the law's key. Conditions: the base's. What is known of the law's example, plainly. Contracts of yardstickref19's SameInts and SameSuspicions. Conditions: the lists' bounds. What the law's sane asks, call by call. Conditions: the bases are the example's. Contract of the law's sane: it answers true. Condition: the table of powers stands. Decimal digits as lists, the lowest first: plainly. No condition. Contracts of yardstickref03's trim and order. Conditions: digits below 10. Contract of yardstickref03's minus. Conditions: the difference is not negative; at most 100000 digits. Contract of yardstickref03's divided. Conditions: the divisor is not 0; at most 1000 digits.
-/
import Derived.Test.YteeifhlhpiimoaaGreatDoorZAm
import Derived.Test.YteeifhlhpiimoaaGreatDoorZAl
import Derived.Great.FillDense
import Derived.Test.YteeifhlhpiimoaaGreatDoorZAk
import Derived.Test.YteeifhlhpiimoaaGreatDoorZAa
import Derived.Test.YteeifhlhpiimoaaGreatDoorZAj
import Derived.Test.YteeifhlhpiimoaaGreatDoorZAc
import Derived.Test.YteeifhlhpiimoaaGreatDoorZAb
import Derived.Test.YteeifhlhpiimoaaGreatDoorZAe
set_option maxHeartbeats 8000000
set_option maxRecDepth 100000
section
namespace Go.Proofs.YteeifhlhpiimoaaGreatDoor
open Go Go.RowKit Go.Shelf
attribute [local go_sem] Oper.semAt_some
theorem EAt.of_block {w:World} {b:Nat} {l:List Ent} {T:TypeId} (h:w.heap[b]?=some (.cells (l.flatMap Ent.cells).toArray T (0,0))):EAt w (Old w) (some ⟨b,0,none⟩) l:=fun i e he=>by
 refine⟨b,rfl,(Array.getElem?_eq_some_iff.1 h).1,fun j v hv=>cells_i h ?_⟩;have hj:j<18:=(List.getElem?_eq_some_iff.1 hv).1;have:=flat_at (f:=Ent.cells) (s:=18) (fun _=>rfl) l i e he j hj;simpa using this.trans hv
theorem wpList_build_ents {ops:Array Oper} {rest:List Oper} {o:Oper} {a:Act} {w:World} {Q:Exit→Act→World→Prop} (hgd:o.guard=none) (n:Nat) (parts:Array (Nat×Operand)) (ho:o.op=.buildSlice 25 n parts) (hn:0<n∧n≤1000) (l:List Ent)
 (hlen:l.length=n) (hparts:(parts.map fun(i,x)=>(i,a.eval x)).toList=((l.map Ent.val).zipIdx 0).map fun x=>(x.2,x.1))
 (hk:∀b V,w.heap.size=b→Below b w V→EAt V (Old V) (some ⟨b,0,none⟩) l→wpList Tryz.prog ops Q rest (a.put o.dst (.slice (some ⟨b,0,none⟩) n n)) V):wpList Tryz.prog ops Q (o::rest) a w:=by
 refine wpList_plain hgd fun K hK=> ?_;have h:=hK _ _ (hk _ _ rfl (below_new w (.cells (l.flatMap Ent.cells).toArray 33)) (EAt.of_block (World.alloc_heap_new w _)));obtain⟨i,h1,h2,h3,h4⟩:=info_parts (show(Tryz.prog.info? 33).map (fun i=>(i.zero,i.size,i.bytes))=some (some zeroE.val,18,200) by kernel_rfl);refine wp_buildSlice 25 33 n parts ho (l.flatMap Ent.cells).toArray i zeroE.val Tryz.underlying25 h1 h2 (by rw[h3];omega) (by rw[h3];omega) ?_ h;rw[h3,hparts]
 have hc:∀v∈l.map Ent.val,v.cells.size=18:=fun v hv=>by
  obtain⟨e,_,rfl⟩:=List.mem_map.1 hv;rfl
 have:=Great.fill_whole (s:=18) (by decide) (l.map Ent.val) ((Array.range (n*18)).map (zeroE.val.cells[· %zeroE.val.cells.size]!)) hc (by simp[hlen]);rw[this,List.flatMap_map];rfl
theorem root1_walk (w:World):Calls Tryz.prog 43 #[.int .i64 1] w fun e w'=>e=.returned (.string (rootB 1))∧Below w.heap.size w w':=root_walk 1 (by omega) w
theorem root2_walk (w:World):Calls Tryz.prog 43 #[.int .i64 2] w fun e w'=>e=.returned (.string (rootB 2))∧Below w.heap.size w w':=root_walk 2 (by omega) w
def ex1:Ent:={zeroE with kind:=2,ver:=1,item:=2,rn:=⟨#[49]⟩,rd:=⟨#[49,48]⟩}
def ex2:Ent:={zeroE with kind:=1,ver:=1,day:=10,id:=1,item:=2,lab:=1,frm:=10,ln:=⟨#[52]⟩,ld:=⟨#[49]⟩,hn:=⟨#[53]⟩,hd:=⟨#[49]⟩}
def ex3:Ent:={zeroE with kind:=1,ver:=1,day:=30,id:=2,item:=2,lab:=1,frm:=5,ln:=⟨#[51]⟩,ld:=⟨#[49]⟩,hn:=⟨#[52]⟩,hd:=⟨#[49]⟩}
def ex4:Ent:={zeroE with kind:=5,ver:=1,id:=1,lab:=3,til:=100,text:=rootB 1}
def ex5:Ent:={zeroE with kind:=5,ver:=1,id:=2,lab:=3,frm:=50,til:=200,text:=rootB 2}
def ex6:Ent:={zeroE with kind:=6,ver:=1,item:=2,frm:=60}
def ex7:Ent:={zeroE with kind:=9,ver:=1,id:=1,item:=2,person:=9}
def ex8:Ent:={zeroE with kind:=8,ver:=1,item:=2,rn:=⟨#[51]⟩,rd:=⟨#[49]⟩}
def exL:List Ent:=[ex1,ex2,ex3,ex4,ex5,ex6,ex7,ex8]
theorem example_walk (w:World):Calls Tryz.prog 48 #[] w fun e w'=> ∃b,e=.returned (.slice (some ⟨b,0,none⟩) 8 8)∧EAt w' (Old w') (some ⟨b,0,none⟩) exL∧Below w.heap.size w w':=by
 have HB:=hZ (Below.refl w.heap.size w)
 go_enter Tryz.func48,Tryz.ntmps48
 go_wp2_with (first
  |((with_reducible refine wpList_build_ents rfl 8 #[(0,.tmp 2),(1,.tmp 6),(2,.tmp 10),(3,.tmp 12),(4,.tmp 14),(5,.tmp 15),(6,.tmp 16),(7,.tmp 18)] rfl ?hn exL ?hl ?hp ?_);(case hn=>decide);(case hl=>rfl);(case hp=>kernel_rfl);intro b V hb hbl hat;have HAT:=hZ hat;have HB:=hZ (HB.out.trans (hbl.mono (by have:=HB.out.size;omega)));clear hb hbl hat)
  |(refine wpList_build rfl 29 #[(0,.const (.string ⟨#[49]⟩)),(1,.const (.string ⟨#[49,48]⟩))] rfl #[.string ⟨#[49]⟩,.string ⟨#[49,48]⟩] (by kernel_rfl) ?_)
  |(refine wpList_build rfl 33 #[(0,.const (.int .i64 2)),(2,.const (.int .i64 1)),(8,.const (.int .i64 2)),(12,.tmp 1)] rfl ex1.cells.toArray (by kernel_rfl) ?_)
  |(go_at_call 50;(with_reducible refine(n_walk _ _).mono ?_);rintro e2 w2 ⟨rfl,hb2⟩;have HB:=bTr HB hb2;clear hb2)
  |(go_at_call 43;(first|(with_reducible refine(root1_walk _).mono ?_)|(with_reducible refine(root2_walk _).mono ?_));rintro e2 w2 ⟨rfl,hb2⟩;have HB:=bTr HB hb2;clear hb2)
  |fail)
 go_ret;exact⟨b,rfl,HAT.out,HB.out⟩
theorem beq_bytes (s t:ByteArray):(s.toList==t.toList)=decide (s=t):=by
 by_cases h:s=t
 · subst h;simp
 · have:s.toList≠t.toList:=fun q=>h (toList_inj q)
   simp[h,this]
def keyIs (B:Bas) (t:Int) (n:Nat):Bool:=(keyB B 3 t).2&&decide ((keyB B 3 t).1.text=rootB n)
theorem one_base (B:Bas):B.cells.toArray.all (·.oneCell')=true:=by simp[Bas.cells,Value.oneCell']
theorem box_row {P:Program} {ops:Array Oper} {rest:List Oper} {op:Oper} {a:Act} {w:World} {Q:Exit→Act→World→Prop} (hgd:op.guard=none) (T:TypeId) (x:Operand) (ho:op.op=.box T x) (cs:Array Value) (hx:a.eval x=.agg cs)
 (h:∀b w',w.heap.size=b→w'.heap[b]?=some (.cells cs T (0,0))→Below b w w'→w'.heap.size=b+1→wpList P ops Q rest (a.put op.dst (.pointer (some ⟨b,0,none⟩))) w'):wpList P ops Q (op::rest) a w:=
 wpList_plain hgd fun _ hK=>by
  have h2:=hK _ _ (h _ (w.alloc (.cells cs T)) rfl (World.alloc_heap_new w _) (below_new w _) (by simp));unfold Oper.wp execOp;simp only[ho,hx,Instr.box,Sem.run_bind,Sem.run_pure,newVar,newRow,Value.cells];simpa[go_sem] using h2
theorem ibase (B:Bas):(Tryz.prog.info? 36).map (·.size)=some B.cells.length:=by kernel_rfl
theorem keyIs_walk (B:Bas) (t:Int) (n:Nat) (hn:n≤1000000) (w:World) (hB:BasAt w (Old w) B):Calls Tryz.prog 49 #[B.val,.int .i64 t,.int .i64 n] w (ValP w (keyIs B t n)):=by
 have HB:=hZ hB;clear hB;obtain⟨q,hq⟩:=oQ ((keyB B 3 t).2);obtain⟨s,hs⟩:=oQ ((keyB B 3 t).1.text);have hk:keyIs B t n=(q&&decide (s=rootB n)):=by unfold keyIs;rw[hq,hs]
 have HKW:Hid (∀W,Below w.heap.size w W→Calls Tryz.prog 23 #[B.val,.int .i64 3,.int .i64 t] W fun e w'=>e=.returned (.tuple #[.string s,.bool q])∧Below W.heap.size W w'):=hZ (fun W hW=>by
  have:=knownKey_walk B 3 t W (HB.out.below hW);rw[hq,hs] at this
  exact this)
 rw[hk];clear hq hs hk
 go_enter Tryz.func49,Tryz.ntmps49
 cases q
 · go_wp2_with (first
    | ((with_reducible refine box_row rfl 36 (.tmp 0) rfl B.cells.toArray ?hx ?_);(case hx=>rfl);intro b0 w1 hb0 hn1 hb1 hs1
       have HR:Hid (w1.rangeAt b0 0 B.cells):=hZ (range_of hn1);have HB1:Hid (Below w.heap.size w w1):=hZ (hb1.mono (by omega))
       clear hb0 hn1 hb1 hs1)
    |((with_reducible refine wpList_load_mid rfl 36 (.tmp 3) rfl b0 0 ?hx B.cells _ HR.out Tryz.underlying36 rfl ?hi ?_);(case hx=>rfl);(case hi=>exact ibase B))
    |(go_at_call 23;(with_reducible refine(HKW.out _ HB1.out).mono ?_);rintro e2 w2 ⟨rfl,hb2⟩;have HB2:=bTr HB1 hb2;clear hb2)
    |fail)
   go_ret;exact⟨rfl,HB2.out⟩
 · go_wp2_with (first
    | ((with_reducible refine box_row rfl 36 (.tmp 0) rfl B.cells.toArray ?hx ?_);(case hx=>rfl);intro b0 w1 hb0 hn1 hb1 hs1
       have HR:Hid (w1.rangeAt b0 0 B.cells):=hZ (range_of hn1);have HB1:Hid (Below w.heap.size w w1):=hZ (hb1.mono (by omega))
       clear hb0 hn1 hb1 hs1)
    |((with_reducible refine wpList_load_mid rfl 36 (.tmp 3) rfl b0 0 ?hx B.cells _ HR.out Tryz.underlying36 rfl ?hi ?_);(case hx=>rfl);(case hi=>exact ibase B))
    |(go_at_call 23;(with_reducible refine(HKW.out _ HB1.out).mono ?_);rintro e2 w2 ⟨rfl,hb2⟩;have HB2:=bTr HB1 hb2;clear hb2)
    |(go_at_call 43;(with_reducible refine(root_walk n hn _).mono ?_);rintro e3 w3 ⟨rfl,hb3⟩;have HB3:=bTr HB2 hb3;clear hb3)
    |fail)
   go_ret;refine⟨?_,HB3.out⟩;show Ending.returned (.bool (s.toList==(rootB n).toList))=_;rw[beq_bytes,Bool.true_and]
end Go.Proofs.YteeifhlhpiimoaaGreatDoor
end
section
namespace Go.Proofs.YteeifhlhpiimoaaGreatDoor
open Go Go.RowKit Go.Shelf
theorem eff30:effD exL 30=exL:=by kernel_rfl
theorem eff10:effD exL 10=[ex1,ex2,ex4,ex5,ex6,ex7,ex8]:=by kernel_rfl
theorem eff9:effD exL 9=[ex1,ex4,ex5,ex6,ex7,ex8]:=by kernel_rfl
theorem k9_0:knownL exL 9 0=[]:=by unfold knownL;rw[eff9];kernel_rfl
theorem k9_1:knownL exL 9 1=[ex1]:=by unfold knownL;rw[eff9];kernel_rfl
theorem k10_0:knownL exL 10 0=[ex2]:=by unfold knownL;rw[eff10];kernel_rfl
theorem k10_1:knownL exL 10 1=[ex1]:=by unfold knownL;rw[eff10];kernel_rfl
theorem k30_0:knownL exL 30 0=[ex2,ex3]:=by unfold knownL;rw[eff30];kernel_rfl
theorem k30_1:knownL exL 30 1=[ex1]:=by unfold knownL;rw[eff30];kernel_rfl
theorem k30_4:knownL exL 30 4=[ex4,ex5]:=by unfold knownL;rw[eff30];kernel_rfl
theorem k30_5:knownL exL 30 5=[ex6]:=by unfold knownL;rw[eff30];kernel_rfl
theorem k30_7:knownL exL 30 7=[ex8]:=by unfold knownL;rw[eff30];kernel_rfl
theorem k30_8:knownL exL 30 8=[ex7]:=by unfold knownL;rw[eff30];kernel_rfl
theorem hl10:histL (aboutL [ex2] 2)=[ex2]:=by kernel_rfl
theorem hl30:histL (aboutL [ex2,ex3] 2)=[ex3,ex2]:=by kernel_rfl
theorem su8:setI (([ex7].filter fun e=>decide (e.item=2)).map fun e=>e.person)=[9]:=by kernel_rfl
end Go.Proofs.YteeifhlhpiimoaaGreatDoor
end
section
namespace Go.Proofs.YteeifhlhpiimoaaGreatDoor
open Go Go.RowKit Go.Shelf Wr
attribute [local go_sem] Oper.semAt_some
def RowAt {α:Type} (w:World) (f:α→List Value) (k:Nat) (A:Option Addr) (l:List α):Prop:=∀(i:Nat) (e:α),l[i]?=some e→∃b,A=some ⟨b,0,none⟩∧b<w.heap.size∧w.rangeAt b (i*k) (f e)
theorem RowAt.below {α:Type} {w W:World} {f:α→List Value} {k:Nat} {A:Option Addr} {l:List α} (h:RowAt w f k A l) (hb:Below w.heap.size w W):RowAt W f k A l:=fun i e he=>by
 obtain⟨b,h1,h2,h3⟩:=h i e he;exact⟨b,h1,Nat.lt_of_lt_of_le h2 hb.size,fun j v hv=>(hb.cell (p:=⟨b,i*k+j,none⟩) h2).trans (h3 j v hv)⟩
theorem RowAt.of_ol {α:Type} {w:World} {B n c k:Nat} {A:Option Addr} {l:List α} {T:TypeId} {f:α→List Value} (hf:∀x,(f x).length=k) (h:OL w B T k f (.slice A n c) l):RowAt w f k A l:=by
 intro i e he;rcases h.2 with⟨e1,h0⟩|⟨g,cap,cur,e1,hb,hc,h4,h5,h6,h7⟩
 · have:l=[]:=List.eq_nil_of_length_eq_zero h0
   subst this;simp at he
 · injection e1 with e1 e2 _
   subst e1 e2;refine⟨g,rfl,(Array.getElem?_eq_some_iff.1 hc).1,fun j v hv=> ?_⟩;(have hj:j<k:=by rw[←hf e];exact(List.getElem?_eq_some_iff.1 hv).1);have hi:i<l.length:=(List.getElem?_eq_some_iff.1 he).1;have hlen:(l.flatMap f).length=l.length*k:=flatMap_length hf
   have hlt:i*k+j<l.length*k:=by
    have:(i+1)*k≤l.length*k:=Nat.mul_le_mul_right _ hi;rw[Nat.add_mul] at this;omega
   rw[World.ownsRow.cellAt h (i*k+j) (by omega),flat_at (f:=f) (s:=k) hf l i e he j hj];exact hv
theorem RowAt.of_block {α:Type} {w:World} {b k:Nat} {l:List α} {T:TypeId} {f:α→List Value} (hf:∀x,(f x).length=k) (h:w.heap[b]?=some (.cells (l.flatMap f).toArray T (0,0))):RowAt w f k (some ⟨b,0,none⟩) l:=fun i e he=>by
 refine⟨b,rfl,(Array.getElem?_eq_some_iff.1 h).1,fun j v hv=>cells_i h ?_⟩;have hj:j<k:=by rw[←hf e];exact(List.getElem?_eq_some_iff.1 hv).1
 have:=flat_at (f:=f) (s:=k) hf l i e he j hj;simpa using this.trans hv
def susEq (e f:Sus):Bool:=decide (e.item=f.item∧e.frm=f.frm∧e.til=f.til)
theorem susEq_iff (e f:Sus):susEq e f=true↔e=f:=by
 unfold susEq;rw[decide_eq_true_eq];constructor
 · rintro⟨h0,h1,h2⟩;cases e;cases f;simp only[Sus.mk.injEq];exact⟨h0,h1,h2⟩
 · rintro rfl;simp
instance susDec:DecidableEq Sus:=fun e f=>decidable_of_iff (susEq e f=true) (susEq_iff e f)
theorem sameInts_walk (l m:List Int) (A A2:Option Addr) (n c n2 c2:Nat) (hn:l.length=n) (hn2:m.length=n2) (hm:n≤maxLen) (w:World) (hA:RowAt w (one iv) 1 A l) (hA2:RowAt w (one iv) 1 A2 m):
 Calls Tryz.prog 30 #[.slice A n c,.slice A2 n2 c2] w (ValP w (decide (l=m))):=by
 have hm':n≤9223372036854775807:=by unfold maxLen at hm;omega
 have HA:=hZ hA;have HA2:=hZ hA2;have HN:=hZ hn;have HN2:=hZ hn2;clear hA hA2 hm
 by_cases hnn:n=n2
 · subst hnn
   clear hn hn2;have d0:((n:Int) !=(n:Int))=false:=by simp
   go_enter Tryz.func30,Tryz.ntmps30
   go_wp2_with fail
   go_loopw [5] (fun v wr=> ∃i:Nat,v=.int .i64 (i:Int)∧i≤n∧Hid (l.take i=m.take i)∧Below w.heap.size w wr) (fun v _=>match v with|.int _ k=>n-k.toNat|_=>0)
   case atStart=>exact⟨0,rfl,Nat.zero_le _,hZ rfl,Below.refl _ _⟩
   case round=>
    obtain⟨i,rfl,hi,HT,hB⟩:=hrel;have HB:=hZ hB;clear hB
    by_cases hlt:i<n
    · obtain⟨e,he⟩:∃e,l[i]?=some e:=⟨_,List.getElem?_eq_getElem (by rw[HN.out];exact hlt)⟩
      obtain⟨f,hf⟩:∃f,m[i]?=some f:=⟨_,List.getElem?_eq_getElem (by rw[HN2.out];exact hlt)⟩;obtain⟨b,hAb,-,hrg⟩:=(HA.out.below HB.out) i e he;obtain⟨b',hAb',-,hrg'⟩:=(HA2.out.below HB.out) i f hf;subst hAb hAb';have HE:=hZ (And.intro he hf);(have d1:decide (i<n)=true:=by simp[hlt]);(have z1:(0:Int)≤(i:Int):=by omega);(have z2:(i:Int)<(n:Int):=by omega);(have w1:IntKind.i64.wrap ((i:Int)+1)=((i+1:Nat):Int):=by rw[IntKind.wrap_i64];omega);obtain⟨q,hq⟩:=oQ ((e !=f))
      have hS0:wr.drew.cell? ⟨b,i,none⟩=some (.int .i64 e)∧wr.drew.cell? ⟨b',i,none⟩=some (.int .i64 f):=by
       have h1:=hrg 0 _ rfl;have h2:=hrg' 0 _ rfl;rw[Nat.mul_one,Nat.add_zero] at h1 h2;exact⟨h1,h2⟩
      clear he hf hrg hrg';go_wp2_with fail;refine wp_region_noPanic ?_;refine wp_region_held_drew (S:=fun U=>U.cell? ⟨b,i,none⟩=some (.int .i64 e)∧U.cell? ⟨b',i,none⟩=some (.int .i64 f)) (by kernel_rfl) hS0 (fun hHeld=> ?_);refine tk 0 ?_;refine tk 1 ?_;refine tk 2 ?_;refine tk 3 ?_;refine tk 4 ?_;refine tk 5 ?_;refine tk 6 ?_;refine tk 7 ?_;refine tk 8 ?_;refine dn ?_;have HBd:Hid (Below w.heap.size w wr.drew):=hZ (Below.drew HB.out);clear hHeld hS0;cases q
      · go_wp2
        (have hef:e=f:=by simpa using hq);(have ht:l.take (i+1)=m.take (i+1):=by rw[List.take_add_one,List.take_add_one,HT.out,HE.out.1,HE.out.2,hef]);have HTT:=hZ ht;clear ht hef
        go_round
        case rel=>exact⟨i+1,rfl,by omega,HTT,HBd.out⟩
        case measure=>simp;omega
      · go_wp2
        go_ret
        have hne:l≠m:=fun h=>by
         have h1:=HE.out.1;rw[h,HE.out.2] at h1;have h2:f=e:=Option.some.inj h1;rw[h2] at hq;simp at hq
        rw[decide_eq_false hne];exact⟨rfl,HBd.out⟩
    · have d1:decide (i<n)=false:=by simp;omega
      obtain rfl:i=n:=by omega
      have hlm:l=m:=by
       have:=HT.out
       rwa[List.take_of_length_le (by rw[HN.out];omega),List.take_of_length_le (by rw[HN2.out];omega)] at this
      have HLM:=hZ hlm;clear hlm;go_wp2_with fail;go_ret;rw[decide_eq_true HLM.out];exact⟨rfl,HB.out⟩
 · have d0:((n:Int) !=(n2:Int))=true:=by simp;omega
   have hlm:l≠m:=fun h=>hnn (by rw[←hn,←hn2,h]);rw[decide_eq_false hlm];clear hn hn2 hlm
   go_enter Tryz.func30,Tryz.ntmps30
   go_wp2;go_ret;exact⟨rfl,Below.refl _ _⟩
structure St (w W:World) (L:List (Nat×Obj)) (Bs:List Bas):Prop where
 at_:At w W L
 bas:∀B∈Bs,BasAt W (Old W) B
 pow:Pow10 W
section
variable {w W W':World} {L:List (Nat×Obj)} {Bs:List Bas}
theorem St.start (hp:Pow10 w):St w w [] []:=⟨At.start w,fun B h=>absurd h (by simp),hp⟩
theorem St.step (h:St w W L Bs) (hb:Below W.heap.size W W'):St w W' L Bs:=⟨h.at_.step hb,fun B hB=>(h.bas B hB).below hb,h.pow.below hb⟩
theorem St.drew (h:St w W L Bs):St w W.drew L Bs:=h.step (Below.drew (Below.refl _ _))
theorem St.add (h:St w W L Bs) {B:Bas} (hB:BasAt W (Old W) B):St w W L (B::Bs):=⟨h.at_,fun C hC=>by rcases List.mem_cons.1 hC with rfl|hC;exact hB;exact h.bas C hC,h.pow⟩
theorem St.put (h:St w W L Bs) {k:Nat} {o:Obj} (ho:W.heap[k]?=some o):St w W ((k,o)::L) Bs:=⟨h.at_.cons ho,h.bas,h.pow⟩
theorem St.row (h:St w W L Bs) {b:Nat} {cs:List Value} {t:TypeId} (hm:(b,.cells cs.toArray t (0,0))∈L):W.rangeAt b 0 cs:=range_of (h.at_.has _ hm)
end
theorem wpList_var {P:Program} {ops:Array Oper} {rest:List Oper} {o:Oper} {a:Act} {w V:World} {L:List (Nat×Obj)} {Bs:List Bas} {Q:Exit→Act→World→Prop} {old:Array Value} (hgd:o.guard=none) (T:TypeId) (x y:Operand) (ho:o.op=.store T x y) (hd:o.dst=none) (cs:Array Value)
 (hx:a.eval x=.pointer (some ⟨V.heap.size,0,none⟩)) (hy:a.eval y=.agg cs) (hi:(P.info? T).map (·.size)=some cs.size) (hold:old.size=cs.size) (h1:cs.all (·.oneCell')=true) (hSt:St w V L Bs)
 (hk:∀b V',V.heap.size=b→St w V' ((b,.cells cs T (0,0))::L) Bs→wpList P ops Q rest a V'):wpList P ops Q (o::rest) a (V.alloc (.cells old T)):=by
 refine wpList_store_rowN hgd T x y ho hd V.heap.size cs old hx hy hi (World.alloc_heap_new _ _) hold h1 fun V' h2 h3=> ?_;exact hk _ V' rfl ((hSt.step (h3.below (below_new V _) (Nat.le_refl _) (fun k hk=>by omega))).put h2)
theorem OL.first {α:Type} {w:World} {B k n:Nat} {T:TypeId} {f:α→List Value} {v x:Value} {l:List α} (h:OL w B T k f v l) (hn:l.length=n) (hl:0<n) (hk:0<k) (hx:(l.flatMap f)[0]?=some x):∃g cap cur,v=.slice (some ⟨g,0,none⟩) n cap∧w.heap[g]?=some (.cells cur T (0,0))∧cur[0]?=some x:=by
 subst hn;rcases h.2 with⟨e1,h0⟩|⟨g,cap,cur,e1,hb,hc,h4,h5,h6,h7⟩
 · omega
 · refine⟨g,cap,cur,e1,hc,?_⟩
   have hm:0<l.length*k:=Nat.mul_pos hl hk;(have h8:(cur.toList.take (l.length*k))[0]?=some x:=by rw[h7];exact hx);rw[List.getElem?_take,if_pos hm] at h8;simpa using h8
theorem rootB_size (n:Nat):(rootB n).size=32:=by
 show(rootL n).toArray.size=32;simp[rootL]
theorem exW:∀e∈exL,e.Wire:=by
 have h1:=rootB_size 1;have h2:=rootB_size 2;intro e he;simp only[exL,List.mem_cons,List.not_mem_nil,or_false] at he;rcases he with rfl|rfl|rfl|rfl|rfl|rfl|rfl|rfl
 · exact⟨by decide,by decide,by decide,by decide,by decide,by decide,by decide⟩
 · exact⟨by decide,by decide,by decide,by decide,by decide,by decide,by decide⟩
 · exact⟨by decide,by decide,by decide,by decide,by decide,by decide,by decide⟩
 · exact⟨by decide,by decide,by decide,by decide,by decide,by decide,by show(rootB 1).size≤65536;omega⟩
 · exact⟨by decide,by decide,by decide,by decide,by decide,by decide,by show(rootB 2).size≤65536;omega⟩
 · exact⟨by decide,by decide,by decide,by decide,by decide,by decide,by decide⟩
 · exact⟨by decide,by decide,by decide,by decide,by decide,by decide,by decide⟩
 · exact⟨by decide,by decide,by decide,by decide,by decide,by decide,by decide⟩
def ExB (B:Bas) (day:Int):Prop:=∀j,j<9→B.ls j=knownL exL day j
def HistIs (ps:List Pt) (w:World) (e:Ending) (w':World):Prop:=∃v,e=.returned (.agg #[.string ⟨#[49]⟩,.string ⟨#[49,48]⟩,v])∧OL w' w.heap.size 86 5 ptC v ps∧Below w.heap.size w w'
theorem hist_of (B:Bas) (l0:List Ent) (ps:List Pt) (h0:B.ls 0=l0) (h1:B.ls 1=[ex1]) (hl:l0.length≤1000000) (h20:(aboutL l0 2).length<20) (hps:(histL (aboutL l0 2)).map ptOf=ps) (w:World) (hB:BasAt w (Old w) B):
 Calls Tryz.prog 27 #[B.val,.int .i64 2] w (HistIs ps w):=by
 refine(history_walk B 2 w hB (by rw[h0];exact hl) (by rw[h0];exact h20)).mono fun e w' q=> ?_;obtain⟨v,rfl,h2,h3⟩:=q;refine⟨v,?_,?_,h3⟩
 · rw[h1];rfl
 · unfold histPts at h2
   rw[h0,h1,hps] at h2;exact h2
section
variable {B:Bas} {w:World} (hB:BasAt w (Old w) B)
include hB
theorem hist9 (h:ExB B 9):Calls Tryz.prog 27 #[B.val,.int .i64 2] w (HistIs [] w):=
 hist_of B [] [] (by rw[h 0 (by decide),k9_0]) (by rw[h 1 (by decide),k9_1]) (by simp) (by simp[aboutL]) (by kernel_rfl) w hB
theorem hist10 (h:ExB B 10):Calls Tryz.prog 27 #[B.val,.int .i64 2] w (HistIs [ptOf ex2] w):=
 hist_of B [ex2] [ptOf ex2] (by rw[h 0 (by decide),k10_0]) (by rw[h 1 (by decide),k10_1]) (by simp) (by decide) (by rw[hl10];rfl) w hB
theorem hist30 (h:ExB B 30):Calls Tryz.prog 27 #[B.val,.int .i64 2] w (HistIs [ptOf ex3,ptOf ex2] w):=
 hist_of B [ex2,ex3] [ptOf ex3,ptOf ex2] (by rw[h 0 (by decide),k30_0]) (by rw[h 1 (by decide),k30_1]) (by simp) (by decide) (by rw[hl30];rfl) w hB
theorem key101 (h:ExB B 30):Calls Tryz.prog 23 #[B.val,.int .i64 3,.int .i64 101] w fun e w'=>e=.returned (.tuple #[.string ⟨#[]⟩,.bool false])∧Below w.heap.size w w':=by
 have hk:keyB B 3 101=(zeroE,false):=by unfold keyB;rw[h 4 (by decide),h 5 (by decide),k30_4,k30_5];kernel_rfl
 have:=knownKey_walk B 3 101 w hB;rw[hk] at this;exact this
theorem keyx (h:ExB B 30) (t:Int) (n:Nat) (hn:n≤1000000) (hk:((keyFold ([ex4,ex5].filter fun e=>(decide (e.frm≤t)&&decide (t≤e.til))&&(decide (e.lab=3)&& !(revoked [ex6] e.id t)))).2&&decide ((keyFold ([ex4,ex5].filter fun e=>(decide (e.frm≤t)&&decide (t≤e.til))&&(decide (e.lab=3)&& !(revoked [ex6] e.id t)))).1.text=rootB n))=true):
 Calls Tryz.prog 49 #[B.val,.int .i64 t,.int .i64 n] w (ValP w true):=by
 have:=keyIs_walk B t n hn w hB;have hi:keyIs B t n=true:=by unfold keyIs keyB;rw[h 4 (by decide),h 5 (by decide),k30_4,k30_5];exact hk
 rw[hi] at this;exact this
theorem key49 (h:ExB B 30):Calls Tryz.prog 49 #[B.val,.int .i64 49,.int .i64 1] w (ValP w true):=keyx hB h 49 1 (by decide) (by kernel_rfl)
theorem key50 (h:ExB B 30):Calls Tryz.prog 49 #[B.val,.int .i64 50,.int .i64 2] w (ValP w true):=keyx hB h 50 2 (by decide) (by kernel_rfl)
theorem key59 (h:ExB B 30):Calls Tryz.prog 49 #[B.val,.int .i64 59,.int .i64 2] w (ValP w true):=keyx hB h 59 2 (by decide) (by kernel_rfl)
theorem key60 (h:ExB B 30):Calls Tryz.prog 49 #[B.val,.int .i64 60,.int .i64 1] w (ValP w true):=keyx hB h 60 1 (by decide) (by kernel_rfl)
theorem key100 (h:ExB B 30):Calls Tryz.prog 49 #[B.val,.int .i64 100,.int .i64 1] w (ValP w true):=keyx hB h 100 1 (by decide) (by kernel_rfl)
theorem bud30 (h:ExB B 30):Calls Tryz.prog 24 #[B.val,.int .i64 2] w fun e w'=>e=.returned (.tuple #[.agg #[.string ⟨#[51]⟩,.string ⟨#[49]⟩],.bool true])∧Below w.heap.size w w':=by
 have:=budget_walk B 2 w hB;rw[h 7 (by decide),k30_7] at this;exact this
theorem cust30 (h:ExB B 30):Calls Tryz.prog 31 #[B.val,.int .i64 2] w fun e w'=> ∃v,e=.returned v∧OL w' w.heap.size 3 1 (one iv) v [9]∧Below w.heap.size w w':=by
 have:=customers_walk B 2 w hB (by rw[h 8 (by decide),k30_8];decide);unfold customersB at this;rw[h 8 (by decide),k30_8,su8] at this;exact this
end
theorem same_self {B:Bas} {w:World} (hB:BasAt w (Old w) B):Calls Tryz.prog 14 #[B.val,B.val] w (ValP w true):=by
 have:=same_walk B B w hB hB
 rwa[(sameB_iff B B).2 (fun _ _=>rfl)] at this
theorem same_not {B C:Bas} {w:World} (hB:BasAt w (Old w) B) (hC:BasAt w (Old w) C) (h10:ExB B 10) (h30:ExB C 30):Calls Tryz.prog 14 #[B.val,C.val] w (ValP w false):=by
 have:=same_walk B C w hB hC
 have hn:sameB B C=false:=by
  cases hs:sameB B C with
  |false=>rfl
  | true=>
    have:=(sameB_iff B C).1 hs 0 (by decide);rw[h10 0 (by decide),h30 0 (by decide),k10_0,k30_0] at this;injection this with _ this;cases this
 rwa[hn] at this
theorem OL.empty {α:Type} {w:World} {B k:Nat} {T:TypeId} {f:α→List Value} {v:Value} (h:OL w B T k f v ([]:List α)):∃A c,v=.slice A 0 c:=by
 obtain⟨A,c,e,-,-⟩:=h.slice;exact⟨A,c,e⟩
theorem sameInts9 {w:World} {A A2:Option Addr} {c c2:Nat} (hA:RowAt w (one iv) 1 A [9]) (hA2:RowAt w (one iv) 1 A2 [9]):Calls Tryz.prog 30 #[.slice A 1 c,.slice A2 1 c2] w (ValP w true):=
 sameInts_walk [9] [9] A A2 1 c 1 c2 rfl rfl (by decide) w hA hA2
theorem eql_rat (a b:ByteArray) (W:World):(binOp .eql 29 (.agg #[.string a,.string b]) (.agg #[.string a,.string b])).run Tryz.prog W=.ok (.bool true) W:=by
 go_simp
theorem guard_rat (x y:Operand) (cs ds:Array Value) (W:World):(eqGuard .eql 29 x y (.agg cs) (.agg ds)).run Tryz.prog W=.ok () W:=by kernel_rfl
theorem sane_walk (w:World) (hp:Pow10 w):Calls Tryz.prog 11 #[] w (ValP w true):=by
 have HF:=hZ (St.start hp);clear hp
 go_enter Tryz.func11,Tryz.ntmps11
 go_wp2_with (first
  |(go_at_call 48;(with_reducible refine(example_walk _).mono ?_);rintro e2 w2 ⟨bx,rfl,hat,hb⟩;have HF1:=HF.out.step hb;have HF:=hZ HF1;have HX:=hZ hat;clear hb HF1 hat)
  |(go_at_call 15;(with_reducible refine(knownOf_walk exL 10 (some ⟨bx,0,none⟩) 8 8 rfl (by decide) _ HX.out exW HF.out.pow).mono ?_);rintro e2 w2 ⟨B10,rfl,hB,hI,hb⟩;have HF1:=(HF.out.step hb).add hB;have HF:=hZ HF1;have HI10:Hid (ExB B10 10):=hZ hI;clear hb hB HF1 hI)
  |(go_at_call 15;(with_reducible refine(knownOf_walk exL 30 (some ⟨bx,0,none⟩) 8 8 rfl (by decide) _ HX.out exW HF.out.pow).mono ?_);rintro e2 w2 ⟨B30,rfl,hB,hI,hb⟩;have HF1:=(HF.out.step hb).add hB;have HF:=hZ HF1;have HI30:Hid (ExB B30 30):=hZ hI;clear hb hB HF1 hI)
  |(go_at_call 15;(with_reducible refine(knownOf_walk exL 9 (some ⟨bx,0,none⟩) 8 8 rfl (by decide) _ HX.out exW HF.out.pow).mono ?_);rintro e2 w2 ⟨B9,rfl,hB,hI,hb⟩;have HF1:=(HF.out.step hb).add hB;have HF:=hZ HF1;have HI9:Hid (ExB B9 9):=hZ hI;clear hb hB HF1 hI)
  |((with_reducible refine wpList_var rfl 36 (.tmp 1) (.tmp 12) rfl rfl (B10.cells.toArray) ?hx ?hy ?hi ?ho ?h1 HF.out ?_);(case hx=>rfl);(case hy=>rfl);(case hi=>exact ibase B10);(case ho=>rfl);(case h1=>exact one_base _);intro b1 V hb hst;rw[hb];have HF:=hZ hst;clear hb hst)
  |((with_reducible refine wpList_var rfl 36 (.tmp 2) (.tmp 14) rfl rfl (B30.cells.toArray) ?hx ?hy ?hi ?ho ?h1 HF.out ?_);(case hx=>rfl);(case hy=>rfl);(case hi=>exact ibase B30);(case ho=>rfl);(case h1=>exact one_base _);intro b2 V hb hst;rw[hb];have HF:=hZ hst;clear hb hst)
  |((with_reducible refine wpList_load_midw ?hw 36 (.tmp 1) rfl b1 0 ?hx B10.cells _ (HF.out.row (b:=b1) (cs:=B10.cells) (t:=36) (by simp)) Tryz.underlying36 rfl (ibase B10) ?_);(case hw=>rfl);(case hx=>rfl))
  |((with_reducible refine wpList_load_midw ?hw 36 (.tmp 2) rfl b2 0 ?hx B30.cells _ (HF.out.row (b:=b2) (cs:=B30.cells) (t:=36) (by simp)) Tryz.underlying36 rfl (ibase B30) ?_);(case hw=>rfl);(case hx=>rfl))
  |(go_at_call 27;(with_reducible refine(hist9 (HF.out.bas B9 (by simp)) HI9.out).mono ?_);rintro e2 w2 ⟨v9,rfl,ho,hb⟩;obtain⟨A9,c9,rfl⟩:=OL.empty ho;have HF1:=HF.out.step hb;have HF:=hZ HF1;clear hb HF1 ho)
  |(go_at_call 27;(with_reducible refine(hist10 (HF.out.bas B10 (by simp)) HI10.out).mono ?_);rintro e2 w2 ⟨v9,rfl,ho,hb⟩;obtain⟨g4,c4,cur4,rfl,hg,hc⟩:=OL.first (n:=1) ho rfl (by decide) (by decide) (x:=.int .i64 10) rfl;have HF1:=(HF.out.step hb).put hg;have HF:=hZ HF1;have HC4:=hZ hc;clear hb HF1 ho hg hc)
  |(go_at_call 27;(with_reducible refine(hist30 (HF.out.bas B30 (by simp)) HI30.out).mono ?_);rintro e2 w2 ⟨v9,rfl,ho,hb⟩;obtain⟨g5,c5,cur5,rfl,hg,hc⟩:=OL.first (n:=2) ho rfl (by decide) (by decide) (x:=.int .i64 5) rfl;have HF1:=(HF.out.step hb).put hg;have HF:=hZ HF1;have HC5:=hZ hc;clear hb HF1 ho hg hc)
  |((with_reducible refine wpList_var rfl 58 (.tmp 3) (.tmp 17) rfl rfl (#[.string ⟨#[49]⟩,.string ⟨#[49,48]⟩,.slice A9 0 c9]) ?hx ?hy ?hi ?ho ?h1 HF.out ?_);(case hx=>rfl);(case hy=>rfl);(case hi=>kernel_rfl);(case ho=>rfl);(case h1=>exact one_hist _ _ _ rfl);intro b3 V hb hst;rw[hb];have HF:=hZ hst;clear hb hst)
  |((with_reducible refine wpList_var rfl 58 (.tmp 4) (.tmp 19) rfl rfl (#[.string ⟨#[49]⟩,.string ⟨#[49,48]⟩,.slice (some ⟨g4,0,none⟩) 1 c4]) ?hx ?hy ?hi ?ho ?h1 HF.out ?_);(case hx=>rfl);(case hy=>rfl);(case hi=>kernel_rfl);(case ho=>rfl);(case h1=>exact one_hist _ _ _ rfl);intro b4 V hb hst;rw[hb];have HF:=hZ hst;clear hb hst)
  |((with_reducible refine wpList_var rfl 58 (.tmp 5) (.tmp 21) rfl rfl (#[.string ⟨#[49]⟩,.string ⟨#[49,48]⟩,.slice (some ⟨g5,0,none⟩) 2 c5]) ?hx ?hy ?hi ?ho ?h1 HF.out ?_);(case hx=>rfl);(case hy=>rfl);(case hi=>kernel_rfl);(case ho=>rfl);(case h1=>exact one_hist _ _ _ rfl);intro b5 V hb hst;rw[hb];have HF:=hZ hst;clear hb hst)
  |(go_at_call 23;(with_reducible refine(key101 (HF.out.bas B30 (by simp)) HI30.out).mono ?_);rintro e2 w2 ⟨rfl,hb⟩;have HF1:=HF.out.step hb;have HF:=hZ HF1;clear hb HF1)
  |(go_at_call 24;(with_reducible refine(bud30 (HF.out.bas B30 (by simp)) HI30.out).mono ?_);rintro e2 w2 ⟨rfl,hb⟩;have HF1:=HF.out.step hb;have HF:=hZ HF1;clear hb HF1)
  |((with_reducible refine wpList_var rfl 29 (.tmp 8) (.tmp 30) rfl rfl (#[.string ⟨#[51]⟩,.string ⟨#[49]⟩]) ?hx ?hy ?hi ?ho ?h1 HF.out ?_);(case hx=>rfl);(case hy=>rfl);(case hi=>kernel_rfl);(case ho=>rfl);(case h1=>simp[Value.oneCell']);intro b8 V hb hst;rw[hb];have HF:=hZ hst;clear hb hst)
  |(go_at_call 49;(with_reducible refine(key49 (HF.out.bas B30 (by simp)) HI30.out).mono ?_);rintro e2 w2 ⟨rfl,hb⟩;have HF1:=HF.out.step hb;have HF:=hZ HF1;clear hb HF1)
  |(go_at_call 49;(with_reducible refine(key50 (HF.out.bas B30 (by simp)) HI30.out).mono ?_);rintro e2 w2 ⟨rfl,hb⟩;have HF1:=HF.out.step hb;have HF:=hZ HF1;clear hb HF1)
  |(go_at_call 49;(with_reducible refine(key59 (HF.out.bas B30 (by simp)) HI30.out).mono ?_);rintro e2 w2 ⟨rfl,hb⟩;have HF1:=HF.out.step hb;have HF:=hZ HF1;clear hb HF1)
  |(go_at_call 49;(with_reducible refine(key60 (HF.out.bas B30 (by simp)) HI30.out).mono ?_);rintro e2 w2 ⟨rfl,hb⟩;have HF1:=HF.out.step hb;have HF:=hZ HF1;clear hb HF1)
  | (go_at_call 49;(with_reducible refine(key100 (HF.out.bas B30 (by simp)) HI30.out).mono ?_);rintro e2 wK ⟨rfl,hb⟩;have HF1:=HF.out.step hb;have HF:=hZ HF1;clear hb HF1
     have x4:=HF.out.at_.cell (b:=b4) (cs:=#[.string ⟨#[49]⟩,.string ⟨#[49,48]⟩,.slice (some ⟨g4,0,none⟩) 1 c4]) (t:=58) (by simp) (i:=2) rfl
     have x5:=HF.out.at_.cell (b:=b5) (cs:=#[.string ⟨#[49]⟩,.string ⟨#[49,48]⟩,.slice (some ⟨g5,0,none⟩) 2 c5]) (t:=58) (by simp) (i:=2) rfl)
  |fail)
 clear x4 x5;obtain⟨L,hst,mb1,mb2,mb3,mb4,mb5,mb8,mg4,mg5⟩:∃L,St w wK L [B9,B30,B10]∧(b1,.cells (B10.cells.toArray:Array Value) 36 (0,0))∈L∧(b2,.cells (B30.cells.toArray:Array Value) 36 (0,0))∈L∧(b3,.cells (#[.string ⟨#[49]⟩,.string ⟨#[49,48]⟩,.slice A9 0 c9]:Array Value) 58 (0,0))∈L∧(b4,.cells (#[.string ⟨#[49]⟩,.string ⟨#[49,48]⟩,.slice (some ⟨g4,0,none⟩) 1 c4]:Array Value) 58 (0,0))∈L∧(b5,.cells (#[.string ⟨#[49]⟩,.string ⟨#[49,48]⟩,.slice (some ⟨g5,0,none⟩) 2 c5]:Array Value) 58 (0,0))∈L∧(b8,.cells (#[.string ⟨#[51]⟩,.string ⟨#[49]⟩]:Array Value) 29 (0,0))∈L∧(g4,.cells (cur4:Array Value) 86 (0,0))∈L∧(g5,.cells (cur5:Array Value) 86 (0,0))∈L:=⟨_,HF.out,by simp,by simp,by simp,by simp,by simp,by simp,by simp,by simp⟩;have HMK:Hid (∀U,St w U L [B9,B30,B10]→St w U L [B9,B30,B10]∧U.cell? ⟨b3,2,none⟩=some (.slice A9 0 c9)∧U.cell? ⟨b4,2,none⟩=some (.slice (some ⟨g4,0,none⟩) 1 c4)∧U.cell? ⟨g4,0,none⟩=some (.int .i64 10)∧U.cell? ⟨b5,2,none⟩=some (.slice (some ⟨g5,0,none⟩) 2 c5)∧U.cell? ⟨g5,0,none⟩=some (.int .i64 5)):=hZ (fun U h=>⟨h,h.at_.cell mb3 (i:=2) rfl,h.at_.cell mb4 (i:=2) rfl,h.at_.cell mg4 (i:=0) HC4.out,h.at_.cell mb5 (i:=2) rfl,h.at_.cell mg5 (i:=0) HC5.out⟩);have HM:=hZ (And.intro mb1 (And.intro mb2 (And.intro mb3 mb8)));have hS0:=HMK.out _ hst.drew;clear HF hst mb1 mb2 mb3 mb4 mb5 mb8 mg4 mg5;refine wp_region_noPanic ?_;refine wp_region_held_drew (S:=fun U=>St w U L [B9,B30,B10]∧U.cell? ⟨b3,2,none⟩=some (.slice A9 0 c9)∧U.cell? ⟨b4,2,none⟩=some (.slice (some ⟨g4,0,none⟩) 1 c4)∧U.cell? ⟨g4,0,none⟩=some (.int .i64 10)∧U.cell? ⟨b5,2,none⟩=some (.slice (some ⟨g5,0,none⟩) 2 c5)∧U.cell? ⟨g5,0,none⟩=some (.int .i64 5)) (by kernel_rfl) hS0 (fun hHeld=> ?_)
 obtain⟨U0,hU0⟩:=oQ (wK.drew);rw[hU0] at hHeld⊢;clear hU0 hS0;refine tk 0 ?_;refine tk 1 ?_;refine tk 2 ?_;refine tk 3 ?_;refine tk 4 ?_;refine tk 5 ?_;refine tl 6 rfl (yieldsIf_load_mid (by rfl) 29 (.tmp 69) rfl b3 0 (by rfl) [.string ⟨#[49]⟩,.string ⟨#[49,48]⟩] _ (fun w hw=>fun k u hu=>(hw.1.row (cs:=[.string ⟨#[49]⟩,.string ⟨#[49,48]⟩,.slice A9 0 c9]) HM.out.2.2.1) k u (by rcases k with _|_|k<;>first|(simp at hu;done)|simpa using hu)) Tryz.underlying29 rfl (by kernel_rfl)) ?_;refine tk 7 ?_;refine tl 8 rfl (yields_eql (by rfl) 29 29 (.tmp 70) (.tmp 71) (by rfl) (.agg #[.string ⟨#[49]⟩,.string ⟨#[49,48]⟩]) (.agg #[.string ⟨#[49]⟩,.string ⟨#[49,48]⟩]) (by rfl) (by rfl) true (fun w=>guard_rat _ _ _ _ w) (fun w=>eql_rat _ _ w)) ?_;refine tk 9 ?_;refine tk 10 ?_;refine tk 11 ?_;refine tk 12 ?_;refine tk 13 ?_;refine tk 14 ?_;refine tk 15 ?_;refine tk 16 ?_;refine tk 17 ?_;refine tk 18 ?_;refine tk 19 ?_;refine tk 20 ?_;refine tk 21 ?_;refine tk 22 ?_;refine tk 23 ?_;refine tk 24 ?_;refine tk 25 ?_;refine tk 26 ?_;refine tk 27 ?_;refine tk 28 ?_;refine tk 29 ?_;refine tl 30 rfl (yieldsIf_load_mid (by rfl) 36 (.tmp 1) rfl b1 0 (by rfl) B10.cells _ (fun w hw=>hw.1.row HM.out.1) Tryz.underlying36 rfl (ibase B10)) ?_;refine tl 31 rfl (yieldsIf_load_mid (by rfl) 36 (.tmp 1) rfl b1 0 (by rfl) B10.cells _ (fun w hw=>hw.1.row HM.out.1) Tryz.underlying36 rfl (ibase B10)) ?_;refine rd [32] ?_;refine rcE fun K hK=> ?_;go_simp
 (with_reducible refine(same_self (hHeld.1.bas B10 (by simp))).mono ?_)
 rintro e5 U5 ⟨rfl,hb5⟩;have HH:=hZ (hHeld.1.step hb5);clear hb5;refine kk hK (HMK.out _ HH.out) (fun hHeld=> ?_);clear hK K;refine tk 33 ?_;refine tk 34 ?_;refine tl 35 rfl (yieldsIf_load_mid (by rfl) 36 (.tmp 1) rfl b1 0 (by rfl) B10.cells _ (fun w hw=>hw.1.row HM.out.1) Tryz.underlying36 rfl (ibase B10)) ?_;refine tl 36 rfl (yieldsIf_load_mid (by rfl) 36 (.tmp 2) rfl b2 0 (by rfl) B30.cells _ (fun w hw=>hw.1.row HM.out.2.1) Tryz.underlying36 rfl (ibase B30)) ?_;refine rd [37] ?_;refine rcE fun K hK=> ?_;go_simp
 (with_reducible refine(same_not (hHeld.1.bas B10 (by simp)) (hHeld.1.bas B30 (by simp)) HI10.out HI30.out).mono ?_)
 rintro e5 U5 ⟨rfl,hb5⟩;have HH:=hZ (hHeld.1.step hb5);clear hb5;refine kk hK (HMK.out _ HH.out) (fun hHeld=> ?_);clear hK K;refine tk 38 ?_;refine tk 39 ?_;refine tk 40 ?_;refine tk 41 ?_;refine tk 42 ?_;refine tk 43 ?_;refine tl 44 rfl (yieldsIf_load_mid (by rfl) 29 (.tmp 8) rfl b8 0 (by rfl) [.string ⟨#[51]⟩,.string ⟨#[49]⟩] _ (fun w hw=>hw.1.row HM.out.2.2.2) Tryz.underlying29 rfl (by kernel_rfl)) ?_;refine rd [45] ?_;refine rcE fun K hK=> ?_;go_simp
 (with_reducible refine(n_walk _ _).mono ?_)
 rintro e5 U5 ⟨rfl,hb5⟩;have HH:=hZ (hHeld.1.step hb5);clear hb5;refine kk hK (HMK.out _ HH.out) (fun hHeld=> ?_);clear hK K;refine tl 46 rfl (yields_eql (by rfl) 29 29 (.tmp 108) (.tmp 109) (by rfl) (.agg #[.string ⟨#[51]⟩,.string ⟨#[49]⟩]) (.agg #[.string ⟨#[51]⟩,.string ⟨#[49]⟩]) (by rfl) (by rfl) true (fun w=>guard_rat _ _ _ _ w) (fun w=>eql_rat _ _ w)) ?_;refine tk 47 ?_;refine tk 48 ?_;refine tl 49 rfl (yieldsIf_load_mid (by rfl) 36 (.tmp 2) rfl b2 0 (by rfl) B30.cells _ (fun w hw=>hw.1.row HM.out.2.1) Tryz.underlying36 rfl (ibase B30)) ?_;refine rd [50,51] ?_;refine rc (fun K hK=> ?_) ?_
 ·
  go_simp
  (with_reducible refine(cust30 (hHeld.1.bas B30 (by simp)) HI30.out).mono ?_)
  rintro e7 U7 ⟨v7,rfl,ho7,hb7⟩;obtain⟨A7,c7,hv7,-,-⟩:=ho7.slice;have hv7':v7=.slice A7 1 c7:=hv7;subst hv7';have HR7:Hid (RowAt U7 (one iv) 1 A7 [9]):=hZ (RowAt.of_ol (fun _=>rfl) ho7);have HH:=hZ (hHeld.1.step hb7);clear ho7 hv7 hb7;refine kk hK (HMK.out _ HH.out) (fun hHeld=> ?_);clear hK K;refine rd [51] ?_;refine rcE fun K hK=> ?_;go_simp;have hbl9:=below_new U7 (.cells #[.int .i64 9] 3);have hn9:=World.alloc_heap_new U7 (.cells #[.int .i64 9] 3);obtain⟨b9,hb9⟩:=oQ (U7.heap.size);obtain⟨V9,hV9⟩:=oQ (U7.alloc (.cells #[.int .i64 9] 3));have HH:=hZ (hHeld.1.step hbl9);have HR7:Hid (RowAt V9 (one iv) 1 A7 [9]):=hZ (by rw[←hV9];exact HR7.out.below hbl9);rw[hV9] at hn9 HH⊢;rw[hb9] at hn9⊢;have HR9:Hid (RowAt V9 (one iv) 1 (some ⟨b9,0,none⟩) [9]):=hZ (RowAt.of_block (fun _=>rfl) hn9);clear hbl9 hn9 hb9 hV9;refine kk hK (HMK.out _ HH.out) (fun hHeld=> ?_);clear hK K;refine rd [52] ?_;refine rcE fun K hK=> ?_;go_simp
  (with_reducible refine(sameInts9 HR7.out HR9.out).mono ?_)
  rintro e8 U8 ⟨rfl,hb8⟩;have HH:=hZ (hHeld.1.step hb8);clear hb8;refine kk hK (HMK.out _ HH.out) (fun hHeld=> ?_);clear hK K;refine tk 53 ?_;refine tk 54 ?_;refine dn ?_;clear hHeld;go_wp2;go_ret;exact⟨rfl,HH.out.at_.below⟩
 refine rcE fun K hK=> ?_;go_simp;have hbl9:=below_new U5 (.cells #[.int .i64 9] 3);have hn9:=World.alloc_heap_new U5 (.cells #[.int .i64 9] 3);obtain⟨b9,hb9⟩:=oQ (U5.heap.size);obtain⟨V9,hV9⟩:=oQ (U5.alloc (.cells #[.int .i64 9] 3));have HH:=hZ (hHeld.1.step hbl9);rw[hV9] at hn9 HH⊢;rw[hb9] at hn9⊢;have HR9:Hid (RowAt V9 (one iv) 1 (some ⟨b9,0,none⟩) [9]):=hZ (RowAt.of_block (fun _=>rfl) hn9);clear hbl9 hn9 hb9 hV9;refine kk hK (HMK.out _ HH.out) (fun hHeld=> ?_);clear hK K;refine rd [50] ?_;refine rcE fun K hK=> ?_;go_simp
 (with_reducible refine(cust30 (hHeld.1.bas B30 (by simp)) HI30.out).mono ?_)
 rintro e7 U7 ⟨v7,rfl,ho7,hb7⟩;obtain⟨A7,c7,hv7,-,-⟩:=ho7.slice;have hv7':v7=.slice A7 1 c7:=hv7;subst hv7';have HR7:Hid (RowAt U7 (one iv) 1 A7 [9]):=hZ (RowAt.of_ol (fun _=>rfl) ho7);have HH:=hZ (hHeld.1.step hb7);have HR9:=hZ (HR9.out.below hb7);clear ho7 hv7 hb7;refine kk hK (HMK.out _ HH.out) (fun hHeld=> ?_);clear hK K;refine rd [52] ?_;refine rcE fun K hK=> ?_;go_simp
 (with_reducible refine(sameInts9 HR7.out HR9.out).mono ?_)
 rintro e8 U8 ⟨rfl,hb8⟩;have HH:=hZ (hHeld.1.step hb8);clear hb8;refine kk hK (HMK.out _ HH.out) (fun hHeld=> ?_);clear hK K;refine tk 53 ?_;refine tk 54 ?_;refine dn ?_;clear hHeld;go_wp2;go_ret;exact⟨rfl,HH.out.at_.below⟩
end Go.Proofs.YteeifhlhpiimoaaGreatDoor
end
section
namespace Go.Proofs.YteeifhlhpiimoaaGreatDoor
open Go
def dv:List Nat→Nat
 |[]=>0
 |d::l=>d+10*dv l
def dg (n:Nat):List Nat:=if n=0 then[] else n%10::dg (n/10)
termination_by n
decreasing_by omega
def Dgs (l:List Nat):Prop:=∀d∈l,d<10
theorem dg_zero:dg 0=[]:=by rw[dg,if_pos rfl]
theorem dg_pos {n:Nat} (h:0<n):dg n=n%10::dg (n/10):=by rw[dg,if_neg (by omega)]
theorem dv_dg (n:Nat):dv (dg n)=n:=by
 induction n using Nat.strongRecOn with
 | ind n ih=>
   rcases Nat.eq_zero_or_pos n with rfl|h
   · rw[dg_zero];rfl
   · rw[dg_pos h,dv,ih (n/10) (by omega)];omega
theorem dg_dgs (n:Nat):Dgs (dg n):=by
 induction n using Nat.strongRecOn with
 | ind n ih=>
   rcases Nat.eq_zero_or_pos n with rfl|h
   · rw[dg_zero];intro d hd;cases hd
   · rw[dg_pos h]
     intro d hd;rcases List.mem_cons.1 hd with rfl|hd
     · omega
     · exact ih (n/10) (by omega) d hd
theorem dv_app (l m:List Nat):dv (l++m)=dv l+10^l.length*dv m:=by
 induction l with
 |nil=>simp[dv]
 |cons d l ih=>rw[List.cons_append,dv,ih,dv,List.length_cons,Nat.pow_succ,Nat.mul_add,Nat.mul_comm (10^l.length) 10,Nat.mul_assoc];omega
theorem Dgs.tail {d:Nat} {l:List Nat} (h:Dgs (d::l)):Dgs l:=fun x hx=>h x (by simp[hx])
theorem Dgs.take {l:List Nat} (h:Dgs l) (k:Nat):Dgs (l.take k):=fun x hx=>h x (List.mem_of_mem_take hx)
theorem Dgs.app {l m:List Nat} (h:Dgs l) (h2:Dgs m):Dgs (l++m):=fun x hx=>(List.mem_append.1 hx).elim (h x) (h2 x)
theorem dv_lt {l:List Nat} (h:Dgs l):dv l<10^l.length:=by
 induction l with
 |nil=>simp[dv]
 | cons d l ih=>
   have h1:=ih h.tail;have h2:=h d (by simp);rw[dv,List.length_cons,Nat.pow_succ];omega
theorem dg_dv {l:List Nat} (h:Dgs l) (hl:∀d∈l.getLast?,d≠0):dg (dv l)=l:=by
 induction l with
 |nil=>exact dg_zero
 | cons d l ih=>
   have h2:=h d (by simp)
   have h3:0<dv (d::l):=by
    rw[dv]
    cases l with
    |nil=>have:=hl d (by simp);omega
    | cons e l=>
      have hl':∀x∈(e::l).getLast?,x≠0:=fun x hx=>hl x (by rw[List.getLast?_cons_cons];exact hx);have:=ih h.tail hl';rcases Nat.eq_zero_or_pos (dv (e::l)) with q|q
      · rw[q,dg_zero] at this;cases this
      · omega
   rw[dg_pos h3,dv];(have e1:(d+10*dv l)%10=d:=by omega);(have e2:(d+10*dv l)/10=dv l:=by omega);rw[e1,e2]
   cases l with
   |nil=>rw[dv,dg_zero]
   |cons e l=>rw[ih h.tail (fun x hx=>hl x (by rw[List.getLast?_cons_cons];exact hx))]
theorem dg_last (n:Nat):∀d∈(dg n).getLast?,d≠0:=by
 induction n using Nat.strongRecOn with
 | ind n ih=>
   rcases Nat.eq_zero_or_pos n with rfl|h
   · rw[dg_zero];intro d hd;cases hd
   · rw[dg_pos h]
     rcases Nat.lt_or_ge n 10 with q|q
     · rw[show n/10=0 by omega,dg_zero]
       intro d hd;simp at hd;omega
     · rw[dg_pos (show 0<n/10 by omega),List.getLast?_cons_cons,←dg_pos (show 0<n/10 by omega)]
       exact ih (n/10) (by omega)
theorem dv_zeros {l:List Nat} (h:∀d∈l,d=0):dv l=0:=by
 induction l with
 |nil=>rfl
 |cons d l ih=>rw[dv,ih (fun x hx=>h x (by simp[hx])),h d (by simp)]
theorem trim_spec {l:List Nat} {k:Nat} (h:Dgs l) (hz:∀d∈l.drop k,d=0) (hl:k=0∨∀d,l[k-1]?=some d→d≠0) (hk:k≤l.length):l.take k=dg (dv l):=by
 have e:dv l=dv (l.take k):=by
  conv=>lhs;rw[←List.take_append_drop k l]
  rw[dv_app,dv_zeros hz];omega
 rw[e,dg_dv (h.take k)];intro d hd;rcases hl with rfl|hl
 · simp at hd
 · refine hl d ?_
   have hd':(l.take k).getLast?=some d:=hd;rw[List.getLast?_eq_getElem?,List.length_take,Nat.min_eq_left hk,List.getElem?_take] at hd'
   split at hd'
   · exact hd'
   · cases hd'
theorem dg_len_lt {a b:Nat} (h:(dg a).length<(dg b).length):a<b:=by
 rcases Nat.lt_or_ge a b with q|q
 · exact q
 · exfalso
   have h1:=dv_lt (dg_dgs a);rw[dv_dg] at h1
   have h2:10^((dg b).length-1)≤b:=by
    have hl:=dg_last b;(have hp:0<(dg b).length:=by omega);have hs:dg b=(dg b).take ((dg b).length-1)++(dg b).drop ((dg b).length-1):=(List.take_append_drop _ _).symm
    have hdl:(dg b).drop ((dg b).length-1)=[(dg b)[(dg b).length-1]]:=by
     rw[List.drop_eq_getElem_cons (by omega)];rw[List.drop_of_length_le (by omega)]
    have hv:dv (dg b)=dv ((dg b).take ((dg b).length-1))+10^((dg b).length-1)*(dg b)[(dg b).length-1]:=by
     conv=>lhs;rw[hs,hdl]
     rw[dv_app];simp[dv]
    rw[dv_dg] at hv;have hne:(dg b)[(dg b).length-1]≠0:=hl _ (by rw[List.getLast?_eq_getElem?,List.getElem?_eq_getElem (by omega)];rfl);have:10^((dg b).length-1)*1≤10^((dg b).length-1)*(dg b)[(dg b).length-1]:=Nat.mul_le_mul_left _ (by omega);omega
   have h3:10^(dg a).length≤10^((dg b).length-1):=Nat.pow_le_pow_right (by omega) (by omega);omega
theorem dg_len_mono {a b:Nat} (h:a≤b):(dg a).length≤(dg b).length:=by
 rcases Nat.lt_or_ge (dg b).length (dg a).length with q|q
 · have:=dg_len_lt q;omega
 · exact q
theorem dg_len_le {n k:Nat} (h:n<10^k):(dg n).length≤k:=by
 rcases Nat.lt_or_ge k (dg n).length with q|q
 · exfalso
   induction k generalizing n with
   |zero=>simp at h;subst h;rw[dg_zero] at q;simp at q
   | succ k ih=>
     rcases Nat.eq_zero_or_pos n with rfl|hp
     · rw[dg_zero] at q;simp at q
     · rw[dg_pos hp,List.length_cons] at q
       rw[Nat.pow_succ] at h;exact ih (n:=n/10) (by omega) (by omega)
 · exact q
theorem ord_lt {a b:List Nat} {i x y:Nat} (ha:Dgs a) (hd:a.drop (i+1)=b.drop (i+1)) (hx:a[i]?=some x) (hy:b[i]?=some y) (h:x<y):dv a<dv b:=by
 have split:∀{l:List Nat} {z:Nat},l[i]?=some z→l=l.take i++(z::l.drop (i+1)):=fun{l z} hz=>by
  obtain⟨h1,h2⟩:=List.getElem?_eq_some_iff.1 hz;rw[←h2,←List.drop_eq_getElem_cons h1,List.take_append_drop]
 have la:(a.take i).length=i:=by rw[List.length_take];have:=(List.getElem?_eq_some_iff.1 hx).1;omega
 have lb:(b.take i).length=i:=by rw[List.length_take];have:=(List.getElem?_eq_some_iff.1 hy).1;omega
 have ea:dv a=dv (a.take i)+10^i*(x+10*dv (a.drop (i+1))):=by
  conv=>lhs;rw[split hx]
  rw[dv_app,la,dv]
 have eb:dv b=dv (b.take i)+10^i*(y+10*dv (a.drop (i+1))):=by
  conv=>lhs;rw[split hy]
  rw[dv_app,lb,dv,hd]
 have h1:=dv_lt (ha.take i);rw[la] at h1;have h3:10^i*((x+1)+10*dv (a.drop (i+1)))≤10^i*(y+10*dv (a.drop (i+1))):=Nat.mul_le_mul_left _ (by omega);rw[show x+1+10*dv (a.drop (i+1))=(x+10*dv (a.drop (i+1)))+1 by omega,Nat.mul_add,Nat.mul_one] at h3;omega
theorem take_dv {l:List Nat} {i x:Nat} (hx:l[i]?=some x):dv (l.take (i+1))=dv (l.take i)+10^i*x:=by
 obtain⟨h1,h2⟩:=List.getElem?_eq_some_iff.1 hx;rw[List.take_add_one,hx,dv_app,List.length_take,Nat.min_eq_left (by omega)];simp[dv]
theorem minus_step {a b o:List Nat} {i x y c d c':Nat} (h:dv o+dv (b.take i)=dv (a.take i)+c*10^i) (ho:o.length=i) (hx:a[i]?=some x) (hy:b[i]?=some y∨b.length≤i∧y=0) (hd:d+y+c=x+10*c'):dv (o++[d])+dv (b.take (i+1))=dv (a.take (i+1))+c'*10^(i+1):=by
 have eb:dv (b.take (i+1))=dv (b.take i)+10^i*y:=by
  rcases hy with hy|⟨h1,rfl⟩
  · exact take_dv hy
  · rw[List.take_of_length_le (by omega),List.take_of_length_le h1];omega
 rw[eb,take_dv hx,dv_app,ho,Nat.pow_succ];simp only[dv,Nat.mul_zero,Nat.add_zero];have e:=congrArg (10^i* ·) hd;simp only[Nat.mul_add] at e;have e3:c'*(10^i*10)=10^i*(10*c'):=by rw[←Nat.mul_assoc,Nat.mul_comm c',Nat.mul_assoc,Nat.mul_comm c']
 rw[e3];rw[Nat.mul_comm c] at h;omega
theorem minus_end {a b o:List Nat} {c:Nat} (h:dv o+dv (b.take a.length)=dv (a.take a.length)+c*10^a.length) (ho:o.length=a.length) (hd:Dgs o) (hb:b.length≤a.length) (hle:dv b≤dv a):dv o=dv a-dv b:=by
 rw[List.take_of_length_le hb,List.take_of_length_le (Nat.le_refl _)] at h;have h1:=dv_lt hd;rw[ho] at h1;rcases Nat.eq_zero_or_pos c with rfl|hc
 · omega
 · have:1*10^a.length≤c*10^a.length:=Nat.mul_le_mul_right _ hc
   omega
def digB (d:Nat):UInt8:=UInt8.ofNat (48+d)
theorem decS_dg {n:Nat} (h:0<n):decS n=((dg n).map digB).reverse:=by
 induction n using Nat.strongRecOn with
 | ind n ih=>
   rw[dg_pos h,List.map_cons,List.reverse_cons];rcases Nat.lt_or_ge n 10 with q|q
   · rw[decS_lt q,show n/10=0 by omega,dg_zero,show n%10=n by omega];rfl
   · rw[decS_ge q,ih (n/10) (by omega) (by omega)];rfl
theorem decS_len_dg (n:Nat):(decS n).length=max 1 (dg n).length:=by
 rcases Nat.eq_zero_or_pos n with rfl|h
 · rw[decS_lt (by decide),dg_zero];rfl
 · rw[decS_dg h,List.length_reverse,List.length_map,dg_pos h,List.length_cons];omega
end Go.Proofs.YteeifhlhpiimoaaGreatDoor
end
section
namespace Go.Proofs.YteeifhlhpiimoaaGreatDoor
open Go Go.RowKit Go.Shelf
attribute [local go_sem] Oper.semAt_some
theorem rtrim_walk (A:Option Addr) (c:Nat) (l:List Nat) (n:Nat) (hn:l.length=n) (hc:n≤c) (hcm:c≤maxLen) (hc0:A=none→c=0) (w:World) (h:LAt w w.heap.size A nv l) (hd:Dgs l):
 Calls Tryz.prog 257 #[.slice A n c] w fun e w'=>(∃v,e=.returned v∧LsAt w v (dg (dv l))∧∀B,Fresh B (.slice A n c)→Fresh B v)∧w'=w:=by
 have hAe:∀k,k≤n→(∀d∈l.drop k,d=0)→(k=0∨∀d,l[k-1]?=some d→d≠0)→LsAt w (.slice A k c) (dg (dv l)):=fun k hk h1 h2=>by
  rw[←trim_spec hd h1 h2 (by omega)];exact⟨A,c,by simp;omega,by simp;omega,hcm,hc0,h.take k⟩
 have HE:=hZ hAe;have H:=hZ h;have HN:=hZ hn;clear h hn hAe hc0 hd;unfold maxLen at hcm
 go_enter Tryz.func257,Tryz.ntmps257
 go_wp2_with fail
 go_loop [0] (fun v=> ∃k:Nat,k≤n∧v=.slice A k c∧Hid (∀d∈l.drop k,d=0)) (fun v=>match v with|.slice _ k _=>k|_=>0)
 case atStart=>exact⟨n,Nat.le_refl _,rfl,hZ (by rw[List.drop_of_length_le (by rw[HN.out];exact Nat.le_refl _)];simp)⟩
 case round=>
  obtain⟨k,hk,rfl,HT⟩:=hrel;rcases Nat.eq_zero_or_pos k with rfl|h0
  · have d1:decide ((0:Int)<((0:Nat):Int))=false:=by decide
    go_wp2_with fail;go_ret;refine⟨⟨_,rfl,?_,fun B h=>h.cut⟩,rfl⟩;exact HE.out 0 (by omega) HT.out (.inl rfl)
  · obtain⟨m,rfl⟩:∃m,k=m+1:=⟨k-1,by omega⟩
    (have hm:m<l.length:=by rw[HN.out];omega);obtain⟨a,rfl,hab,hac⟩:=H.out.get hm;unfold nv at hac;obtain⟨x,hx⟩:=oQ (l[m]);rw[hx] at hac;have HX:Hid (l[m]?=some x):=hZ (by rw[←hx];exact List.getElem?_eq_getElem hm);(have d1:decide ((0:Int)<((m+1:Nat):Int))=true:=by simp);(have w1:IntKind.i64.wrap (((m+1:Nat):Int)-1)=(m:Int):=by rw[IntKind.wrap_i64];omega);(have z1:(0:Int)≤(m:Int):=by omega);(have z2:(m:Int)<((m+1:Nat):Int):=by omega);clear hx
    by_cases hx0:x=0
    · subst hx0
      go_wp2_with fail
      go_round
      case rel=>exact⟨m,by omega,rfl,hZ (by rw[List.drop_eq_getElem_cons hm,(List.getElem?_eq_some_iff.1 HX.out).2];intro d hd;rcases List.mem_cons.1 hd with rfl|hd;rfl;exact HT.out d hd)⟩
      case measure=>simp
    · have d2:((x:Int)==0)=false:=by simp;exact hx0
      go_wp2_with fail;go_ret;refine⟨⟨_,rfl,?_,fun B h=>h.cut⟩,rfl⟩;exact HE.out (m+1) (by omega) HT.out (.inr fun d hd=>by rw[Nat.add_sub_cancel,HX.out] at hd;cases hd;exact hx0)
def IntV (w:World) (z:Int) (e:Ending) (w':World):Prop:=e=.returned (.int .i64 z)∧Below w.heap.size w w'
def ordZ (a b:Nat):Int:=if a<b then -1 else if b<a then 1 else 0
theorem ordZ_lt {a b:Nat} (h:a<b):ordZ a b=-1:=if_pos h
theorem ordZ_gt {a b:Nat} (h:b<a):ordZ a b=1:=by unfold ordZ;rw[if_neg (by omega),if_pos h]
theorem ordZ_self (a:Nat):ordZ a a=0:=by unfold ordZ;rw[if_neg (by omega),if_neg (by omega)]
theorem rorder_walk (a b:Nat) (v1 v2:Value) (w:World) (h1:LsAt w v1 (dg a)) (h2:LsAt w v2 (dg b)):
 Calls Tryz.prog 218 #[v1,v2] w (IntV w (ordZ a b)):=by
 obtain⟨A,c,rfl,hc1,hc2,hc3,hA⟩:=h1;obtain⟨B,d,rfl,hd1,hd2,hd3,hB⟩:=h2;have HA:=hZ hA;have HB:=hZ hB;obtain⟨n,hn⟩:=oQ ((dg a).length);obtain⟨k,hk⟩:=oQ ((dg b).length);have HN:=hZ hn;have HK:=hZ hk;rw[hn,hk];have hn1:n≤9223372036854775807:=by unfold maxLen at hc2;omega
 by_cases hnk:n=k
 · subst hnk
   clear hn hk hA hB hc1 hc2 hc3 hd1 hd2 hd3;(have d0:((n:Int) !=(n:Int))=false:=by simp);obtain⟨z,hz⟩:=oQ (IntKind.i64.wrap ((n:Int)-1));(have hzz:z=(n:Int)-1:=by rw[←hz,IntKind.wrap_i64];omega);have HZ:=hZ hzz;clear hzz
   go_enter Tryz.func218,Tryz.ntmps218
   go_wp2_with fail
   go_loopw [5] (fun v wr=>(∃k:Nat,k≤n∧v=.int .i64 ((k:Int)-1)∧Hid ((dg a).drop k=(dg b).drop k))∧Below w.heap.size w wr) (fun v _=>match v with|.int _ k=>(k+1).toNat|_=>0)
   case atStart=>exact⟨⟨n,Nat.le_refl _,by rw[HZ.out],hZ (by rw[List.drop_of_length_le (by rw[HN.out];omega),List.drop_of_length_le (by rw[HK.out];omega)])⟩,Below.refl _ _⟩
   case round=>
    obtain⟨⟨k,hk,rfl,HT⟩,hBB⟩:=hrel;have HBB:=hZ hBB;clear hBB;rcases Nat.eq_zero_or_pos k with rfl|h0
    · have d1:decide ((0:Int)≤((0:Nat):Int)-1)=false:=by decide
      go_wp2_with fail;go_ret;(have e:a=b:=by have:=congrArg dv HT.out;rw[List.drop_zero,List.drop_zero,dv_dg,dv_dg] at this;exact this);subst e;rw[ordZ_self];exact⟨rfl,HBB.out⟩
    · obtain⟨m,rfl⟩:∃m,k=m+1:=⟨k-1,by omega⟩
      (have e1:((m+1:Nat):Int)-1=(m:Int):=by omega);rw[e1];(have hm:m<(dg a).length:=by rw[HN.out];omega);(have hm2:m<(dg b).length:=by rw[HK.out];omega);obtain⟨p,rfl,hpb,hpc⟩:=HA.out.get hm;obtain⟨q,rfl,hqb,hqc⟩:=HB.out.get hm2;unfold nv at hpc hqc;obtain⟨x,hx⟩:=oQ ((dg a)[m]);obtain⟨y,hy⟩:=oQ ((dg b)[m]);rw[hx] at hpc;rw[hy] at hqc;have HX:Hid ((dg a)[m]?=some x):=hZ (by rw[←hx];exact List.getElem?_eq_getElem hm);have HY:Hid ((dg b)[m]?=some y):=hZ (by rw[←hy];exact List.getElem?_eq_getElem hm2);have hS0:wr.drew.cell? (p.add m)=some (.int .i64 x)∧wr.drew.cell? (q.add m)=some (.int .i64 y):=⟨(HBB.out.cell (p:=p.add m) (by rw[addr_add_block];exact hpb)).trans hpc,(HBB.out.cell (p:=q.add m) (by rw[addr_add_block];exact hqb)).trans hqc⟩;(have d1:decide ((0:Int)≤(m:Int))=true:=by simp);obtain⟨z',hz'⟩:=oQ (IntKind.i64.wrap ((m:Int)-1));(have hzz:z'=(m:Int)-1:=by rw[←hz',IntKind.wrap_i64];omega);have HZ':=hZ hzz;(have z1:(0:Int)≤(m:Int):=by omega);(have z2:(m:Int)<(n:Int):=by omega);clear hzz hpc hqc hx hy e1;obtain⟨g,hg⟩:=oQ (((x:Int) !=(y:Int)));go_wp2_with fail;refine wp_region_noPanic ?_;refine wp_region_held_drew (S:=fun U=>U.cell? (p.add m)=some (.int .i64 x)∧U.cell? (q.add m)=some (.int .i64 y)) (by kernel_rfl) hS0 (fun hHeld=> ?_);refine tk 0 ?_;refine tk 1 ?_;refine tk 2 ?_;refine tk 3 ?_;refine tk 4 ?_;refine tk 5 ?_;refine tk 6 ?_;refine tk 7 ?_;refine tk 8 ?_;refine dn ?_;have HBd:Hid (Below w.heap.size w wr.drew):=hZ (Below.drew HBB.out);clear hHeld;cases g
      · have hxy:x=y:=by have h:=hg;simp at h;omega
        have ht:(dg a).drop m=(dg b).drop m:=by
         rw[List.drop_eq_getElem_cons hm,List.drop_eq_getElem_cons hm2,(List.getElem?_eq_some_iff.1 HX.out).2,(List.getElem?_eq_some_iff.1 HY.out).2,hxy,HT.out]
        have HTT:=hZ ht;clear ht hxy;go_wp2
        go_round
        case rel=>exact⟨⟨m,by omega,by rw[HZ'.out],HTT⟩,HBd.out⟩
        case measure=>rw[HZ'.out];simp
      · have hS1:wr.drew.drew.cell? (p.add m)=some (.int .i64 x)∧wr.drew.drew.cell? (q.add m)=some (.int .i64 y):=hS0
        obtain⟨g2,hg2⟩:=oQ (decide ((x:Int)<(y:Int)));have HG2:=hZ hg2;have HG:=hZ hg;clear hg2 hS0;(have hg2':decide (x<y)=g2:=by rw[←HG2.out];simp);go_wp2_with fail;refine wp_region_noPanic ?_;refine wp_region_held_drew (S:=fun U=>U.cell? (p.add m)=some (.int .i64 x)∧U.cell? (q.add m)=some (.int .i64 y)) (by kernel_rfl) hS1 (fun hHeld=> ?_);refine tk 0 ?_;refine tk 1 ?_;refine tk 2 ?_;refine tk 3 ?_;refine tk 4 ?_;refine tk 5 ?_;refine tk 6 ?_;refine tk 7 ?_;refine tk 8 ?_;refine dn ?_;have HBd2:Hid (Below w.heap.size w wr.drew.drew):=hZ (Below.drew HBd.out);clear hHeld;cases g2
        · go_wp2
          go_ret
          have hlt:y<x:=by
           have h1:=HG2.out;have h2:=HG.out;simp at h1 h2;omega
          have:=ord_lt (dg_dgs b) HT.out.symm HY.out HX.out hlt;rw[dv_dg,dv_dg] at this;rw[ordZ_gt this];exact⟨rfl,HBd2.out⟩
        · go_wp2
          go_ret
          have hlt:x<y:=by
           have h1:=HG2.out;simp at h1;omega
          have:=ord_lt (dg_dgs a) HT.out HX.out HY.out hlt;rw[dv_dg,dv_dg] at this;rw[ordZ_lt this];exact⟨rfl,HBd2.out⟩
 · have d0:((n:Int) !=(k:Int))=true:=by simp;omega
   rcases Nat.lt_or_ge n k with hlt|hge
   · have d1:decide (n<k)=true:=by simp[hlt]
     have hab:a<b:=dg_len_lt (by omega);rw[ordZ_lt hab];clear hn hk hA hB HA HB
     go_enter Tryz.func218,Tryz.ntmps218
     go_wp2;go_ret;exact⟨rfl,Below.refl _ _⟩
   · have d1:decide (n<k)=false:=by simp;omega
     have hab:b<a:=dg_len_lt (by omega);rw[ordZ_gt hab];clear hn hk hA hB HA HB
     go_enter Tryz.func218,Tryz.ntmps218
     go_wp2;go_ret;exact⟨rfl,Below.refl _ _⟩
def DgP (w:World) (n:Nat) (e:Ending) (w':World):Prop:=∃v,e=.returned v∧LsAt w' v (dg n)∧Fresh w.heap.size v∧Below w.heap.size w w'
theorem rminus_walk (a b:Nat) (hab:b≤a) (v1 v2:Value) (w:World) (h1:LsAt w v1 (dg a)) (h2:LsAt w v2 (dg b)) (ha:(dg a).length≤100000):
 Calls Tryz.prog 223 #[v1,v2] w (DgP w (a-b)):=by
 obtain⟨A,c,rfl,hc1,hc2,hc3,hA⟩:=h1;obtain⟨B,d,rfl,hd1,hd2,hd3,hB⟩:=h2;have HA:=hZ hA;have HB:=hZ hB;obtain⟨n,hn⟩:=oQ ((dg a).length);obtain⟨k,hk⟩:=oQ ((dg b).length);have HN:=hZ hn;have HK:=hZ hk;have HKN:Hid (k≤n):=hZ (by rw[←hn,←hk];exact dg_len_mono hab);have HAB:=hZ hab;rw[hn] at ha;rw[hn,hk];have HN1:=hZ ha;clear hn hk hA hB hc1 hc2 hc3 hd1 hd2 hd3 hab
 go_enter Tryz.func223,Tryz.ntmps223
 go_wp2_with fail
 go_loopw [5,6,7] (fun v cv iv wr=> ∃(i c:Nat) (o:List Nat),iv=.int .i64 (i:Int)∧cv=.int .i64 (c:Int)∧i≤n∧c≤1∧Hid (o.length=i)∧Hid (Dgs o∧dv o+dv ((dg b).take i)=dv ((dg a).take i)+c*10^i)∧Hid (IntL wr w.heap.size v o)∧Hid (Below w.heap.size w wr)) (fun _ _ i _=>n-(intOf i).toNat)
 case atStart=>exact⟨0,0,[],rfl,rfl,Nat.zero_le _,Nat.zero_le _,hZ rfl,hZ ⟨fun d hd=>(by cases hd),(by simp[dv])⟩,hZ OL.nil,hZ (Below.refl _ _)⟩
 case round=>
  obtain⟨i,c,o,rfl,rfl,hi,hc,HO,HI,HOL,HBB⟩:=hrel
  by_cases hlt:i<n
  · have hm:i<(dg a).length:=by rw[HN.out];exact hlt
    obtain⟨p,rfl,hpb,hpc⟩:=HA.out.get hm;unfold nv at hpc;obtain⟨x,hx⟩:=oQ ((dg a)[i]);rw[hx] at hpc;have HX:Hid ((dg a)[i]?=some x):=hZ (by rw[←hx];exact List.getElem?_eq_getElem hm);have hx9:x<10:=dg_dgs a x (List.mem_of_getElem? HX.out);have hpc2:wr.cell? (p.add i)=some (.int .i64 x):=(HBB.out.cell (p:=p.add i) (by rw[addr_add_block];exact hpb)).trans hpc;(have d1:decide (i<n)=true:=by simp[hlt]);(have z1:(0:Int)≤(i:Int):=by omega);(have z2:(i:Int)<(n:Int):=by omega);(have w1:IntKind.i64.wrap ((i:Int)+1)=((i+1:Nat):Int):=by have:=HN1.out;rw[IntKind.wrap_i64];omega);have HBs:=hZ HBB.out.size
    have HST:Hid (∀y d c',((dg b)[i]?=some y∨(dg b).length≤i∧y=0)→d+y+c=x+10*c'→d<10→Dgs (o++[d])∧dv (o++[d])+dv ((dg b).take (i+1))=dv ((dg a).take (i+1))+c'*10^(i+1)):=
     hZ fun y d c' hy hd hd9=>⟨HI.out.1.app (fun z hz=>by rw[List.mem_singleton.1 hz];exact hd9),minus_step HI.out.2 HO.out HX.out hy hd⟩
    clear hpc hpb hx hm
    by_cases hik:i<k
    · have hm2:i<(dg b).length:=by rw[HK.out];exact hik
      obtain⟨q,rfl,hqb,hqc⟩:=HB.out.get hm2;unfold nv at hqc;obtain⟨y,hy⟩:=oQ ((dg b)[i]);rw[hy] at hqc;have HY:Hid ((dg b)[i]?=some y):=hZ (by rw[←hy];exact List.getElem?_eq_getElem hm2);have hy9:y<10:=dg_dgs b y (List.mem_of_getElem? HY.out);have hqc2:wr.cell? (q.add i)=some (.int .i64 y):=(HBB.out.cell (p:=q.add i) (by rw[addr_add_block];exact hqb)).trans hqc;(have d2:decide (i<k)=true:=by simp[hik]);(have z3:(i:Int)<(k:Int):=by omega);obtain⟨s,hs⟩:∃s:Int,(x:Int)-(c:Int)=s:=⟨_,rfl⟩;(have ws:IntKind.i64.wrap ((x:Int)-(c:Int))=s:=by rw[IntKind.wrap_i64];omega);clear hqc hqb hy hm2
      by_cases hneg:s-(y:Int)<0
      · obtain⟨d,hd⟩:∃d:Nat,s-(y:Int)+10=(d:Int):=⟨(s-(y:Int)+10).toNat,by omega⟩
        obtain⟨t,ht⟩:∃t:Int,s-(y:Int)=t:=⟨_,rfl⟩;(have wt:IntKind.i64.wrap (s-(y:Int))=t:=by rw[IntKind.wrap_i64];omega);(have wd:IntKind.i64.wrap (t+10)=(d:Int):=by rw[IntKind.wrap_i64];omega);(have b1:decide (t<0)=true:=by simp;omega);have HN2:=hZ (HST.out y d 1 (.inl HY.out) (by omega) (by omega));clear hs ht hd hneg hx9 hy9
        go_wp2_with (first
         |(at_builtin;refine wpList_app rfl (.tmp 35) (.tmp 37) 23 rfl elemInt _ _ i HO.out rfl (HOL.out.alloc _) d wr.heap.size #[.int .i64 d] rfl ?hc rfl rfl (by simp[one,nv,Value.oneCell']) (by have:=HO.out;have:=HN1.out;unfold maxLen;omega) (by have:=HO.out;have:=HN1.out;omega) (by have:=HBs.out;simp;omega) ?_;(case hc=>exact World.alloc_heap_new _ _);intro g3 c3 w3 h3 _ _ _ hb3)
         |fail)
        go_roundw
        case rel=>exact⟨i+1,1,_,by go_num,rfl,by omega,by omega,hZ (by rw[List.length_append,HO.out];rfl),hZ HN2.out,hZ h3,hZ ((HBB.out.alloc HBs.out _).trans hb3)⟩
        case measure=>simp[intOf];omega
      · obtain⟨d,hd⟩:∃d:Nat,s-(y:Int)=(d:Int):=⟨(s-(y:Int)).toNat,by omega⟩
        (have wt:IntKind.i64.wrap (s-(y:Int))=(d:Int):=by rw[IntKind.wrap_i64];omega);(have b1:decide ((d:Int)<0)=false:=by simp);have HN2:=hZ (HST.out y d 0 (.inl HY.out) (by omega) (by omega));clear hs hd hneg hx9 hy9
        go_wp2_with (first
         |(at_builtin;refine wpList_app rfl (.tmp 35) (.tmp 37) 23 rfl elemInt _ _ i HO.out rfl (HOL.out.alloc _) d wr.heap.size #[.int .i64 d] rfl ?hc rfl rfl (by simp[one,nv,Value.oneCell']) (by have:=HO.out;have:=HN1.out;unfold maxLen;omega) (by have:=HO.out;have:=HN1.out;omega) (by have:=HBs.out;simp;omega) ?_;(case hc=>exact World.alloc_heap_new _ _);intro g3 c3 w3 h3 _ _ _ hb3)
         |fail)
        go_roundw
        case rel=>exact⟨i+1,0,_,by go_num,rfl,by omega,by omega,hZ (by rw[List.length_append,HO.out];rfl),hZ HN2.out,hZ h3,hZ ((HBB.out.alloc HBs.out _).trans hb3)⟩
        case measure=>simp[intOf];omega
    · have d2:decide (i<k)=false:=by simp;omega
      have HY:Hid ((dg b).length≤i):=hZ (by rw[HK.out];omega)
      by_cases hneg:(x:Int)-(c:Int)<0
      · obtain⟨t,ht⟩:∃t:Int,(x:Int)-(c:Int)=t:=⟨_,rfl⟩
        obtain⟨d,hd⟩:∃d:Nat,t+10=(d:Int):=⟨(t+10).toNat,by omega⟩;(have wt:IntKind.i64.wrap ((x:Int)-(c:Int))=t:=by rw[IntKind.wrap_i64];omega);(have wd:IntKind.i64.wrap (t+10)=(d:Int):=by rw[IntKind.wrap_i64];omega);(have b1:decide (t<0)=true:=by simp;omega);have HN2:=hZ (HST.out 0 d 1 (.inr ⟨HY.out,rfl⟩) (by omega) (by omega));clear ht hd hneg hx9
        go_wp2_with (first
         |(at_builtin;refine wpList_app rfl (.tmp 35) (.tmp 37) 23 rfl elemInt _ _ i HO.out rfl (HOL.out.alloc _) d wr.heap.size #[.int .i64 d] rfl ?hc rfl rfl (by simp[one,nv,Value.oneCell']) (by have:=HO.out;have:=HN1.out;unfold maxLen;omega) (by have:=HO.out;have:=HN1.out;omega) (by have:=HBs.out;simp;omega) ?_;(case hc=>exact World.alloc_heap_new _ _);intro g3 c3 w3 h3 _ _ _ hb3)
         |fail)
        go_roundw
        case rel=>exact⟨i+1,1,_,by go_num,rfl,by omega,by omega,hZ (by rw[List.length_append,HO.out];rfl),hZ HN2.out,hZ h3,hZ ((HBB.out.alloc HBs.out _).trans hb3)⟩
        case measure=>simp[intOf];omega
      · obtain⟨d,hd⟩:∃d:Nat,(x:Int)-(c:Int)=(d:Int):=⟨((x:Int)-(c:Int)).toNat,by omega⟩
        (have wt:IntKind.i64.wrap ((x:Int)-(c:Int))=(d:Int):=by rw[IntKind.wrap_i64];omega);(have b1:decide ((d:Int)<0)=false:=by simp);have HN2:=hZ (HST.out 0 d 0 (.inr ⟨HY.out,rfl⟩) (by omega) (by omega));clear hd hneg hx9
        go_wp2_with (first
         |(at_builtin;refine wpList_app rfl (.tmp 35) (.tmp 37) 23 rfl elemInt _ _ i HO.out rfl (HOL.out.alloc _) d wr.heap.size #[.int .i64 d] rfl ?hc rfl rfl (by simp[one,nv,Value.oneCell']) (by have:=HO.out;have:=HN1.out;unfold maxLen;omega) (by have:=HO.out;have:=HN1.out;omega) (by have:=HBs.out;simp;omega) ?_;(case hc=>exact World.alloc_heap_new _ _);intro g3 c3 w3 h3 _ _ _ hb3)
         |fail)
        go_roundw
        case rel=>exact⟨i+1,0,_,by go_num,rfl,by omega,by omega,hZ (by rw[List.length_append,HO.out];rfl),hZ HN2.out,hZ h3,hZ ((HBB.out.alloc HBs.out _).trans hb3)⟩
        case measure=>simp[intOf];omega
  · have d1:decide (i<n)=false:=by simp;omega
    obtain rfl:i=n:=by omega
    have hval:dv o=a-b:=by
     have h:=HI.out.2;rw[←HN.out] at h;have:=minus_end h (by rw[HO.out,HN.out]) HI.out.1 (by rw[HN.out,HK.out];exact HKN.out) (by rw[dv_dg,dv_dg];exact HAB.out);rw[dv_dg,dv_dg] at this;exact this
    have HV:=hZ hval;have HFR:=hZ HOL.out.fresh;obtain⟨A',c',rfl,q1,q2,q3,q4⟩:=LsAt.of_ol HOL.out;have HT:=hZ (rtrim_walk A' c' o o.length rfl q1 q2 q3 wr q4 HI.out.1);clear q1 q2 q3 q4 hval hi hlt;obtain⟨m,hm⟩:=oQ (o.length);rw[hm] at HT HFR HOL⊢;clear hm
    go_wp2_with (first
     |(go_at_call 257;refine HT.out.mono ?_;rintro e w2 ⟨⟨v2,rfl,hv2,hf2⟩,rfl⟩;have HV2:=hZ hv2;have HF2:=hZ hf2;clear hv2 hf2)
     |fail)
    go_ret;exact⟨_,rfl,by rw[←HV.out];exact HV2.out,HF2.out _ HFR.out,HBB.out⟩
def QuoP (w:World) (q r:Nat) (e:Ending) (w':World):Prop:=∃vq vr,e=.returned (.tuple #[vq,vr])∧LsAt w' vq (dg q)∧LsAt w' vr (dg r)∧Fresh w.heap.size vq∧Fresh w.heap.size vr∧Below w.heap.size w w'
theorem mkInts (n:Nat) (hn:n≤1000000) (w:World):(Instr.makeSlice 23 (.int .i64 (n:Int)) (.int .i64 (n:Int))).run Tryz.prog w=.ok (.slice (some ⟨w.heap.size,0,none⟩) n n) (w.alloc (.cells (madeCells #[.int .i64 0] n) 3)):=
 run_make_row' (P:=Tryz.prog) 23 3 (.int .i64 0) 8 Tryz.underlying23 (by kernel_rfl) rfl .i64 .i64 n (by omega) (by omega) w
theorem made_ol (n:Nat) (hn:n≤1000000) (w:World):IntL (w.alloc (.cells (madeCells #[.int .i64 0] n) 3)) w.heap.size (.slice (some ⟨w.heap.size,0,none⟩) n n) (List.replicate n 0):=by
 have hs:(madeCells #[.int .i64 0] n).size=n:=by have:=congrArg List.length (made_nums n);simpa using this
 refine⟨by rw[flatMap_one];simp,.inr ⟨w.heap.size,n,_,by simp,Nat.le_refl _,World.alloc_heap_new w _,by simp,by unfold maxLen;omega,by rw[hs];omega,?_⟩⟩;rw[made_nums,flatMap_one,List.take_of_length_le (by simp)]
theorem OL.storedN {w:World} {B g n c:Nat} {l:List Nat} (h:IntL w B (.slice (some ⟨g,0,none⟩) n c) l) (j u:Nat):IntL (w.setCell ⟨g,j,none⟩ (.int .i64 (u:Int))) B (.slice (some ⟨g,0,none⟩) n c) (l.set j u):=by
 have hn:=h.len.1;subst hn;have h1:=(World.ownsRow.stored h j (nv u)).1;unfold IntL OL;rw[List.length_set,flatMap_one,List.map_set,←flatMap_one];exact h1
theorem set_mid {m:Nat} {c d:Nat} {qs:List Nat}:(List.replicate m 0++c::qs).set m d=List.replicate m 0++d::qs:=by
 rw[List.set_append_right _ _ (by simp)];simp
theorem get_mid {m:Nat} {c:Nat} {qs:List Nat}:(List.replicate m 0++c::qs)[m]?=some c:=by
 rw[List.getElem?_append_right (by simp)];simp
theorem row_mid {w:World} {B g n m q:Nat} {qs:List Nat} (h:IntL w B (.slice (some ⟨g,0,none⟩) n n) (List.replicate m 0++q::qs)):w.cell? ⟨g,m,none⟩=some (.int .i64 (q:Int))∧w.frozen? ⟨g,m,none⟩=false:=
 ⟨h.getq get_mid,World.ownsRow.frozenAt (cap:=n) (by have:=h.len.1;subst this;exact h) m⟩
def toTen (w:World) (g m:Nat):Nat:=match w.cell? ⟨g,m,none⟩ with|some (.int _ z)=>10-z.toNat|_=>0
theorem toTen_of {w:World} {g m c:Nat} (h:w.cell? ⟨g,m,none⟩=some (.int .i64 (c:Int))):toTen w g m=10-c:=by unfold toTen;rw[h];simp
theorem drop_dv {x m d:Nat} (h:(dg x)[m]?=some d):dv ((dg x).drop m)=d+10*dv ((dg x).drop (m+1)):=by
 obtain⟨h1,h2⟩:=List.getElem?_eq_some_iff.1 h;rw[List.drop_eq_getElem_cons h1,h2,dv]
theorem rdivided_walk (x y:Nat) (hy:0<y) (v1 v2:Value) (w:World) (h1:LsAt w v1 (dg x)) (h2:LsAt w v2 (dg y)) (hx:(dg x).length≤1000) (hyl:(dg y).length≤1000):
 Calls Tryz.prog 220 #[v1,v2] w (QuoP w (x/y) (x%y)):=by
 obtain⟨A,c,rfl,hc1,hc2,hc3,hA⟩:=h1;have H2:=hZ h2;have HA:=hZ hA;obtain⟨n,hn⟩:=oQ ((dg x).length);have HN:=hZ hn;rw[hn] at hx⊢;have HN1:=hZ hx;have HY:=hZ hy;have HYL:=hZ hyl;obtain⟨g,hg⟩:=oQ (w.heap.size);have hol:=made_ol n (by omega) w;have hmk:=mkInts n (by omega) w;obtain⟨W1,hW1⟩:=oQ (w.alloc (.cells (madeCells #[.int .i64 0] n) 3));have hb1:Below w.heap.size w W1:=by rw[←hW1];exact below_new w _
 have hs1:W1.heap.size=w.heap.size+1:=by rw[←hW1];exact World.size_alloc w _
 rw[hW1] at hol hmk;rw[hg] at hol hmk hb1 hs1;have HOL1:=hZ hol;have HB1:=hZ hb1;have HS1:=hZ hs1;have HG:=hZ hg;obtain⟨z,hz⟩:=oQ (IntKind.i64.wrap ((n:Int)-1));have hzz:z=(n:Int)-1:=by rw[←hz,IntKind.wrap_i64];omega
 have HZ:=hZ hzz;clear hzz hn hA h2 hc1 hc2 hc3 hx hy hyl hol hW1 hb1 hs1 hg
 go_enter Tryz.func220,Tryz.ntmps220
 go_wp2_with fail;clear hmk
 go_loopw [7,8] (fun rv iv wr=> ∃(k:Nat) (qs:List Nat) (R:Nat),iv=.int .i64 ((k:Int)-1)∧k≤n∧Hid (IntL wr g (.slice (some ⟨g,0,none⟩) n n) (List.replicate k 0++qs))∧Hid (Dgs qs∧dv qs*y+R=dv ((dg x).drop k)∧R<y)∧Hid (LsAt wr rv (dg R)∧Fresh (g+1) rv)∧Hid (Below g w wr∧g<wr.heap.size)) (fun _ i _=>(intOf i+1).toNat)
 case atStart=>exact⟨n,[],0,by rw[HZ.out],Nat.le_refl _,hZ (by rw[List.append_nil];exact HOL1.out),hZ ⟨fun d hd=>(by cases hd),by rw[List.drop_of_length_le (by rw[HN.out];omega)];simp[dv],HY.out⟩,hZ ⟨by rw[dg_zero];exact LsAt.nil _,Fresh.nil _⟩,hZ ⟨HB1.out,by rw[HS1.out];omega⟩⟩
 case round=>
  clear HOL1 HB1 HS1 HZ hz;obtain⟨k,qs,R,rfl,hk,HOL,HI,HR,HBB⟩:=hrel;rcases Nat.eq_zero_or_pos k with rfl|h0
  · have d1:decide ((0:Int)≤((0:Nat):Int)-1)=false:=by decide
    have hI:=HI.out;rw[List.drop_zero,dv_dg] at hI;(have hq:dv qs=x/y:=by rw[←hI.2.1,Nat.mul_comm,Nat.mul_add_div HY.out,Nat.div_eq_of_lt hI.2.2];omega);(have hr:R=x%y:=by rw[←hI.2.1,Nat.mul_comm,Nat.mul_add_mod,Nat.mod_eq_of_lt hI.2.2]);have HQ:=hZ hq;have HRR:=hZ hr;have hol:=HOL.out;rw[List.replicate_zero,List.nil_append] at hol;have hl:=hol.len.1;have HOLQ:=hZ hol;have hls:=LsAt.of_ol hol;obtain⟨A',c',e',q1,q2,q3,q4⟩:=hls;injection e' with e1 e2 e3;subst e1 e3;have HT:=hZ (rtrim_walk (some ⟨g,0,none⟩) n qs n e2.symm (by omega) q2 q3 wr q4 hI.1);have HF:=hZ hol.fresh;clear hI hq hr hol hl q1 q2 q3 q4 e2 HOL HI
    go_wp2_with (first
     |(go_at_call 257;refine HT.out.mono ?_;rintro e w2 ⟨⟨v2,rfl,hv2,hf2⟩,rfl⟩;have HV2:=hZ hv2;have HF2:=hZ hf2;clear hv2 hf2)
     |fail)
    go_ret2
    exact⟨_,_,rfl,by rw[←HQ.out];exact HV2.out,by rw[←HRR.out];exact HR.out.1,by rw[HG.out];exact HF2.out _ HF.out,by rw[HG.out];exact HR.out.2.base (by omega),by rw[HG.out];exact HBB.out.1⟩
  · obtain⟨m,rfl⟩:∃m,k=m+1:=⟨k-1,by omega⟩
    (have e1:((m+1:Nat):Int)-1=(m:Int):=by omega);rw[e1];(have hm:m<(dg x).length:=by rw[HN.out];omega);obtain⟨p,rfl,hpb,hpc⟩:=HA.out.get hm;unfold nv at hpc;obtain⟨d,hd⟩:=oQ ((dg x)[m]);rw[hd] at hpc;have HX:Hid ((dg x)[m]?=some d):=hZ (by rw[←hd];exact List.getElem?_eq_getElem hm);have hd9:d<10:=dg_dgs x d (List.mem_of_getElem? HX.out);have hpc2:wr.cell? (p.add m)=some (.int .i64 d):=(HBB.out.1.cell (p:=p.add m) (by rw[addr_add_block,←HG.out];exact hpb)).trans hpc;(have d1:decide ((0:Int)≤(m:Int))=true:=by simp);(have z1:(0:Int)≤(m:Int):=by omega);(have z2:(m:Int)<(n:Int):=by omega);obtain⟨z',hz'⟩:=oQ (IntKind.i64.wrap ((m:Int)-1));(have hzz:z'=(m:Int)-1:=by have:=HN1.out;rw[←hz',IntKind.wrap_i64];omega);have HZ':=hZ hzz;obtain⟨T,hT⟩:=oQ (d+10*R);have HT:Hid (T<10*y∧dv (d::dg R)=T∧dv ((dg x).drop m)=dv qs*y*10+T):=hZ ⟨by have:=HI.out.2.2;omega,by rw[dv,dv_dg];exact hT,by rw[drop_dv HX.out,←HI.out.2.1];omega⟩
    have HD:Hid (Dgs (d::dg R)):=hZ fun q hq=>by
     rcases List.mem_cons.1 hq with rfl|hq
     · exact hd9
     · exact dg_dgs R q hq
    have HOLm:Hid (IntL wr g (.slice (some ⟨g,0,none⟩) n n) (List.replicate m 0++0::qs)):=hZ (by
     have:=HOL.out
     rwa[List.replicate_succ',List.append_assoc] at this)
    have HMN:Hid (m<n):=hZ (by omega);have hRl:(dg R).length≤1000:=Nat.le_trans (dg_len_mono (Nat.le_of_lt HI.out.2.2)) HYL.out;have HRL:=hZ hRl;obtain⟨Ar,cr,rfl,r1,r2,r3,r4⟩:=HR.out.1;have HAR:=hZ r4;obtain⟨rl,hrl⟩:=oQ ((dg R).length);have HRLN:=hZ hrl;rw[hrl];clear hpc hpb hd hm hzz hT e1 hRl r1 r2 r4 HOL hrl
    go_wp2_with (first
     |(at_builtin;refine wpList_cat rfl (.tmp 23) (.tmp 24) 23 rfl elemInt (fun _=>rfl) _ [d] rfl (OL.lit1N (B:=wr.heap.size) wr d (Nat.le_refl _)) Ar (dg R) rl cr HRLN.out rfl r3 (HAR.out.catN (below_new wr _)) (fun x _ u hu=>by rw[List.mem_singleton.1 hu];rfl) (by have:=HRL.out;have:=HRLN.out;unfold maxLen;simp;omega) (by have:=HRL.out;have:=HRLN.out;simp;omega) (by simp) ?_;intro v3 w3 h3 _ hb3;have HB3:=hZ ((below_new wr _).trans hb3);have HO3:=hZ h3;clear h3 hb3)
     |fail)
    obtain⟨A3,c3,rfl,q1,q2,q3,q4⟩:=LsAt.of_ol HO3.out;have HTR:=hZ (rtrim_walk A3 c3 _ _ rfl q1 q2 q3 w3 q4 HD.out);have HF3:=hZ HO3.out.fresh;obtain⟨l3,hl3⟩:=oQ (([d]++dg R).length);rw[hl3];have HL3:=hZ hl3;clear q1 q2 q3 q4 hl3
    go_wp2_with (first
     |(go_at_call 257;refine(show Calls _ _ #[.slice A3 l3 c3] w3 _ from by rw[←HL3.out];exact HTR.out).mono ?_;rintro e w4 ⟨⟨v4,rfl,hv4,hf4⟩,rfl⟩;have HV4:=hZ hv4;have HF4:=hZ hf4;clear hv4 hf4)
     |fail)
    have HR4:Hid (LsAt w4 v4 (dg T)∧Fresh (g+1) v4):=hZ ⟨by have:=HV4.out;rw[List.singleton_append,HT.out.2.1] at this;exact this,(HF4.out _ HF3.out).base HBB.out.2⟩;have HO4:Hid (IntL w4 g (.slice (some ⟨g,0,none⟩) n n) (List.replicate m 0++0::qs)):=hZ (HOLm.out.below HB3.out (Nat.le_refl _));have HB4:Hid (Below g w w4∧g<w4.heap.size):=hZ ⟨HBB.out.1.trans (HB3.out.mono (Nat.le_of_lt HBB.out.2)),Nat.lt_of_lt_of_le HBB.out.2 HB3.out.size⟩;clear HV4 HF4 HF3 HB3 HO3 HTR HBB HOLm HR HAR HRL HRLN r3 HL3 hpc2
    go_loopw [7] (fun rv wr=> ∃(vv:Value) (q R':Nat),vv=rv∧R'+q*y=T∧Hid (IntL wr g (.slice (some ⟨g,0,none⟩) n n) (List.replicate m 0++q::qs))∧Hid (LsAt wr rv (dg R')∧Fresh (g+1) rv)∧Hid (Below g w wr∧g<wr.heap.size)) (fun _ wr=>toTen wr g m)
    case atStart=>exact⟨v4,0,T,rfl,by omega,HO4.out,HR4.out,HB4.out⟩
    case round=>
     clear HO4 HR4 HB4;obtain⟨rv,q,R',rfl,hq,HO,HR,HB⟩:=hrel;have H2r:=hZ (H2.out.below (by have:=HB.out.1;rwa[←HG.out] at this));have HQT:=hZ hq
     have hq9:q<10:=by
      rcases Nat.lt_or_ge q 10 with h|h
      · exact h
      · have:=Nat.mul_le_mul_right y h
        have:=HT.out.1;omega
     have HQ9:=hZ hq9;clear hq hq9
     by_cases hlt:R'<y
     · have HORD:Hid (Calls Tryz.prog 218 #[rv,v2] wr (IntV wr (-1))):=hZ (by rw[←ordZ_lt hlt];exact rorder_walk R' y rv v2 wr HR.out.1 H2r.out)
       (have d2:decide ((0:Int)≤ -1)=false:=by decide);have HLT:=hZ hlt;clear hlt
       go_wp2_with (first
        |(go_at_call 218;refine HORD.out.mono ?_;rintro e w5 ⟨rfl,hb5⟩;have HB5:=hZ hb5;clear hb5)
        |fail)
       go_roundw
       case rel=>exact⟨m,q::qs,R',by rw[HZ'.out],by have:=HMN.out;omega,hZ (HO.out.below HB5.out (Nat.le_refl _)),
        hZ ⟨fun a ha=>(by rcases List.mem_cons.1 ha with rfl|ha;exact HQ9.out;exact HI.out.1 a ha),by rw[HT.out.2.2,←HQT.out,dv,Nat.add_mul,Nat.mul_assoc 10,Nat.mul_comm 10];omega,HLT.out⟩,
        hZ ⟨HR.out.1.below HB5.out,HR.out.2⟩,hZ ⟨HB.out.1.trans (HB5.out.mono (Nat.le_of_lt HB.out.2)),Nat.lt_of_lt_of_le HB.out.2 HB5.out.size⟩⟩
       case measure=>rw[HZ'.out];simp[intOf]
     · have hle:y≤R':=by omega
       (have hz0:0≤ordZ R' y:=by unfold ordZ;rw[if_neg hlt];split<;>omega);obtain⟨zz,hzz⟩:=oQ (ordZ R' y);rw[hzz] at hz0;have HORD:Hid (Calls Tryz.prog 218 #[rv,v2] wr (IntV wr zz)):=hZ (by rw[←hzz];exact rorder_walk R' y rv v2 wr HR.out.1 H2r.out);(have d2:decide ((0:Int)≤zz)=true:=by simp[hz0]);have HLE:=hZ hle
       have HRl:Hid ((dg R').length≤100000):=hZ (by
        have h1:=HT.out.1;(have h2:R'≤T:=by have:=HQT.out;omega);have h3:=dv_lt (dg_dgs y);rw[dv_dg] at h3;have h4:=HYL.out;have:(dg R').length≤(dg y).length+1:=dg_len_le (by rw[Nat.pow_succ];omega)
        omega)
       (have wq:IntKind.i64.wrap ((q:Int)+1)=((q+1:Nat):Int):=by have:=HQ9.out;rw[IntKind.wrap_i64];omega);clear hlt hle hz0 hzz
       go_wp2_with (first
        |(go_at_call 218;refine HORD.out.mono ?_;rintro e w5 ⟨rfl,hb5⟩;have HB5:=hZ hb5;clear hb5;have HM:=hZ (rminus_walk R' y HLE.out rv v2 w5 (HR.out.1.below HB5.out) (H2r.out.below HB5.out) HRl.out))
        |(go_at_call 223;refine HM.out.mono ?_;rintro e w6 ⟨v6,rfl,hv6,hf6,hb6⟩;have HV6:=hZ hv6;have HF6:=hZ hf6;have HB6:=bTr HB5 hb6;clear hb6 hv6 hf6;have HO6:=hZ (HO.out.below HB6.out (Nat.le_refl _));obtain⟨x1,x2⟩:=row_mid HO6.out)
        |fail)
       have HO7:=hZ (HO6.out.storedN m (q+1))
       go_roundw
       case rel=>exact⟨_,q+1,R'-y,rfl,by have:=HLE.out;have:=HQT.out;rw[Nat.add_mul];omega,hZ (by have:=HO7.out;rwa[set_mid] at this),
        hZ ⟨LsAt.set HV6.out (B:=g+1) (HF6.out.base (by have:=HB.out.2;have:=HB5.out.size;omega)) ⟨g,m,none⟩ (Nat.lt_succ_self g) _,HF6.out.base (by have:=HB.out.2;have:=HB5.out.size;omega)⟩,
        hZ ⟨(HB.out.1.trans (HB6.out.mono (Nat.le_of_lt HB.out.2))).setCell (Nat.le_refl _) _,by simp[World.setCell];exact Nat.lt_of_lt_of_le HB.out.2 HB6.out.size⟩⟩
       case measure=>
        rw[toTen_of (row_mid HO.out).1,toTen_of (c:=q+1) (by have h:=HO7.out;rw[set_mid] at h;exact(row_mid h).1)];have:=HQ9.out;omega
end Go.Proofs.YteeifhlhpiimoaaGreatDoor
end
