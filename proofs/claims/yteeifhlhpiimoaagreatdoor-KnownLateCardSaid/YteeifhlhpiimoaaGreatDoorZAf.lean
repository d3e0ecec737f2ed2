/-
  Contracts of entry.Valid's search for a condition that fails. Conditions: the conditions' own contracts. What entry.Valid stands on: an entry's cells cleared, parts as cells. No condition. The comparison at Valid's end. No condition. Lists of entries in memory; whole entries loaded and stored inside an iterator; conditions that are closures. No condition. Known's conditions as closures, and its iterator where. Conditions: each contract's own. Known's iterator where, as an iterator; first. Conditions: each contract's own. Known's first. Conditions: the iterator's contract. Bases in memory; what lies in blocks that a call has laid; known's conditions and iterators in these words. Conditions: each contract's own. The best element for each key: plainly, for any relation that orders the elements of a key. No condition. Sorted lists and lists without repeated keys: plainly. No condition.
-/
import Derived.Test.YteeifhlhpiimoaaGreatDoorZAe
import Derived.Test.YteeifhlhpiimoaaGreatDoorZAa
import Derived.Great.BuildSlice
import Derived.Laws.StructEq
import Derived.Test.YteeifhlhpiimoaaGreatDoorZAd
import Derived.KernelRfl
set_option maxHeartbeats 4000000
set_option maxRecDepth 100000
section
namespace Go.Proofs.YteeifhlhpiimoaaGreatDoor
open Go Go.RowKit Go.Shelf
attribute [local go_sem] Oper.semAt_some
structure Asks (w:World) (v:Value) (g:Nat) (b:Bool):Prop where
 enters:∀args W,(callFunc g args).run Tryz.prog W=.ok (.enter g args) W
 calls:∀W,Below w.heap.size w W→Calls Tryz.prog g #[v] W (ValP W b)
theorem Ent.size (e:Ent):e.cells.length=18:=rfl
theorem ientry {e:Ent}:(Tryz.prog.info? 33).map (·.size)=some e.cells.length:=by rw[Ent.size];kernel_rfl
theorem valid1_walk (g:Nat) (ans:Bool) (b:Nat) (e:Ent) (w0 w:World) (h:Asks w0 e.val g ans) (hb:Below w0.heap.size w0 w) (hE:EntAt w b e):
 Calls Tryz.prog 68 #[.func (.func g) #[] #[],.pointer (some ⟨b,0,none⟩)] w (ValP w (!ans)):=by
 have HC:=hZ (h.calls w hb);have eg:=h.enters;have HE:=hZ (range_of (cs:=e.cells) hE);have IE:=hZ (ientry (e:=e));clear h hb hE
 go_enter Tryz.func68,Tryz.ntmps68
 go_wp2_with (first
  |((with_reducible refine wpList_load_mid rfl 33 (.tmp 1) rfl b 0 ?hx e.cells _ HE.out Tryz.underlying33 rfl IE.out ?_);(case hx=>rfl))
  |((with_reducible refine HC.out.mono ?_);rintro e1 w1 ⟨rfl,hb⟩)
  |fail)
 go_ret;exact⟨rfl,hb⟩
theorem index_walk (rs:List (Nat×Bool)) (A:Option Addr) (n c:Nat) (hn:rs.length=n) (hnm:n≤1000) (b:Nat) (e:Ent) (w:World) (hA:LAt w w.heap.size A (fun p:Nat×Bool=>fnV p.1) rs) (hE:EntAt w b e) (hR:∀p∈rs,Asks w e.val p.1 p.2):
 Calls Tryz.prog 125 #[.slice A n c,.func (.func 68) #[] #[.pointer (some ⟨b,0,none⟩)]] w fun e' w'=>(∃i:Int,e'=.returned (.int .i64 i)∧(0≤i↔rs.all (·.2)=false))∧Below w.heap.size w w':=by
 have HA:=hZ hA;have HE:=hZ hE;have HR:=hZ hR;have HN:=hZ hn;clear hA hE hR hn;have e68:∀args W,(callFunc 68 args).run Tryz.prog W=.ok (.enter 68 args) W:=enters_of Tryz.func68 (by kernel_rfl) rfl
 go_enter Tryz.func125,Tryz.ntmps125
 go_wp2_with fail
 go_loopw [5,8] (fun _ v wr=> ∃i:Nat,v=.int .i64 (i:Int)∧i≤n∧Hid (∀p∈rs.take i,p.2=true)∧Below w.heap.size w wr) (fun _ v _=>match v with|.int _ k=>n-k.toNat|_=>0)
 case atStart=>exact⟨0,rfl,Nat.zero_le _,hZ (by simp),Below.refl _ _⟩
 case round=>
  obtain⟨i,rfl,hi,HT,hB⟩:=hrel;have HB:=hZ hB;clear hB
  by_cases hlt:i<n
  · have hl:i<rs.length:=by rw[HN.out];exact hlt
    obtain⟨a,rfl,hab,hac⟩:=(HA.out.below HB.out).get hl;have hmem:rs[i]∈rs:=List.getElem_mem hl;obtain⟨p,hp⟩:=oQ (rs[i]);rw[hp] at hac hmem;obtain⟨g,ans⟩:=p;have ask:=HR.out _ hmem;have HV:=hZ (valid1_walk g ans b e w wr ask HB.out (HE.out.below HB.out));(have hp2:rs[i]?=some (g,ans):=by rw[List.getElem?_eq_getElem hl,hp]);have HP:=hZ hp2;have hac:wr.cell? (a.add i)=some (.func (.func g) #[] #[]):=hac;(have d1:decide (i<n)=true:=by simp[hlt]);(have z1:(0:Int)≤(i:Int):=by omega);(have z2:(i:Int)<(n:Int):=by omega);(have w1:IntKind.i64.wrap ((i:Int)+1)=((i+1:Nat):Int):=by rw[IntKind.wrap_i64];omega);have HMEM:=hZ hmem;clear hmem ask hp hl hp2;cases ans
    · go_wp2_with (first
       |(go_at_call 68;(with_reducible refine HV.out.mono ?_);rintro e1 w2 ⟨rfl,hb⟩;have HB2:=bTr HB hb;clear hb)
       |fail)
      go_ret;refine⟨⟨_,rfl,?_⟩,HB2.out⟩;refine⟨fun _=> ?_,fun _=>by omega⟩;rw[List.all_eq_false];exact⟨_,HMEM.out,by simp⟩
    · go_wp2_with (first
       |(go_at_call 68;(with_reducible refine HV.out.mono ?_);rintro e1 w2 ⟨rfl,hb⟩;have HB2:=bTr HB hb;clear hb)
       |fail)
      go_round
      case rel=>
       refine⟨i+1,rfl,by omega,hZ ?_,HB2.out⟩;rw[List.take_add_one,HP.out];intro q hq;rcases List.mem_append.1 hq with h|h
       · exact HT.out q h
       · rw[Option.toList_some] at h;rw[List.mem_singleton.1 h]
      case measure=>simp;omega
  · have d1:decide (i<n)=false:=by simp;omega
    go_wp2_with fail;go_ret;refine⟨⟨_,rfl,?_⟩,HB.out⟩
    have:rs.all (·.2)=true:=by
     rw[List.all_eq_true];intro q hq;refine HT.out q ?_;rw[List.take_of_length_le (by rw[HN.out];omega)];exact hq
    rw[this];exact⟨fun h=>by omega,fun h=>by cases h⟩
theorem contains_walk (rs:List (Nat×Bool)) (A:Option Addr) (n c:Nat) (hn:rs.length=n) (hnm:n≤1000) (b:Nat) (e:Ent) (w:World) (hA:LAt w w.heap.size A (fun p:Nat×Bool=>fnV p.1) rs) (hE:EntAt w b e) (hR:∀p∈rs,Asks w e.val p.1 p.2):
 Calls Tryz.prog 67 #[.slice A n c,.func (.func 68) #[] #[.pointer (some ⟨b,0,none⟩)]] w (ValP w (!(rs.all (·.2)))):=by
 have HI:=hZ (index_walk rs A n c hn hnm b e w hA hE hR);obtain⟨z,hz⟩:=oQ (rs.all (·.2));rw[hz] at HI⊢;clear hz hA hE hR hn hnm
 go_enter Tryz.func67,Tryz.ntmps67
 go_wp2_with (first
  | (go_at_call 125;(with_reducible refine HI.out.mono ?_);rintro e1 w2 ⟨⟨i,rfl,hi⟩,hb⟩
     have hd:decide (0≤i)= !z:=by cases z<;>simp at hi⊢ <;>omega
     clear hi)
  |fail)
 go_ret;exact⟨rfl,hb⟩
def Ent.clr (e:Ent) (i:Nat):Ent:=
 match i with
 |1=>{e with id:=0}
 |5=>{e with frm:=0}
 |6=>{e with til:=0}
 |7=>{e with lab:=0}
 |8=>{e with item:=0}
 |9=>{e with person:=0}
 |10=>{e with skill:=0}
 |11=>{e with ln:=⟨#[]⟩}
 |12=>{e with ld:=⟨#[]⟩}
 |13=>{e with hn:=⟨#[]⟩}
 |14=>{e with hd:=⟨#[]⟩}
 |15=>{e with rn:=⟨#[]⟩}
 |16=>{e with rd:=⟨#[]⟩}
 |17=>{e with text:=⟨#[]⟩}
 |_=>e
def Ent.num (e:Ent) (i:Nat):Int:=
 match i with
 |1=>e.id
 |5=>e.frm
 |6=>e.til
 |7=>e.lab
 |8=>e.item
 |9=>e.person
 |10=>e.skill
 |_=>0
def numIx (i:Nat):Prop:=i=1∨i=5∨i=6∨i=7∨i=8∨i=9∨i=10
def txtIx (i:Nat):Prop:=i=11∨i=12∨i=13∨i=14∨i=15∨i=16∨i=17
theorem num_cell {i:Nat} (h:numIx i) (e:Ent):e.cells[i]?=some (.int .i64 (e.num i)):=by
 rcases h with rfl|rfl|rfl|rfl|rfl|rfl|rfl<;>rfl
theorem txt_cell {i:Nat} (h:txtIx i) (e:Ent):∃s,e.cells[i]?=some (.string s):=by
 rcases h with rfl|rfl|rfl|rfl|rfl|rfl|rfl<;>exact⟨_,rfl⟩
theorem clr_num {i:Nat} (h:numIx i) (e:Ent):(e.clr i).cells=e.cells.set i (.int .i64 0):=by
 rcases h with rfl|rfl|rfl|rfl|rfl|rfl|rfl<;>rfl
theorem clr_txt {i:Nat} (h:txtIx i) (e:Ent):(e.clr i).cells=e.cells.set i (.string ⟨#[]⟩):=by
 rcases h with rfl|rfl|rfl|rfl|rfl|rfl|rfl<;>rfl
theorem ent_set {W:World} {b:Nat} {e e':Ent} (h:EntAt W b e) {i:Nat} {z:Value} (he:e'.cells=e.cells.set i z):EntAt (W.setCell ⟨b,i,none⟩ z) b e':=by
 unfold EntAt at h⊢;rw[he];obtain⟨cs,hcs⟩:=oQ (e.cells);rw[hcs] at h⊢;simp only[World.setCell,Array.getElem?_modify,h];simp
inductive PartE where
 |num (i:Nat) (l:Int)
 |txt (l:List Nat)
def checks:List PartE→Ent→Bool
 |[],e=>decide (e.id=0∧e.frm=0∧e.til=0∧e.lab=0∧e.item=0∧e.person=0∧e.skill=0∧e.ln.toList=[]∧e.ld.toList=[]∧e.hn.toList=[]∧e.hd.toList=[]∧e.rn.toList=[]∧e.rd.toList=[]∧e.text.toList=[])
 |.num i l::qs,e=>decide (l≤e.num i)&&(decide (e.num i≤1000000)&&checks qs (e.clr i))
 |.txt l::qs,e=>checks qs (l.foldl Ent.clr e)
inductive Fits:PartD→PartE→Prop
 |num {g i:Nat} {l:Int} (enters:∀args W,(callFunc g args).run Tryz.prog W=.ok (.enter g args) W) (calls:∀b W,Calls Tryz.prog g #[.pointer (some ⟨b,0,none⟩)] W fun e w'=>e=.returned (.pointer (some ⟨b,i,none⟩))∧w'=W) (ix:numIx i):Fits (.num g l) (.num i l)
 |txt {g:Nat} {is:List Nat} (enters:∀args W,(callFunc g args).run Tryz.prog W=.ok (.enter g args) W) (calls:∀b W,Calls Tryz.prog g #[.pointer (some ⟨b,0,none⟩)] W (TxtP W b is)) (ix:∀i∈is,txtIx i) (len:is.length≤10):Fits (.txt g) (.txt is)
theorem box_ent {P:Program} {ops:Array Oper} {rest:List Oper} {op:Oper} {a:Act} {w:World} {Q:Exit→Act→World→Prop} (hgd:op.guard=none) (x:Operand) (ho:op.op=.box 33 x) (e:Ent) (hx:a.eval x=.agg e.cells.toArray)
 (h:∀w',EntAt w' w.heap.size e→Below w.heap.size w w'→w'.heap.size=w.heap.size+1→wpList P ops Q rest (a.put op.dst (.pointer (some ⟨w.heap.size,0,none⟩))) w'):wpList P ops Q (op::rest) a w:=
 wpList_plain hgd fun _ hK=>by
  have h2:=hK _ _ (h (w.alloc (.cells e.cells.toArray 33)) (World.alloc_heap_new w _) (below_new _ _) (by simp));obtain⟨cs,hcs⟩:=oQ (e.cells.toArray);rw[hcs] at hx h2;unfold Oper.wp execOp;simp only[ho,hx,Instr.box,Sem.run_bind,Sem.run_pure,newVar,newRow,Value.cells];simpa[go_sem] using h2
theorem one_cells (e:Ent):e.cells.toArray.all (·.oneCell')=true:=by simp[Ent.cells,Value.oneCell']
theorem new_row (V:World) (old:Array Value) (T:TypeId) (e:Ent) (hT:T=33):EntAt ((V.alloc (.cells old T)).setRow V.heap.size e.cells.toArray) V.heap.size e∧Below V.heap.size V ((V.alloc (.cells old T)).setRow V.heap.size e.cells.toArray)∧((V.alloc (.cells old T)).setRow V.heap.size e.cells.toArray).heap.size=V.heap.size+1:=by
 subst hT;obtain⟨cs,hcs⟩:=oQ (e.cells.toArray);have h:=World.alloc_heap_new V (.cells old 33);unfold EntAt;rw[hcs];refine⟨?_,⟨rfl,rfl,rfl,by simp[World.setRow],fun k hk=> ?_⟩,by simp[World.setRow]⟩
 · simp only[World.setRow,Array.getElem?_modify,h]
   simp
 · simp only[World.setRow,Array.getElem?_modify]
   rw[if_neg (by omega)];exact Below.heap_alloc _ _ _ hk
theorem store_new {P:Program} {ops:Array Oper} {rest:List Oper} {o:Oper} {a:Act} {V:World} {old:Array Value} {Q:Exit→Act→World→Prop} (hgd:o.guard=none) (x y:Operand) (ho:o.op=.store 33 x y) (hd:o.dst=none) (e:Ent)
 (hx:a.eval x=.pointer (some ⟨V.heap.size,0,none⟩)) (hy:a.eval y=.agg e.cells.toArray) (hi:(P.info? 33).map (·.size)=some e.cells.toArray.size) (hold:old.size=e.cells.toArray.size)
 (h:∀w',EntAt w' V.heap.size e→Below V.heap.size V w'→w'.heap.size=V.heap.size+1→wpList P ops Q rest a w'):wpList P ops Q (o::rest) a (V.alloc (.cells old 33)):=
 wpList_store_rowTo hgd 33 x y ho hd V.heap.size e.cells.toArray hx hy 33 old (World.alloc_heap_new _ _) hi hold (one_cells e) (h _ (new_row V old _ e rfl).1 (new_row V old _ e rfl).2.1 (new_row V old _ e rfl).2.2)
theorem flat4 (ps:List PartD):∀(i:Nat) (p:PartD),ps[i]?=some p→∀j,j<4→(ps.flatMap PartD.cells)[i*4+j]?=p.cells[j]?:=by
 have l4:∀p:PartD,p.cells.length=4:=fun p=>by cases p<;>rfl
 induction ps with
 |nil=>intro i p h;simp at h
 | cons q ps ih=>
   intro i p h j hj;rw[List.flatMap_cons]
   cases i with
   |zero=>cases h;rw[List.getElem?_append_left (by rw[l4];omega)];congr 1;omega
   | succ i=>
     rw[List.getElem?_append_right (by rw[l4];omega),l4,show(i+1)*4+j-4=i*4+j by omega];exact ih i p (by simpa using h) j hj
theorem neq_nil (w:World):(binOp .neq 107 .nilFunc .nilFunc).run Tryz.prog w=.ok (.bool false) w:=by kernel_rfl
theorem neq_fn (g:Nat) (w:World):(binOp .neq 107 (.func (.func g) #[] #[]) .nilFunc).run Tryz.prog w=.ok (.bool true) w:=by kernel_rfl
def SameHead (e' e:Ent):Prop:=e'.kind=e.kind∧e'.ver=e.ver∧e'.day=e.day∧e'.gone=e.gone
theorem SameHead.clr {e' e:Ent} (h:SameHead e' e) (i:Nat):SameHead (e'.clr i) e:=by
 unfold Ent.clr
 split<;>exact h
theorem eq_ent (e':Ent) (W:World):(binOp .eql 33 (.agg e'.cells.toArray) (.agg #[.int .i64 e'.kind,.int .i64 0,.int .i64 e'.ver,.int .i64 e'.day,.bool e'.gone,.int .i64 0,.int .i64 0,.int .i64 0,.int .i64 0,.int .i64 0,.int .i64 0,.string ⟨#[]⟩,.string ⟨#[]⟩,.string ⟨#[]⟩,.string ⟨#[]⟩,.string ⟨#[]⟩,.string ⟨#[]⟩,.string ⟨#[]⟩])).run Tryz.prog W=.ok (.bool (checks [] e')) W:=by
 obtain⟨kind,id,ver,day,gone,frm,til,lab,item,person,skill,ln,ld,hn,hd,rn,rd,text⟩:=e';unfold Ent.cells checks;simp only[];go_simp
 by_cases h0:id=0
 case neg=>simp[h0]
 rw[if_pos h0]
 by_cases h1:frm=0
 case neg=>simp[h1]
 rw[if_pos h1]
 by_cases h2:til=0
 case neg=>simp[h2]
 rw[if_pos h2]
 by_cases h3:lab=0
 case neg=>simp[h3]
 rw[if_pos h3]
 by_cases h4:item=0
 case neg=>simp[h4]
 rw[if_pos h4]
 by_cases h5:person=0
 case neg=>simp[h5]
 rw[if_pos h5]
 by_cases h6:skill=0
 case neg=>simp[h6]
 rw[if_pos h6]
 by_cases h7:ln.toList=[]
 case neg=>simp[h7]
 rw[if_pos h7]
 by_cases h8:ld.toList=[]
 case neg=>simp[h8]
 rw[if_pos h8]
 by_cases h9:hn.toList=[]
 case neg=>simp[h9]
 rw[if_pos h9]
 by_cases h10:hd.toList=[]
 case neg=>simp[h10]
 rw[if_pos h10]
 by_cases h11:rn.toList=[]
 case neg=>simp[h11]
 rw[if_pos h11]
 by_cases h12:rd.toList=[]
 case neg=>simp[h12]
 rw[if_pos h12]
 by_cases h13:text.toList=[]
 case neg=>simp[h13]
 rw[if_pos h13];simp[h0,h1,h2,h3,h4,h5,h6,h7,h8,h9,h10,h11,h12,h13]
theorem eq_ent2 {e' e:Ent} (h:SameHead e' e) (W:World):(binOp .eql 33 (.agg e'.cells.toArray) (.agg #[.int .i64 e.kind,.int .i64 0,.int .i64 e.ver,.int .i64 e.day,.bool e.gone,.int .i64 0,.int .i64 0,.int .i64 0,.int .i64 0,.int .i64 0,.int .i64 0,.string ⟨#[]⟩,.string ⟨#[]⟩,.string ⟨#[]⟩,.string ⟨#[]⟩,.string ⟨#[]⟩,.string ⟨#[]⟩,.string ⟨#[]⟩])).run Tryz.prog W=.ok (.bool (checks [] e')) W:=by
 obtain⟨h1,h2,h3,h4⟩:=h;rw[←h1,←h2,←h3,←h4];exact eq_ent e' W
theorem step_eql {P:Program} {ops:Array Oper} {rest:List Oper} {o:Oper} {a:Act} {w:World} {Q:Exit→Act→World→Prop} (hgd:o.guard=none) (t t':TypeId) (x y:Operand) (ho:o.op=.binOp .eql t x y t') (u v:Value) (hx:a.eval x=u) (hy:a.eval y=v) (b:Bool)
 (hgr:(eqGuard .eql t x y u v).run P w=.ok () w) (hr:(binOp .eql t u v).run P w=.ok (.bool b) w) (h:wpList P ops Q rest (a.put o.dst (.bool b)) w):wpList P ops Q (o::rest) a w:=
 wpList_plain hgd fun _ hK=>by
  have h2:=hK _ _ h;unfold Oper.wp execOp;simp only[ho,hx,hy];simp only[Sem.run_bind,Sem.run_pure,hgr,hr,Result.andThen_ok];exact h2
theorem guard_ent (x y:Operand) (cs ds:Array Value) (W:World):(eqGuard .eql 33 x y (.agg cs) (.agg ds)).run Tryz.prog W=.ok () W:=by kernel_rfl
def Keeps (Y:Nat→Prop) (w W:World):Prop:=∀k,Y k→W.heap[k]?=w.heap[k]?
theorem Keeps.refl (Y:Nat→Prop) (w:World):Keeps Y w w:=fun _ _=>rfl
theorem Keeps.trans {Y:Nat→Prop} {a b c:World} (h:Keeps Y a b) (k:Keeps Y b c):Keeps Y a c:=fun i hi=>(k i hi).trans (h i hi)
theorem Keeps.of_below {Y:Nat→Prop} {n:Nat} {w W:World} (h:Below n w W) (hY:∀k,Y k→k<n):Keeps Y w W:=fun k hk=>h.block k (hY k hk)
theorem Keeps.boxed {Y:Nat→Prop} {w W:World} (h:Keeps Y w W) {b:Nat} {t:TypeId} {v:Value} (hb:Boxed w b t v) (hY:Y b):Boxed W b t v:=(h b hY).trans hb
def EAt (w:World) (Y:Nat→Prop) (A:Option Addr) (l:List Ent):Prop:=∀(i:Nat) (e:Ent),l[i]?=some e→∃b,A=some ⟨b,0,none⟩∧Y b∧w.rangeAt b (i*18) e.cells
theorem EAt.keeps {w W:World} {Y:Nat→Prop} {A:Option Addr} {l:List Ent} (h:EAt w Y A l) (k:Keeps Y w W):EAt W Y A l:=fun i e he=>by
 obtain⟨b,e1,e2,e3⟩:=h i e he;exact⟨b,e1,e2,fun j v hv=>(World.cell?_of_block (w:=w) (k b e2)).trans (e3 j v hv)⟩
theorem EAt.mono {w:World} {Y Y':Nat→Prop} {A:Option Addr} {l:List Ent} (h:EAt w Y A l) (hY:∀k,Y k→Y' k):EAt w Y' A l:=fun i e he=>by
 obtain⟨b,e1,e2,e3⟩:=h i e he;exact⟨b,e1,hY b e2,e3⟩
theorem flat_at {α:Type} {f:α→List Value} {s:Nat} (hf:∀x,(f x).length=s):∀(l:List α) (i:Nat) (x:α),l[i]?=some x→∀j,j<s→(l.flatMap f)[i*s+j]?=(f x)[j]?:=by
 intro l
 induction l with
 |nil=>intro i x h;simp at h
 | cons y l ih=>
   intro i x h j hj;rw[List.flatMap_cons]
   cases i with
   |zero=>cases h;rw[List.getElem?_append_left (by rw[hf];omega)];congr 1;omega
   | succ i=>
     (have:(i+1)*s+j=s+(i*s+j):=by rw[Nat.succ_mul];omega);rw[this,List.getElem?_append_right (by rw[hf];omega),hf,Nat.add_sub_cancel_left];exact ih i x (by simpa using h) j hj
theorem EAt.of_ol {w:World} {B n c:Nat} {A:Option Addr} {l:List Ent} {Y:Nat→Prop} (h:OL w B 33 18 Ent.cells (.slice A n c) l) (hY:∀b,A=some ⟨b,0,none⟩→Y b):EAt w Y A l:=by
 intro i e he;have hi:i<l.length:=(List.getElem?_eq_some_iff.1 he).1;obtain⟨g,cap,hv,_,hlt,_⟩:=h.form (by omega);cases hv;refine⟨g,rfl,hY g rfl,fun j v hv=> ?_⟩;have hj:j<18:=by have:=(List.getElem?_eq_some_iff.1 hv).1;simpa[Ent.cells] using this
 have hlen:(l.flatMap Ent.cells).length=l.length*18:=flatMap_length (fun _=>rfl);rw[World.ownsRow.cellAt h (i*18+j) (by omega),flat_at (f:=Ent.cells) (s:=18) (fun _=>rfl) l i e he j hj];exact hv
section
variable {F:Fence} {n:Nat} {P:Program} {ops:Array Oper} {Q:Exit→Act→World→Prop} {a:Act} {w:World} {rest:List Oper} {o:Oper}
theorem wpListIn_load_mid (hgd:o.guard=none) (ty:TypeId) (x:Operand) (ho:o.op=.load ty x)
 (b k:Nat) (hx:a.eval x=.pointer (some ⟨b,k,none⟩)) (cs:List Value) (d:TypeDesc) (hc:w.rangeAt b k cs)
 (hu:P.underlying ty=some d) (hd:d.isRow=true) (hi:(P.info? ty).map (·.size)=some cs.length)
 (h:wpListIn F n P ops Q rest (a.put o.dst (.agg cs.toArray)) w):wpListIn F n P ops Q (o::rest) a w:=by
 refine wpListIn_plain hgd fun K hK=> ?_;unfold Oper.wpIn;refine⟨?_,?_⟩
 · simp[Oper.about,ho]
 · rw[Oper.semAt_plain F _ _ (by rw[ho];intro c hc';cases hc')]
   have hr:=run_loadAt_mid (P:=P) w b k ty cs d hc hu hd hi;obtain⟨z,hz⟩:=oQ (cs.toArray);rw[hz] at hr h;simp[execOp,ho,hx,hr,Result.andThen];exact hK _ _ h
theorem wpListIn_store_new {V:World} {old:Array Value} (hgd:o.guard=none) (x y:Operand) (ho:o.op=.store 33 x y) (hd:o.dst=none) (e:Ent)
 (hx:a.eval x=.pointer (some ⟨V.heap.size,0,none⟩)) (hy:a.eval y=.agg e.cells.toArray) (hi:(P.info? 33).map (·.size)=some e.cells.toArray.size) (hold:old.size=e.cells.toArray.size)
 (h:∀w',EntAt w' V.heap.size e→Below V.heap.size V w'→w'.heap.size=V.heap.size+1→wpListIn F n P ops Q rest a w'):wpListIn F n P ops Q (o::rest) a (V.alloc (.cells old 33)):=by
 have h2:=h _ (new_row V old _ e rfl).1 (new_row V old _ e rfl).2.1 (new_row V old _ e rfl).2.2;refine wpListIn_plain hgd fun K hK=> ?_;unfold Oper.wpIn;refine⟨?_,?_⟩
 · simp[Oper.about,ho]
 · rw[Oper.semAt_plain F _ _ (by rw[ho];intro c hc';cases hc')]
   have hr:=run_storeVar_row (P:=P) (V.alloc (.cells old 33)) V.heap.size 33 33 old e.cells.toArray (World.alloc_heap_new _ _) hi hold (one_cells e);obtain⟨z,hz⟩:=oQ (e.cells.toArray);rw[hz] at hr h2 hy;have h3:=hK _ _ h2;unfold execOp;simp only[ho,hx,hy,Instr.storeAt,Instr.sureAddr,Sem.run_bind,Sem.run_pure,Result.andThen_ok,hr];show K (a.put o.dst undef) _;rw[hd];exact h3
end
structure CndD where
 g:Nat
 caps:Array Value
 p:Ent→Bool
def CndD.val (c:CndD):Value:=.func (.func c.g) #[] c.caps
structure Cond (w:World) (Y:Nat→Prop) (c:CndD):Prop where
 enters:∀args W,(callFunc c.g args).run Tryz.prog W=.ok (.enter c.g args) W
 calls:∀e W,Keeps Y w W→Calls Tryz.prog c.g (#[Ent.val e]++c.caps) W (ValP W (c.p e))
theorem Cond.keeps {w W:World} {Y:Nat→Prop} {c:CndD} (h:Cond w Y c) (k:Keeps Y w W):Cond W Y c:=⟨h.enters,fun e V hV=>h.calls e V (k.trans hV)⟩
def VAt (w:World) (Y:Nat→Prop) (A:Option Addr) (vs:List Value):Prop:=∀(i:Nat) (v:Value),vs[i]?=some v→∃a,A=some a∧Y a.block∧w.cell? (a.add i)=some v
theorem VAt.keeps {w W:World} {Y:Nat→Prop} {A:Option Addr} {l:List Value} (h:VAt w Y A l) (k:Keeps Y w W):VAt W Y A l:=fun i e he=>by
 obtain⟨a,e1,e2,e3⟩:=h i e he;exact⟨a,e1,e2,(World.cell?_of_block (w:=w) (a:=a.add i) (by rw[addr_add_block];exact k _ e2)).trans e3⟩
theorem about_walk (n:Int) (w:World):Calls Tryz.prog 73 #[.int .i64 n] w fun e w'=>e=.returned (.func (.func 129) #[] #[.pointer (some ⟨w.heap.size,0,none⟩)])∧w'=w.alloc (.cells #[.int .i64 n] 3):=by
 go_enter Tryz.func73,Tryz.ntmps73
 go_wp2;go_ret;exact⟨rfl,rfl⟩
theorem holds_walk (n:Int) (w:World):Calls Tryz.prog 75 #[.int .i64 n] w fun e w'=>e=.returned (.func (.func 130) #[] #[.pointer (some ⟨w.heap.size,0,none⟩)])∧w'=w.alloc (.cells #[.int .i64 n] 3):=by
 go_enter Tryz.func75,Tryz.ntmps75
 go_wp2;go_ret;exact⟨rfl,rfl⟩
theorem about1_walk (e:Ent) (n:Int) (b:Nat) (w:World) (hb:Boxed w b 3 (.int .i64 n)):Calls Tryz.prog 129 #[e.val,.pointer (some ⟨b,0,none⟩)] w (ValP w (decide (e.item=n))):=by
 have HB:=hZ hb;clear hb
 go_enter Tryz.func129,Tryz.ntmps129
 go_wp2_with (first
  | ((with_reducible refine box_ent rfl (.tmp 0) rfl e ?hx ?_);(case hx=>rfl);intro w1 he1 hb1 hs1
     have x1:=he1.cell (i:=8) rfl;have hbx:Boxed w1 b 3 (.int .i64 n):=(hb1.block b HB.out.lt).trans HB.out;have x2:=hbx.cell;have HB1:=hZ hb1
     clear he1 hb1 hs1 hbx)
  |fail)
 go_ret;exact⟨rfl,HB1.out⟩
theorem holds1_walk (e:Ent) (n:Int) (b:Nat) (w:World) (hb:Boxed w b 3 (.int .i64 n)):Calls Tryz.prog 130 #[e.val,.pointer (some ⟨b,0,none⟩)] w (ValP w (decide (e.frm≤n)&&decide (n≤e.til))):=by
 have HB:=hZ hb;clear hb;obtain⟨q,hq⟩:=oQ (decide (e.frm≤n));obtain⟨r,hr⟩:=oQ (decide (n≤e.til))
 cases q<;>cases r<;>
 · rw [hq,hr]
   go_enter Tryz.func130,Tryz.ntmps130
   go_wp2_with (first
    | ((with_reducible refine box_ent rfl (.tmp 0) rfl e ?hx ?_);(case hx=>rfl);intro w1 he1 hb1 hs1
       have x1:=he1.cell (i:=5) rfl;have x3:=he1.cell (i:=6) rfl;have hbx:Boxed w1 b 3 (.int .i64 n):=(hb1.block b HB.out.lt).trans HB.out;have x2:=hbx.cell;have HB1:=hZ hb1
       clear he1 hb1 hs1 hbx)
    |fail)
   go_ret;exact⟨rfl,HB1.out⟩
theorem cond_about (n:Int) (b:Nat) (w:World) (Y:Nat→Prop) (hY:Y b) (hb:Boxed w b 3 (.int .i64 n)):Cond w Y ⟨129,#[.pointer (some ⟨b,0,none⟩)],fun e=>decide (e.item=n)⟩:=
 ⟨enters_of Tryz.func129 (by kernel_rfl) rfl,fun e W k=>about1_walk e n b W (k.boxed hb hY)⟩
theorem cond_holds (n:Int) (b:Nat) (w:World) (Y:Nat→Prop) (hY:Y b) (hb:Boxed w b 3 (.int .i64 n)):Cond w Y ⟨130,#[.pointer (some ⟨b,0,none⟩)],fun e=>decide (e.frm≤n)&&decide (n≤e.til)⟩:=
 ⟨enters_of Tryz.func130 (by kernel_rfl) rfl,fun e W k=>holds1_walk e n b W (k.boxed hb hY)⟩
theorem where_walk (A:Option Addr) (n c:Nat) (A2:Option Addr) (n2 c2:Nat) (w:World):Calls Tryz.prog 72 #[.slice A n c,.slice A2 n2 c2] w fun e w'=>
 e=.returned (.func (.func 127) #[] #[.pointer (some ⟨w.heap.size,0,none⟩),.pointer (some ⟨w.heap.size+1,0,none⟩)])∧w'=(w.alloc (.cells #[.slice A n c] 25)).alloc (.cells #[.slice A2 n2 c2] 110):=by
 go_enter Tryz.func72,Tryz.ntmps72
 go_wp2;go_ret;exact⟨rfl,rfl⟩
theorem wcond_walk (c:CndD) (b:Nat) (e:Ent) (w:World) (Y:Nat→Prop) (h:Cond w Y c) (hE:EntAt w b e):
 Calls Tryz.prog 128 #[c.val,.pointer (some ⟨b,0,none⟩)] w (ValP w (!(c.p e))):=by
 have HC:=hZ (h.calls e w (Keeps.refl _ _));have eg:=h.enters;have HE:=hZ (range_of (cs:=e.cells) hE);have IE:=hZ (ientry (e:=e));obtain⟨g,caps,p⟩:=c;unfold CndD.val
 dsimp only at HC eg⊢
 obtain⟨q,hq⟩:=oQ (p e);rw[hq] at HC⊢;clear h hE hq
 go_enter Tryz.func128,Tryz.ntmps128
 go_wp2_with (first
  |((with_reducible refine wpList_load_mid rfl 33 (.tmp 1) rfl b 0 ?hx e.cells _ HE.out Tryz.underlying33 rfl IE.out ?_);(case hx=>rfl))
  |((with_reducible refine HC.out.mono ?_);rintro e1 w1 ⟨rfl,hb⟩)
  |fail)
 go_ret;exact⟨rfl,hb⟩
theorem windex_walk (rs:List CndD) (A:Option Addr) (n c:Nat) (hn:rs.length=n) (hnm:n≤1000) (b:Nat) (e:Ent) (w:World) (Y:Nat→Prop) (hY:∀k,Y k→k<w.heap.size) (hA:VAt w Y A (rs.map CndD.val)) (hE:EntAt w b e) (hR:∀c∈rs,Cond w Y c):
 Calls Tryz.prog 125 #[.slice A n c,.func (.func 128) #[] #[.pointer (some ⟨b,0,none⟩)]] w fun e' w'=>(∃i:Int,e'=.returned (.int .i64 i)∧(0≤i↔rs.all (·.p e)=false))∧Below w.heap.size w w':=by
 have HA:=hZ hA;have HE:=hZ hE;have HR:=hZ hR;have HN:=hZ hn;have HY:=hZ hY;clear hA hE hR hn hY;have e68:∀args W,(callFunc 128 args).run Tryz.prog W=.ok (.enter 128 args) W:=enters_of Tryz.func128 (by kernel_rfl) rfl
 go_enter Tryz.func125,Tryz.ntmps125
 go_wp2_with fail
 go_loopw [5,8] (fun _ v wr=> ∃i:Nat,v=.int .i64 (i:Int)∧i≤n∧Hid (∀c∈rs.take i,c.p e=true)∧Below w.heap.size w wr) (fun _ v _=>match v with|.int _ k=>n-k.toNat|_=>0)
 case atStart=>exact⟨0,rfl,Nat.zero_le _,hZ (by simp),Below.refl _ _⟩
 case round=>
  obtain⟨i,rfl,hi,HT,hB⟩:=hrel;have HB:=hZ hB;clear hB;have HK:=hZ (Keeps.of_below HB.out HY.out)
  by_cases hlt:i<n
  · have hl:i<rs.length:=by rw[HN.out];exact hlt
    obtain⟨p,hp⟩:=oQ (rs[i]);(have hp2:rs[i]?=some p:=by rw[List.getElem?_eq_getElem hl,hp]);obtain⟨a,rfl,hab,hac⟩:=(HA.out.keeps HK.out) i p.val (by rw[List.getElem?_map,hp2];rfl);have hmem:p∈rs:=List.mem_of_getElem? hp2;have ask:=(HR.out _ hmem).keeps HK.out;have HV:=hZ (wcond_walk p b e wr Y ask (HE.out.below HB.out));have HP:=hZ hp2;obtain⟨ans,hans⟩:=oQ (p.p e);have HANS:=hZ hans;rw[hans] at HV;unfold CndD.val at hac HV;(have d1:decide (i<n)=true:=by simp[hlt]);(have z1:(0:Int)≤(i:Int):=by omega);(have z2:(i:Int)<(n:Int):=by omega);(have w1:IntKind.i64.wrap ((i:Int)+1)=((i+1:Nat):Int):=by rw[IntKind.wrap_i64];omega);have HMEM:=hZ hmem;clear hmem ask hp hl hp2 hans;cases ans
    · go_wp2_with (first
       |(go_at_call 128;(with_reducible refine HV.out.mono ?_);rintro e1 w2 ⟨rfl,hb⟩;have HB2:=bTr HB hb;clear hb)
       |fail)
      go_ret;refine⟨⟨_,rfl,?_⟩,HB2.out⟩;refine⟨fun _=> ?_,fun _=>by omega⟩;rw[List.all_eq_false];exact⟨_,HMEM.out,by rw[HANS.out];simp⟩
    · go_wp2_with (first
       |(go_at_call 128;(with_reducible refine HV.out.mono ?_);rintro e1 w2 ⟨rfl,hb⟩;have HB2:=bTr HB hb;clear hb)
       |fail)
      go_round
      case rel=>
       refine⟨i+1,rfl,by omega,hZ ?_,HB2.out⟩;rw[List.take_add_one,HP.out];intro q hq;rcases List.mem_append.1 hq with h|h
       · exact HT.out q h
       · rw[Option.toList_some] at h;rw[List.mem_singleton.1 h];exact HANS.out
      case measure=>simp;omega
  · have d1:decide (i<n)=false:=by simp;omega
    go_wp2_with fail;go_ret;refine⟨⟨_,rfl,?_⟩,HB.out⟩
    have:rs.all (·.p e)=true:=by
     rw[List.all_eq_true];intro q hq;refine HT.out q ?_;rw[List.take_of_length_le (by rw[HN.out];omega)];exact hq
    rw[this];exact⟨fun h=>by omega,fun h=>by cases h⟩
theorem wcontains_walk (rs:List CndD) (A:Option Addr) (n c:Nat) (hn:rs.length=n) (hnm:n≤1000) (b:Nat) (e:Ent) (w:World) (Y:Nat→Prop) (hY:∀k,Y k→k<w.heap.size) (hA:VAt w Y A (rs.map CndD.val)) (hE:EntAt w b e) (hR:∀c∈rs,Cond w Y c):
 Calls Tryz.prog 67 #[.slice A n c,.func (.func 128) #[] #[.pointer (some ⟨b,0,none⟩)]] w (ValP w (!(rs.all (·.p e)))):=by
 have HI:=hZ (windex_walk rs A n c hn hnm b e w Y hY hA hE hR);obtain⟨z,hz⟩:=oQ (rs.all (·.p e));rw[hz] at HI⊢;clear hz hA hE hR hn hnm hY
 go_enter Tryz.func67,Tryz.ntmps67
 go_wp2_with (first
  | (go_at_call 125;(with_reducible refine HI.out.mono ?_);rintro e1 w2 ⟨⟨i,rfl,hi⟩,hb⟩
     have hd:decide (0≤i)= !z:=by cases z<;>simp at hi⊢ <;>omega
     clear hi)
  |fail)
 go_ret;exact⟨rfl,hb⟩
theorem Keeps.lt {Y:Nat→Prop} {w W:World} (h:Keeps Y w W) (hY:∀k,Y k→k<w.heap.size):∀k,Y k→k<W.heap.size:=fun k hk=>by
 obtain⟨o,ho⟩:∃o,w.heap[k]?=some o:=⟨_,Array.getElem?_eq_getElem (hY k hk)⟩;exact(Array.getElem?_eq_some_iff.1 ((h k hk).trans ho)).1
section
variable {F:Fence} {n:Nat} {P:Program} {ops:Array Oper} {Q:Exit→Act→World→Prop} {a:Act} {w:World} {rest:List Oper} {o:Oper}
theorem wpListIn_load_midw (hw:Region.wanted o (yielded ops a.tmps)=true) (ty:TypeId) (x:Operand) (ho:o.op=.load ty x)
 (b k:Nat) (hx:a.eval x=.pointer (some ⟨b,k,none⟩)) (cs:List Value) (d:TypeDesc) (hc:w.rangeAt b k cs)
 (hu:P.underlying ty=some d) (hd:d.isRow=true) (hi:(P.info? ty).map (·.size)=some cs.length)
 (h:wpListIn F n P ops Q rest (a.put o.dst (.agg cs.toArray)) w):wpListIn F n P ops Q (o::rest) a w:=by
 refine wpListIn_step fun K hK=> ?_;rw[if_pos hw];unfold Oper.wpIn;refine⟨?_,?_⟩
 · simp[Oper.about,ho]
 · rw[Oper.semAt_plain F _ _ (by rw[ho];intro c hc';cases hc')]
   have hr:=run_loadAt_mid (P:=P) w b k ty cs d hc hu hd hi;obtain⟨z,hz⟩:=oQ (cs.toArray);rw[hz] at hr h;simp[execOp,ho,hx,hr,Result.andThen];exact hK _ _ h
theorem wpListIn_skipw (hw:Region.wanted o (yielded ops a.tmps)=false) (h:wpListIn Fence.wide n P ops Q rest (a.put o.dst undef) w):wpListIn Fence.wide n P ops Q (o::rest) a w:=by
 simp only[wpListIn,hw];exact⟨fun _ _=>trivial,h⟩
end
def allP (rs:List CndD) (e:Ent):Bool:=rs.all (·.p e)
def encE1 (e:Ent):Array Value:=#[Ent.val e]
theorem where_iter (rs:List CndD) (l:List Ent) (A A2:Option Addr) (n c n2 c2 b1 b2:Nat) (hn:l.length=n) (hm:n≤maxLen) (hn2:rs.length=n2) (hm2:n2≤1000) (Y:Nat→Prop) (w:World) (hY:∀k,Y k→k<w.heap.size) (y1:Y b1) (y2:Y b2)
 (h1:Boxed w b1 25 (.slice A n c)) (h2:Boxed w b2 110 (.slice A2 n2 c2)) (hA:EAt w Y A l) (hA2:VAt w Y A2 (rs.map CndD.val)) (hR:∀c∈rs,Cond w Y c):
 IterZ Tryz.prog 127 #[.pointer (some ⟨b1,0,none⟩),.pointer (some ⟨b2,0,none⟩)] encE1 (fun _=>False) (Keeps Y) (fun xs=>xs=l.filter (allP rs)) (fun pre=> ∃k,pre=(l.take k).filter (allP rs)) n w:=by
 intro l0 J Jx W hW hJ hJx hYl h0;have kW:Keeps Y w W:=Keeps.of_below hW hY;have HYW:=hZ (kW.lt hY);have HKB1:Hid (Boxed W b1 25 (.slice A n c)):=hZ (kW.boxed h1 y1);have HKB2:Hid (Boxed W b2 110 (.slice A2 n2 c2)):=hZ (kW.boxed h2 y2);have HA:=hZ (hA.keeps kW);have HA2:=hZ (hA2.keeps kW);have HR:Hid (∀c∈rs,Cond W Y c):=hZ fun c hc=>(hR c hc).keeps kW;have HN:=hZ hn;have HN2:=hZ (And.intro hn2 hm2);have HYY:=hZ (And.intro y1 y2);have HYL:=hZ hYl;have HJ:=hZ hJ;have HJX:=hZ hJx;have hm':n≤9223372036854775807:=by unfold maxLen at hm;omega
 clear hY y1 y2 h1 h2 hA hA2 hR hn hn2 hm2 kW hYl hJ hJx hW hm;refine callsIn_of_wp Tryz.func127 rfl trivial ?_ rfl;simp only[Tryz.ntmps127,List.size_toArray,List.length_cons,List.length_nil,Nat.reduceAdd,Nat.reduceSub,Array.replicate_succ,Array.replicate_zero,List.push_toArray,List.append_toArray,List.nil_append,List.cons_append];have c0:=HKB1.out.cell
 gi_wp2_with fail
 gi_loopw [5,8] (fun _ i wr=> ∃(k:Nat) (pre:List Ent),Hid (pre=(l.take k).filter (allP rs))∧k≤n∧i=.int .i64 (k:Int)∧Hid (Keeps Y W wr)∧Hid (J pre wr)) (fun _ i _=>n-(intOf i).toNat)
 case atStart=>exact⟨0,[],hZ rfl,by omega,rfl,hZ (Keeps.refl _ _),hZ h0⟩
 case round=>
  obtain⟨k,pre,HPRE,hk,rfl,HK,HJP⟩:=hrel;clear h0 c0;have IE:=fun e:Ent=>hZ (ientry (e:=e))
  by_cases hlt:k<n
  · obtain⟨e,he⟩:∃e,l[k]?=some e:=⟨_,List.getElem?_eq_getElem (by rw[HN.out];exact hlt)⟩
    obtain⟨b,hAb,yb,hrg⟩:=(HA.out.keeps HK.out) k e he;subst hAb;have HRG:=hZ hrg;have HE:=hZ he;have c2':=(HK.out.boxed HKB2.out HYY.out.2).cell;(have z1:(0:Int)≤(k:Int):=by omega);(have z2:(k:Int)<(n:Int):=by omega);(have w2:IntKind.i64.wrap ((k:Int)+1)=((k+1:Nat):Int):=by rw[IntKind.wrap_i64];omega);(have d1:decide (k<n)=true:=by simp[hlt]);clear he hrg yb
    gi_wp2_with (first
     |((with_reducible refine wpListIn_load_mid rfl 33 (.tmp 10) rfl b (k*18) ?hx e.cells _ HRG.out Tryz.underlying33 rfl (IE e).out ?_);(case hx=>rfl))
     | ((with_reducible refine wpListIn_store_new rfl (.tmp 5) (.tmp 11) rfl rfl e rfl rfl ?hi ?ho ?_);(case hi=>exact(IE e).out);(case ho=>rfl);intro w1 he1 hb1 hs1
        have HB1:=hZ hb1;have HK1:=hZ (HK.out.trans (Keeps.of_below hb1 (HK.out.lt HYW.out)));have HE1:=hZ he1;have c3:=(HK1.out.boxed HKB2.out HYY.out.2).cell
        clear he1 hb1 hs1 c2')
     |fail)
    have HC:=hZ (wcontains_walk rs A2 n2 c2 HN2.out.1 HN2.out.2 wr.heap.size e w1 Y (HK1.out.lt HYW.out) (HA2.out.keeps HK1.out) HE1.out (fun c hc=>(HR.out c hc).keeps HK1.out));obtain⟨q,hq⟩:=oQ (rs.all (·.p e));rw[hq] at HC;refine⟨trivial,CallsIn.mono (F:=Fence.wide) (n:=1) (callsIn_wide.2 HC.out) ?_⟩;rintro e2 w2 ⟨rfl,hb2⟩;have HQ:Hid (allP rs e=q):=hZ hq;have HB2:=bTr HB1 hb2;have HK2:=hZ (HK1.out.trans (Keeps.of_below hb2 (HK1.out.lt HYW.out)));have HE2:=hZ (HE1.out.below hb2);have HRG2:=hZ (range_of (cs:=e.cells) HE2.out);have HJ2:Hid (J pre w2):=hZ (HJ.out _ _ _ HJP.out (Turns.of_below HB2.out))
    have hplen:pre.length<n:=by
     have:=List.length_filter_le (allP rs) (l.take k);rw[←HPRE.out,List.length_take] at this;omega
    (have htk:l.take (k+1)=l.take k++[e]:=by rw[List.take_add_one,HE.out];rfl);have HT:=hZ htk;clear hb2 hq htk;cases q
    · clear hplen
      gi_wp2_with (first
       |((with_reducible refine wpListIn_skipw ?hw ?_);(case hw=>rfl))
       |fail)
      refine⟨⟨k+1,pre,hZ ?_,by omega,rfl,HK2,HJ2⟩,?_⟩
      · rw[HT.out,List.filter_append,←HPRE.out];simp[HQ.out]
      · simp[intOf]<;>omega
    · obtain⟨fn,tmps,assign,body,hy,hRd⟩:=HYL.out pre e w2 HJ2.out hplen
      dsimp only[encE1] at hy
      clear hplen
      gi_wp2_with (first
       |((with_reducible refine wpListIn_load_midw ?hw 33 (.tmp 5) rfl wr.heap.size 0 ?hx e.cells _ HRG2.out Tryz.underlying33 rfl (IE e).out ?_);(case hw=>rfl);(case hx=>rfl))
       |fail)
      refine hRd.mono ?_;(have hpre3:pre++[e]=(l.take (k+1)).filter (allP rs):=by rw[HT.out,List.filter_append,←HPRE.out];simp[HQ.out]);have HP3:=hZ hpre3;clear hpre3;rintro e3 W3 (⟨rfl,hJ3,hk3⟩|⟨rfl,hJx3⟩)
      · have HK3:=hZ (HK2.out.trans hk3)
        have HJ3:=hZ hJ3;clear hJ3 hk3
        gi_wp2_with fail
        refine⟨⟨k+1,pre++[e],HP3,by omega,rfl,HK3,HJ3⟩,?_⟩;simp[intOf]<;>omega
      · have HJ3:=hZ hJx3
        clear hJx3
        gi_wp2_with fail
        refine bodyPost_ret (results_none rfl _ _ _) rfl ?_;exact⟨⟨_,rfl⟩,.inr ⟨_,⟨k+1,HP3.out⟩,HJ3.out⟩⟩
  · have d1:decide (k<n)=false:=by simp;omega
    obtain rfl:k=n:=by omega
    gi_wp2_with fail
    go_end0
    refine⟨⟨_,rfl⟩,.inl ⟨_,?_,HJP.out⟩⟩;rw[HPRE.out,List.take_of_length_le (by rw[HN.out];omega)]
def zeroE:Ent:=⟨0,0,0,0,false,0,0,0,0,0,0,⟨#[]⟩,⟨#[]⟩,⟨#[]⟩,⟨#[]⟩,⟨#[]⟩,⟨#[]⟩,⟨#[]⟩⟩
theorem set_ent {W:World} {b:Nat} {e0 e:Ent} (h:EntAt W b e0):EntAt (W.setRow b e.cells.toArray) b e∧Turns (fun k=>k=b) W (W.setRow b e.cells.toArray):=by
 unfold EntAt at h⊢;obtain⟨cs,hcs⟩:=oQ (e.cells.toArray);rw[hcs];refine⟨?_,⟨rfl,rfl,rfl,by simp[World.setRow],fun k hk hz=> ?_⟩⟩
 · simp only[World.setRow,Array.getElem?_modify,h]
   simp
 · simp only[World.setRow,Array.getElem?_modify]
   rw[if_neg (fun e=>hz e.symm)]
section
variable {P:Program} {ops:Array Oper} {rest:List Oper} {o:Oper} {a:Act} {w:World} {Q:Exit→Act→World→Prop} {F:Fence} {n:Nat}
theorem wpListIn_store_ent (hgd:o.guard=none) (x y:Operand) (ho:o.op=.store 33 x y) (hd:o.dst=none) (b:Nat) (e0 e:Ent)
 (hx:a.eval x=.pointer (some ⟨b,0,none⟩)) (hy:a.eval y=.agg e.cells.toArray) (hi:(P.info? 33).map (·.size)=some e.cells.toArray.size) (h0:EntAt w b e0)
 (h:∀w',EntAt w' b e→Turns (fun k=>k=b) w w'→wpListIn F n P ops Q rest a w'):wpListIn F n P ops Q (o::rest) a w:=by
 have h2:=h _ (set_ent (e:=e) h0).1 (set_ent h0).2;refine wpListIn_plain hgd fun K hK=> ?_;unfold Oper.wpIn;refine⟨?_,?_⟩
 · simp[Oper.about,ho]
 · rw[Oper.semAt_plain F _ _ (by rw[ho];intro c hc';cases hc')]
   have hr:=run_storeVar_row (P:=P) w b 33 33 e0.cells.toArray e.cells.toArray h0 hi rfl (one_cells e);obtain⟨z,hz⟩:=oQ (e.cells.toArray);rw[hz] at hr h2 hy;have h3:=hK _ _ h2;unfold execOp;simp only[ho,hx,hy,Instr.storeAt,Instr.sureAddr,Sem.run_bind,Sem.run_pure,Result.andThen_ok,hr];show K (a.put o.dst undef) _;rw[hd];exact h3
end
theorem results_cells2 {P:Program} {fn:Func} {p q:Tmp} {ty ty2:TypeId} (h:fn.results=#[.cell p ty,.cell q ty2]) (tmps:Array Value) (w:World) (b c:Nat) (cs:List Value) (v:Value) (d:TypeDesc)
 (hp:tmps.getD p undef=.pointer (some ⟨b,0,none⟩)) (hq:tmps.getD q undef=.pointer (some ⟨c,0,none⟩)) (hc:w.rangeAt b 0 cs) (hv:w.cell? ⟨c,0,none⟩=some v) (hu:P.underlying ty=some d) (hr:d.isRow=true)
 (hi:(P.info? ty).map (·.size)=some cs.length) (ha:∀w,(isAgg ty2).run P w=.ok false w):
 (results fn tmps).run P w=.ok (.tuple #[.agg cs.toArray,v]) w:=by
 have hp':tmps[p]?.getD undef=.pointer (some ⟨b,0,none⟩):=by simpa using hp
 have hq':tmps[q]?.getD undef=.pointer (some ⟨c,0,none⟩):=by simpa using hq
 have h2:(loadVar ty2 ⟨c,0,none⟩).run P w=.ok v w:=by simp[loadVar,ha,hv,go_sem]
 simp[results,h,hp',hq',asAddr,run_loadVar_mid w b 0 ty cs d hc hu hr hi,h2]
def firstR (l:List Ent):Value:=.tuple #[(l.headD zeroE).val,.bool (!l.isEmpty)]
theorem first_walk (rs:List CndD) (l:List Ent) (n b1 b2:Nat) (Y:Nat→Prop) (w:World) (hY:∀k,Y k→k<w.heap.size)
 (hI:IterZ Tryz.prog 127 #[.pointer (some ⟨b1,0,none⟩),.pointer (some ⟨b2,0,none⟩)] encE1 (fun _=>False) (Keeps Y) (fun xs=>xs=l.filter (allP rs)) (fun pre=> ∃k,pre=(l.take k).filter (allP rs)) n w):
 Calls Tryz.prog 71 #[.func (.func 127) #[] #[.pointer (some ⟨b1,0,none⟩),.pointer (some ⟨b2,0,none⟩)]] w fun e w'=>e=.returned (firstR (l.filter (allP rs)))∧Below w.heap.size w w':=by
 have HI:=hZ hI;have HY:=hZ hY;have IE:=fun e:Ent=>hZ (ientry (e:=e));clear hI hY;refine(callsIn_wide (n:=3)).1 ?_;refine callsIn_of_wp_marks Tryz.func71 rfl trivial ?_ rfl;simp only[Tryz.ntmps71,List.size_toArray,List.length_cons,List.length_nil,Nat.reduceAdd,Nat.reduceSub,Array.replicate_succ,Array.replicate_zero,List.push_toArray,List.append_toArray,List.nil_append,List.cons_append]
 gi_wp2_with fail
 obtain⟨w7,hw7⟩:=oQ ((w.alloc (.cells zeroE.cells.toArray 33)).alloc (.cells #[.bool false] 4));have hE0:EntAt (w.alloc (.cells zeroE.cells.toArray 33)) w.heap.size zeroE:=World.alloc_heap_new w _;have hB0:Below w.heap.size w (w.alloc (.cells zeroE.cells.toArray 33)):=below_new _ _;have hbl:Below w.heap.size w w7:=by rw[←hw7];exact hB0.trans ((below_new _ _).mono hB0.size)
 have hs7:w7.heap.size=w.heap.size+2:=by rw[←hw7];simp
 have hE7:EntAt w7 w.heap.size zeroE:=by rw[←hw7];exact hE0.below (below_new _ _)
 have x0:Boxed w7 (w.heap.size+1) 4 (.bool false):=by
  rw[←hw7];have:=Boxed.new (w.alloc (.cells zeroE.cells.toArray 33)) 4 (.bool false)
  rwa[World.size_alloc] at this
 have hcast:(w.alloc (.cells #[.int .i64 0,.int .i64 0,.int .i64 0,.int .i64 0,.bool false,.int .i64 0,.int .i64 0,.int .i64 0,.int .i64 0,.int .i64 0,.int .i64 0,.string ⟨#[]⟩,.string ⟨#[]⟩,.string ⟨#[]⟩,.string ⟨#[]⟩,.string ⟨#[]⟩,.string ⟨#[]⟩,.string ⟨#[]⟩] 33)).alloc (.cells #[.bool false] 4)=w7:=hw7;clear hE0 hB0 hw7;rw[hcast];clear hcast;have HBL:=hZ hbl;have HE7:=hZ hE7;have HX0:=hZ x0;clear hbl hE7 x0
 refine wp_rangeZB (gf:=127) (lb:=#[.pointer (some ⟨b1,0,none⟩),.pointer (some ⟨b2,0,none⟩)]) rfl (enters_of Tryz.func127 (by kernel_rfl) rfl)
  HI.out HBL.out (fun k hk=>hk.elim) (fun _=>rfl) (fun h k=>h.trans k)
  (fun W o k hk=>World.putObj_heap_other (by have:=HY.out k hk;omega))
  (fun pre W=>pre=[]∧EntAt W w.heap.size zeroE∧Boxed W (w.heap.size+1) 4 (.bool false)∧Below w.heap.size w W)
  (fun c pre W=>c=.ret∧∃x,pre=[x]∧EntAt W w.heap.size x∧Boxed W (w.heap.size+1) 4 (.bool true)∧Below w.heap.size w W)
  ?hI ?hIx ⟨rfl,HE7.out,HX0.out,HBL.out⟩
  (fun b x=>{tmps:=#[.func (.func 127) #[] #[.pointer (some ⟨b1,0,none⟩),.pointer (some ⟨b2,0,none⟩)],undef,.pointer (some ⟨w.heap.size,0,none⟩),.pointer (some ⟨w.heap.size+1,0,none⟩),.pointer (some ⟨b,0,none⟩),undef,.func (.func 127) #[] #[.pointer (some ⟨b1,0,none⟩),.pointer (some ⟨b2,0,none⟩)],Ent.val x,undef,undef],defers:=[]})
  (fun b x W=>EntAt W b x) ?hRw ?hKB ?assign ?body ?done ?stop
 case hI=>
  rintro s A B ⟨h1,h2,h3,h4⟩ t;exact⟨h1,(t.block _ (cells_lt h2) (not_books (by omega))).trans h2,t.boxed h3 (not_books (by omega)),t.below h4 (Nat.le_refl _) (far_books (by omega))⟩
 case hIx=>
  rintro c s A B ⟨h1,x,h2,h3,h4,h5⟩ t;exact⟨h1,x,h2,(t.block _ (cells_lt h3) (not_books (by omega))).trans h3,t.boxed h4 (not_books (by omega)),t.below h5 (Nat.le_refl _) (far_books (by omega))⟩
 case hRw=>
  intro b x A B hb hlt h t;refine(t.block _ hlt ?_).trans h;rintro(e|e|e)
  · exact e
  · omega
  · omega
 case hKB=>
  intro A B hs hb;exact Keeps.of_below hb (fun k hk=>by have:=HY.out k hk;omega)
 case assign=>
  intro l0 x W b K hb hle hK;subst hb
  dsimp only[encE1]
  gi_wp2_with (first
   |((with_reducible refine wpListIn_store_new rfl (.tmp 4) (.tmp 7) rfl rfl x rfl rfl ?hi ?ho ?_);(case hi=>exact(IE x).out);(case ho=>rfl);intro w1 he1 hb1 hs1)
   |fail)
  exact hK _ he1 hb1 hs1
 case body=>
  rintro l0 pre x b W hle hlt ⟨rfl,hE,hX,hB⟩ hx hl;have HE:=hZ hE;have HX:=hZ hX;have HB:=hZ hB;have HRG:=hZ (range_of (cs:=x.cells) hx);have hc:=hX.cell;have hf:=hX.frozen;clear hE hX hB hx
  gi_wp2_with (first
   |((with_reducible refine wpListIn_load_mid rfl 33 (.tmp 4) rfl b 0 ?hx x.cells _ HRG.out Tryz.underlying33 rfl (IE x).out ?_);(case hx=>rfl))
   | ((with_reducible refine wpListIn_store_ent rfl (.tmp 2) (.tmp 8) rfl rfl w.heap.size zeroE x rfl rfl ?hi HE.out ?_);(case hi=>exact(IE x).out);intro w2 he2 ht2
      have HE2:=hZ he2;have HT2:=hZ ht2;have hX2:Boxed w2 (w.heap.size+1) 4 (.bool false):=ht2.boxed HX.out (by omega);have HX2:=hZ (hX2.set (.bool true));have hc2:=hX2.cell;have hf2:=hX2.frozen
      clear he2 ht2 hX2 hc hf)
   |fail)
  have hT3:Turns (fun k=>k=w.heap.size+1) w2 (w2.setCell ⟨w.heap.size+1,0,none⟩ (.bool true)):=Turns.setCell w2 _ _ rfl;refine⟨(KeepsFrom.of_turns HT2.out (by omega)).trans (KeepsFrom.of_turns hT3 (by omega)),rfl,x,rfl,(hT3.block _ (cells_lt HE2.out) (by omega)).trans HE2.out,HX2.out,?_⟩;exact hT3.below (HT2.out.below HB.out (Nat.le_refl _) (fun k hk=>by omega)) (Nat.le_refl _) (fun k hk=>by omega)
 case done=>
  rintro xs W hS ⟨rfl,hE,hX,hB⟩ hK;have hz:l.filter (allP rs)=[]:=hS.symm;have HZ:=hZ hz;have HE:=hZ hE;have HX:=hZ hX;have HB:=hZ hB;have HKK:=hZ hK;clear hE hX hB hK hS hz;have hc:=HX.out.cell;have hf:=HX.out.frozen;have hEn:EntAt (W.alloc (.cells zeroE.cells.toArray 33)) W.heap.size zeroE:=World.alloc_heap_new W _;have hbn:=below_new W (.cells zeroE.cells.toArray 33);have hRG:Hid (World.rangeAt (W.alloc (.cells #[.int .i64 0,.int .i64 0,.int .i64 0,.int .i64 0,.bool false,.int .i64 0,.int .i64 0,.int .i64 0,.int .i64 0,.int .i64 0,.int .i64 0,.string ⟨#[]⟩,.string ⟨#[]⟩,.string ⟨#[]⟩,.string ⟨#[]⟩,.string ⟨#[]⟩,.string ⟨#[]⟩,.string ⟨#[]⟩] 33)) W.heap.size 0 zeroE.cells):=hZ (range_of hEn);have hEo:Hid (EntAt (W.alloc (.cells #[.int .i64 0,.int .i64 0,.int .i64 0,.int .i64 0,.bool false,.int .i64 0,.int .i64 0,.int .i64 0,.int .i64 0,.int .i64 0,.int .i64 0,.string ⟨#[]⟩,.string ⟨#[]⟩,.string ⟨#[]⟩,.string ⟨#[]⟩,.string ⟨#[]⟩,.string ⟨#[]⟩,.string ⟨#[]⟩] 33)) w.heap.size zeroE):=hZ (HE.out.below hbn);have HBN:=hZ hbn;have hds:Hid ((W.alloc (.cells zeroE.cells.toArray 33)).heap[w7.heap.size]?=some (.deferred (some []))):=hZ ((hbn.block _ (Array.getElem?_eq_some_iff.1 HKK.out).1).trans HKK.out);have hXn:Hid (Boxed (W.alloc (.cells zeroE.cells.toArray 33)) (w.heap.size+1) 4 (.bool false)):=hZ ((hbn.block _ HX.out.lt).trans HX.out);have HS7:=hZ hs7;clear hEn hbn hc hf hs7
  gi_wp2_with (first
   |((with_reducible refine wpListIn_load_mid rfl 33 (.tmp 5) rfl W.heap.size 0 ?hx zeroE.cells _ hRG.out Tryz.underlying33 rfl (IE zeroE).out ?_);(case hx=>rfl))
   | ((with_reducible refine wpListIn_store_ent rfl (.tmp 2) (.tmp 9) rfl rfl w.heap.size zeroE zeroE rfl rfl ?hi hEo.out ?_);(case hi=>exact(IE zeroE).out);intro w2 he2 ht2
      have HE2:=hZ he2;have HT2:=hZ ht2;have hX2:Boxed w2 (w.heap.size+1) 4 (.bool false):=ht2.boxed hXn.out (by omega);have HX2:=hZ (hX2.set (.bool false));have hc2:=hX2.cell;have hf2:=hX2.frozen
      clear he2 ht2 hX2)
   |fail)
  have hs7:=HS7.out;have hT3:Turns (fun k=>k=w.heap.size+1) w2 (w2.setCell ⟨w.heap.size+1,0,none⟩ (.bool false)):=Turns.setCell w2 _ _ rfl;have hd2:=(HT2.out.block _ (Array.getElem?_eq_some_iff.1 hds.out).1 (by omega)).trans hds.out;have hd3:=(hT3.block _ (Array.getElem?_eq_some_iff.1 hd2).1 (by omega)).trans hd2;refine⟨by simp,.inl ⟨_,_,rfl,run_takeDeferred hd3,?_⟩⟩;have hT:Turns (fun k=>k=w7.heap.size) (w2.setCell ⟨w.heap.size+1,0,none⟩ (.bool false)) ((w2.setCell ⟨w.heap.size+1,0,none⟩ (.bool false)).putObj w7.heap.size (.deferred none)):=Turns.putObj _ _ _ rfl;have hE3:=(hT3.block _ (cells_lt HE2.out) (by omega)).trans HE2.out;have hE4:EntAt _ w.heap.size zeroE:=(hT.block _ (cells_lt hE3) (by omega)).trans hE3;have hX4:=hT.boxed HX2.out (by omega);refine⟨_,results_cells2 rfl _ _ w.heap.size (w.heap.size+1) zeroE.cells (.bool false) _ rfl rfl (range_of hE4) hX4.cell Tryz.underlying33 rfl (IE zeroE).out Tryz.isAgg4,?_,?_⟩
  · rw[HZ.out];rfl
  · have hB2:=HT2.out.below (HB.out.trans (HBN.out.mono HB.out.size)) (Nat.le_refl _) (fun k hk=>by omega)
    exact hT.below (hT3.below hB2 (Nat.le_refl _) (fun k hk=>by omega)) (Nat.le_refl _) (fun k hk=>by omega)
 case stop=>
  rintro c pre W ⟨k,hk⟩ ⟨rfl,x,rfl,hE,hX,hB⟩ hK
  have hh:firstR (l.filter (allP rs))=.tuple #[x.val,.bool true]:=by
   have h1:l=l.take k++l.drop k:=(List.take_append_drop k l).symm
   have h2:l.filter (allP rs)=x::(l.drop k).filter (allP rs):=by
    conv=>lhs;rw[h1]
    rw[List.filter_append,←hk];rfl
   rw[h2];rfl
  have HH:=hZ hh;have HE:=hZ hE;have HX:=hZ hX;have HB:=hZ hB;have HKK:=hZ hK;clear hE hX hB hK hk hh
  gi_wp2_with fail
  refine⟨by simp,.inl ⟨_,_,rfl,run_takeDeferred HKK.out,?_⟩⟩;have hT:Turns (fun k=>k=w7.heap.size) W (W.putObj w7.heap.size (.deferred none)):=Turns.putObj _ _ _ rfl;have hE2:EntAt (W.putObj w7.heap.size (.deferred none)) w.heap.size x:=(hT.block _ (cells_lt HE.out) (by omega)).trans HE.out;have hX2:=hT.boxed HX.out (by omega);refine⟨_,results_cells2 rfl _ _ w.heap.size (w.heap.size+1) x.cells (.bool true) _ rfl rfl (range_of hE2) hX2.cell Tryz.underlying33 rfl (IE x).out Tryz.isAgg4,?_,?_⟩
  · rw[HH.out]
  · exact hT.below HB.out (Nat.le_refl _) (fun k hk=>by omega)
structure At (w V:World) (L:List (Nat×Obj)):Prop where
 below:Below w.heap.size w V
 has:∀p∈L,V.heap[p.1]?=some p.2
theorem At.start (w:World):At w w []:=⟨Below.refl _ _,fun p h=>by cases h⟩
theorem At.cons {w V:World} {L:List (Nat×Obj)} (h:At w V L) {k:Nat} {o:Obj} (ho:V.heap[k]?=some o):At w V ((k,o)::L):=⟨h.below,fun p hp=>by
 rcases List.mem_cons.1 hp with rfl|hp
 · exact ho
 · exact h.has p hp⟩
theorem At.step {w V V':World} {L:List (Nat×Obj)} (h:At w V L) (hb:Below V.heap.size V V'):At w V' L:=
 ⟨h.below.trans (hb.mono h.below.size),fun p hp=>(hb.block _ (Array.getElem?_eq_some_iff.1 (h.has p hp)).1).trans (h.has p hp)⟩
theorem At.drew {w V:World} {L:List (Nat×Obj)} (h:At w V L):At w V.drew L:=⟨Below.drew h.below,h.has⟩
theorem At.alloc {w V:World} {L:List (Nat×Obj)} (h:At w V L) (o:Obj):∃b V',V.heap.size=b∧V.alloc o=V'∧w.heap.size≤b∧At w V' ((b,o)::L):=
 ⟨_,_,rfl,rfl,h.below.size,(h.step (below_new V o)).cons (World.alloc_heap_new V o)⟩
theorem At.alloc2 {w V:World} {L:List (Nat×Obj)} (h:At w V L) (o:Obj):∃b V',V.heap.size=b∧V.alloc o=V'∧w.heap.size≤b∧At w V' ((b,o)::L)∧V'.heap.size=b+1:=
 ⟨_,_,rfl,rfl,h.below.size,(h.step (below_new V o)).cons (World.alloc_heap_new V o),World.size_alloc _ _⟩
theorem At.cell {w V:World} {L:List (Nat×Obj)} (h:At w V L) {b:Nat} {cs:Array Value} {t:TypeId} (hm:(b,.cells cs t (0,0))∈L) {i:Nat} {v:Value} (hv:cs[i]?=some v):V.cell? ⟨b,i,none⟩=some v:=cells_i (h.has _ hm) hv
theorem At.lt {w V:World} {L:List (Nat×Obj)} (h:At w V L) {b:Nat} {o:Obj} (hm:(b,o)∈L):b<V.heap.size:=(Array.getElem?_eq_some_iff.1 (h.has _ hm)).1
theorem At.boxed {w V:World} {L:List (Nat×Obj)} (h:At w V L) {b:Nat} {v:Value} {t:TypeId} (hm:(b,.cells #[v] t (0,0))∈L):Boxed V b t v:=h.has _ hm
theorem At.less {w V:World} {L M:List (Nat×Obj)} (h:At w V L) (hm:∀p∈M,p∈L):At w V M:=⟨h.below,fun p hp=>h.has p (hm p hp)⟩
structure Bas where
 ls:Nat→List Ent
 ad:Nat→Option Addr
 cp:Nat→Nat
def Bas.cells (B:Bas):List Value:=[.slice (B.ad 0) (B.ls 0).length (B.cp 0),.slice (B.ad 1) (B.ls 1).length (B.cp 1),.slice (B.ad 2) (B.ls 2).length (B.cp 2),.slice (B.ad 3) (B.ls 3).length (B.cp 3),.slice (B.ad 4) (B.ls 4).length (B.cp 4),
 .slice (B.ad 5) (B.ls 5).length (B.cp 5),.slice (B.ad 6) (B.ls 6).length (B.cp 6),.slice (B.ad 7) (B.ls 7).length (B.cp 7),.slice (B.ad 8) (B.ls 8).length (B.cp 8)]
abbrev Bas.val (B:Bas):Value:=.agg B.cells.toArray
structure BasAt (w:World) (Y:Nat→Prop) (B:Bas):Prop where
 at_:∀i,i<9→EAt w Y (B.ad i) (B.ls i)
 cap:∀i,i<9→(B.ls i).length≤B.cp i∧B.cp i≤maxLen
 none_:∀i,i<9→B.ad i=none→B.cp i=0
theorem BasAt.keeps {w W:World} {Y:Nat→Prop} {B:Bas} (h:BasAt w Y B) (k:Keeps Y w W):BasAt W Y B:=⟨fun i hi=>(h.at_ i hi).keeps k,h.cap,h.none_⟩
theorem BasAt.mono {w:World} {Y Y':Nat→Prop} {B:Bas} (h:BasAt w Y B) (hY:∀k,Y k→Y' k):BasAt w Y' B:=⟨fun i hi=>(h.at_ i hi).mono hY,h.cap,h.none_⟩
def Old (w:World) (k:Nat):Prop:=k<w.heap.size
theorem BasAt.below {w W:World} {B:Bas} (h:BasAt w (Old w) B) (hb:Below w.heap.size w W):BasAt W (Old W) B:=
 (h.keeps (Keeps.of_below hb fun _ hk=>hk)).mono fun k hk=>by unfold Old at*;have:=hb.size;omega
theorem EAt.below {w W:World} {A:Option Addr} {l:List Ent} (h:EAt w (Old w) A l) (hb:Below w.heap.size w W):EAt W (Old W) A l:=
 (h.keeps (Keeps.of_below hb fun _ hk=>hk)).mono fun k hk=>by unfold Old at*;have:=hb.size;omega
section
variable {w V:World} {L:List (Nat×Obj)}
theorem about_at (n:Int) (h:At w V L):Calls Tryz.prog 73 #[.int .i64 n] V fun e V'=> ∃b,e=.returned (.func (.func 129) #[] #[.pointer (some ⟨b,0,none⟩)])∧At w V' ((b,.cells #[.int .i64 n] 3 (0,0))::L):=
 (about_walk n V).mono fun e V' q=>by obtain⟨rfl,rfl⟩:=q;exact⟨_,rfl,(h.step (below_new V _)).cons (World.alloc_heap_new V _)⟩
theorem holds_at (n:Int) (h:At w V L):Calls Tryz.prog 75 #[.int .i64 n] V fun e V'=> ∃b,e=.returned (.func (.func 130) #[] #[.pointer (some ⟨b,0,none⟩)])∧At w V' ((b,.cells #[.int .i64 n] 3 (0,0))::L):=
 (holds_walk n V).mono fun e V' q=>by obtain⟨rfl,rfl⟩:=q;exact⟨_,rfl,(h.step (below_new V _)).cons (World.alloc_heap_new V _)⟩
theorem where_at (A:Option Addr) (n c:Nat) (A2:Option Addr) (n2 c2:Nat) (h:At w V L):Calls Tryz.prog 72 #[.slice A n c,.slice A2 n2 c2] V fun e V'=> ∃b1 b2,e=.returned (.func (.func 127) #[] #[.pointer (some ⟨b1,0,none⟩),.pointer (some ⟨b2,0,none⟩)])∧
 At w V' ((b1,.cells #[.slice A n c] 25 (0,0))::(b2,.cells #[.slice A2 n2 c2] 110 (0,0))::L):=
 (where_walk A n c A2 n2 c2 V).mono fun e V' q=>by
   obtain⟨rfl,rfl⟩:=q;refine⟨_,_,rfl,?_⟩;have h1:=(h.step (below_new V (.cells #[.slice A n c] 25))).cons (World.alloc_heap_new V _);have h2:=(h1.step (below_new _ (.cells #[.slice A2 n2 c2] 110))).cons (World.alloc_heap_new _ _);rw[World.size_alloc] at h2;exact h2.less fun p hp=>by simp at hp⊢;rcases hp with hp|hp|hp<;>simp[hp]
theorem iter_at (h:At w V L) (rs:List CndD) (l:List Ent) (A A2:Option Addr) (n c n2 c2 b1 b2:Nat) (hn:l.length=n) (hc:n≤maxLen) (hn2:rs.length=n2) (hm2:n2≤1000)
 (h1:(b1,.cells #[.slice A n c] 25 (0,0))∈L) (h2:(b2,.cells #[.slice A2 n2 c2] 110 (0,0))∈L)
 (hA:EAt w (Old w) A l) (b3:Nat) (e3:A2=some ⟨b3,0,none⟩) (t3:TypeId) (h3:(b3,.cells (rs.map CndD.val).toArray t3 (0,0))∈L) (hR:∀c∈rs,Cond V (Old V) c):
 IterZ Tryz.prog 127 #[.pointer (some ⟨b1,0,none⟩),.pointer (some ⟨b2,0,none⟩)] encE1 (fun _=>False) (Keeps (Old V)) (fun xs=>xs=l.filter (allP rs)) (fun pre=> ∃k,pre=(l.take k).filter (allP rs)) n V:=by
 subst e3;refine where_iter rs l A _ n c n2 c2 b1 b2 hn hc hn2 hm2 (Old V) V (fun _ hk=>hk) (h.lt h1) (h.lt h2) (h.boxed h1) (h.boxed h2) (hA.below h.below) ?_ hR;intro i v hv;have hc3:=h.cell h3 (i:=i) (v:=v) (by simpa using hv);refine⟨_,rfl,h.lt h3,?_⟩;rw[show(⟨b3,0,none⟩:Addr).add i=⟨b3,i,none⟩ by simp[Addr.add];omega];exact hc3
theorem first_at (h:At w V L) (rs:List CndD) (l:List Ent) (A A2:Option Addr) (n c n2 c2 b1 b2:Nat) (hn:l.length=n) (hc:n≤maxLen) (hn2:rs.length=n2) (hm2:n2≤1000)
 (h1:(b1,.cells #[.slice A n c] 25 (0,0))∈L) (h2:(b2,.cells #[.slice A2 n2 c2] 110 (0,0))∈L)
 (hA:EAt w (Old w) A l) (b3:Nat) (e3:A2=some ⟨b3,0,none⟩) (t3:TypeId) (h3:(b3,.cells (rs.map CndD.val).toArray t3 (0,0))∈L) (hR:∀c∈rs,Cond V (Old V) c):
 Calls Tryz.prog 71 #[.func (.func 127) #[] #[.pointer (some ⟨b1,0,none⟩),.pointer (some ⟨b2,0,none⟩)]] V fun e V'=>e=.returned (firstR (l.filter (allP rs)))∧At w V' L:=
 (first_walk rs l n b1 b2 (Old V) V (fun _ hk=>hk) (iter_at h rs l A A2 n c n2 c2 b1 b2 hn hc hn2 hm2 h1 h2 hA b3 e3 t3 h3 hR)).mono fun _ _ q=>⟨q.1,h.step q.2⟩
theorem At.about {n:Int} {b:Nat} (h:At w V L) (hm:(b,.cells #[.int .i64 n] 3 (0,0))∈L):Cond V (Old V) ⟨129,#[.pointer (some ⟨b,0,none⟩)],fun e=>decide (e.item=n)⟩:=cond_about n b V (Old V) (h.lt hm) (h.boxed hm)
theorem At.store {b:Nat} {e:Ent} (h:At w V L) (hb:w.heap.size≤b) (hm:(b,.cells zeroE.cells.toArray 33 (0,0))∈L):Below w.heap.size w (V.setRow b e.cells.toArray)∧EntAt (V.setRow b e.cells.toArray) b e:=by
 have h0:EntAt V b zeroE:=h.has _ hm;exact⟨(set_ent (e:=e) h0).2.below h.below (Nat.le_refl _) (fun k hk=>by omega),(set_ent h0).1⟩
theorem At.store_has {b b0:Nat} {e:Ent} {cs:Array Value} {t:TypeId} (h:At w V L) (hm:(b,.cells zeroE.cells.toArray 33 (0,0))∈L) (hm0:(b0,.cells cs t (0,0))∈L) (ht:t≠33):
 (V.setRow b e.cells.toArray).heap[b0]?=some (.cells cs t (0,0)):=by
 have h0:EntAt V b zeroE:=h.has _ hm
 have hne:b0≠b:=fun q=>by
  have h1:=h.has _ hm0;have h2:=h.has _ hm;subst q;rw[h1] at h2;injection h2 with h2;injection h2 with h3 h4 h5;exact ht h4
 exact((set_ent (e:=e) h0).2.block b0 (h.lt hm0) hne).trans (h.has _ hm0)
end
theorem any_first {α:Type} (p:α→Bool) (l:List α):(!(l.filter p).isEmpty)=l.any p:=by
 induction l with
 |nil=>rfl
 |cons x l ih=>by_cases h:p x=true<;>simp[h,ih] at* <;>simp_all
theorem put2 {W:World} {r:Nat} {T:TypeId} {a0 a1:Value} (h:W.heap[r]?=some (.cells #[a0,a1] T (0,0))) (v0 v1:Value):((W.setCell ⟨r,0,none⟩ v0).setCell ⟨r,1,none⟩ v1).heap[r]?=some (.cells #[v0,v1] T (0,0)):=by
 simp only[World.setCell,Array.getElem?_modify,h];simp
theorem below_put2 {w W:World} {B r:Nat} (hb:Below B w W) (h:B≤r) (v0 v1:Value):Below B w ((W.setCell ⟨r,0,none⟩ v0).setCell ⟨r,1,none⟩ v1):=(hb.setCell (p:=⟨r,0,none⟩) h v0).setCell (p:=⟨r,1,none⟩) h v1
theorem step_store_at {P:Program} {ops:Array Oper} {o:Oper} {a:Act} {w V:World} {L:List (Nat×Obj)} {K:Act→World→Prop} {Q:Exit→Act→World→Prop} {D:Prop} (hgd:o.guard=none) (x y:Operand) (ho:o.op=.store 33 x y) (hd:o.dst=none) (b:Nat) (e:Ent)
 (hx:a.eval x=.pointer (some ⟨b,0,none⟩)) (hy:a.eval y=.agg e.cells.toArray) (hi:(P.info? 33).map (·.size)=some e.cells.toArray.size) (h:At w V L) (hb:w.heap.size≤b) (hm:(b,.cells zeroE.cells.toArray 33 (0,0))∈L)
 (hk:∀V',Below w.heap.size w V'→EntAt V' b e→(∀b0 cs t,(b0,.cells cs t (0,0))∈L→t≠33→V'.heap[b0]?=some (.cells cs t (0,0)))→K a V'):
 if Region.wanted o (yielded ops a.tmps)=true then Oper.wp P o a V K Q else D:=by
 have hw:Region.wanted o (yielded ops a.tmps)=true:=by simp[Region.wanted,hgd]
 rw[if_pos hw];have h0:EntAt V b zeroE:=h.has _ hm;refine wp_store_row _ x y ho b _ hx hy 33 _ h0 hi rfl (one_cells e) ?_;rw[hd];exact hk _ (h.store hb hm).1 (h.store hb hm).2 (fun b0 cs t hm0 ht=>h.store_has hm hm0 ht)
end Go.Proofs.YteeifhlhpiimoaaGreatDoor
end
section
namespace Go.Proofs.YteeifhlhpiimoaaGreatDoor
section
variable {E K:Type} [DecidableEq K] (ok:E→Bool) (key:E→K) (prev:E→E→Bool)
def takeB (m:K→Option E) (e:E):K→Option E:=if ok e then
 match m (key e) with
 |none=>fun k=>if k=key e then some e else m k
 |some old=>if prev e old then fun k=>if k=key e then some e else m k else m
 else m
def bestB (l:List E):K→Option E:=l.foldl (takeB ok key prev) fun _=>none
structure Ranks:Prop where
 irr:∀a,prev a a=false
 tot:∀a b,ok a=true→ok b=true→key a=key b→a≠b→prev a b= !prev b a
 tra:∀a b c,ok a=true→ok b=true→ok c=true→key a=key b→key b=key c→prev a b=true→prev b c=true→prev a c=true
def IsBest (l:List E) (k:K) (e:E):Prop:=e∈l∧ok e=true∧key e=k∧∀x∈l,ok x=true→key x=k→x=e∨prev e x=true
variable {ok key prev}
omit [DecidableEq K] in
theorem IsBest.one (R:Ranks ok key prev) {l:List E} {k:K} {a b:E} (ha:IsBest ok key prev l k a) (hb:IsBest ok key prev l k b):a=b:=by
 obtain⟨a1,a2,a3,a4⟩:=ha;obtain⟨b1,b2,b3,b4⟩:=hb;rcases a4 b b1 b2 b3 with e|e
 · exact e.symm
 · rcases b4 a a1 a2 a3 with q|q
   · exact q
   · apply Classical.byContradiction
     intro hne;have:=R.tot a b a2 b2 (a3.trans b3.symm) hne;rw[e,q] at this;cases this
def Stands (ok:E→Bool) (key:E→K) (prev:E→E→Bool) (l:List E) (m:K→Option E):Prop:=
 ∀k,(∀e,m k=some e→IsBest ok key prev l k e)∧(m k=none→∀x∈l,ok x=true→key x≠k)
omit [DecidableEq K] in
theorem Stands.nil:Stands ok key prev [] fun _=>none:=fun _=>⟨fun e h=>(by cases h),fun _ x hx=>(by cases hx)⟩
theorem Stands.step (R:Ranks ok key prev) {l:List E} {m:K→Option E} (h:Stands ok key prev l m) (e:E):Stands ok key prev (l++[e]) (takeB ok key prev m e):=by
 have mem:∀x,x∈l++[e]↔x∈l∨x=e:=fun x=>by simp
 intro k;unfold takeB
 by_cases he:ok e=true
 · rw [if_pos he]
   by_cases hk:k=key e
   · subst hk
     cases hm:m (key e) with
     | none=>
       have h2:=(h (key e)).2 hm;refine⟨fun x hx=> ?_,fun hn=> ?_⟩
       · simp only[if_true] at hx
         cases hx;refine⟨(mem _).2 (.inr rfl),he,rfl,fun y hy hy1 hy2=> ?_⟩;rcases(mem y).1 hy with q|q
         · exact(h2 y q hy1 hy2).elim
         · exact .inl q
       · simp at hn
     | some old=>
       obtain⟨o1,o2,o3,o4⟩:=(h (key e)).1 old hm
       by_cases hp:prev e old=true
       · simp only[hp,if_true]
         refine⟨fun x hx=> ?_,fun hn=>by cases hn⟩;cases hx;refine⟨(mem _).2 (.inr rfl),he,rfl,fun y hy hy1 hy2=> ?_⟩;rcases(mem y).1 hy with q|q
         · rcases o4 y q hy1 hy2 with r|r
           · rw[r];exact .inr hp
           · exact .inr (R.tra e old y he o2 hy1 o3.symm (o3.trans hy2.symm) hp r)
         · exact .inl q
       · simp only[hp,Bool.false_eq_true,if_false]
         refine⟨fun x hx=> ?_,fun hn=>by rw[hm] at hn;cases hn⟩;rw[hm] at hx;cases hx;refine⟨(mem _).2 (.inl o1),o2,o3,fun y hy hy1 hy2=> ?_⟩;rcases(mem y).1 hy with q|q
         · exact o4 y q hy1 hy2
         · subst q
           by_cases hne:y=old
           · exact .inl hne
           · right
             have:=R.tot old y o2 he o3 (fun q=>hne q.symm);rw[this]
             cases hpp:prev y old with
             |true=>exact(hp hpp).elim
             |false=>rfl
   · have hsame:(match m (key e) with
      |none=>fun k=>if k=key e then some e else m k
      |some old=>if prev e old then fun k=>if k=key e then some e else m k else m) k=m k:=by
      cases m (key e) with
      |none=>simp[hk]
      | some old=>
        by_cases hp:prev e old=true
        · simp[hp,hk]
        · simp[hp]
     rw[hsame];obtain⟨h1,h2⟩:=h k;refine⟨fun x hx=> ?_,fun hn x hx hx1=> ?_⟩
     · obtain⟨o1,o2,o3,o4⟩:=h1 x hx
       refine⟨(mem _).2 (.inl o1),o2,o3,fun y hy hy1 hy2=> ?_⟩;rcases(mem y).1 hy with q|q
       · exact o4 y q hy1 hy2
       · subst q;exact(hk hy2.symm).elim
     · rcases(mem x).1 hx with q|q
       · exact h2 hn x q hx1
       · subst q;exact fun e=>hk e.symm
 · rw[if_neg he]
   obtain⟨h1,h2⟩:=h k;refine⟨fun x hx=> ?_,fun hn x hx hx1=> ?_⟩
   · obtain⟨o1,o2,o3,o4⟩:=h1 x hx
     refine⟨(mem _).2 (.inl o1),o2,o3,fun y hy hy1 hy2=> ?_⟩;rcases(mem y).1 hy with q|q
     · exact o4 y q hy1 hy2
     · subst q;exact(he hy1).elim
   · rcases(mem x).1 hx with q|q
     · exact h2 hn x q hx1
     · subst q;exact(he hx1).elim
theorem best_stands (R:Ranks ok key prev) (l:List E):Stands ok key prev l (bestB ok key prev l):=by
 have h:∀(b a:List E) (m:K→Option E),Stands ok key prev a m→Stands ok key prev (a++b) (b.foldl (takeB ok key prev) m):=by
  intro b
  induction b with
  |nil=>intro a m hm;rw[List.append_nil];exact hm
  | cons e b ih=>
    intro a m hm;have:=ih (a++[e]) _ (hm.step R e);rw[List.append_assoc] at this;exact this
 exact h l [] _ Stands.nil
end
section
variable {α:Type} (lt:α→α→Bool)
def insB (x:α):List α→List α
 |[]=>[x]
 |y::l=>if lt x y=true then x::y::l else y::insB x l
def sortB (l:List α):List α:=l.foldl (fun a x=>insB lt x a) []
variable {lt}
theorem insB_perm (x:α) (l:List α):(insB lt x l).Perm (x::l):=by
 induction l with
 |nil=>exact List.Perm.refl _
 | cons y l ih=>
   unfold insB
   split
   · exact List.Perm.refl _
   · exact(ih.cons y).trans (List.Perm.swap x y l)
theorem sortB_perm (l:List α):(sortB lt l).Perm l:=by
 have h:∀(b a:List α),(b.foldl (fun a x=>insB lt x a) a).Perm (a++b):=by
  intro b
  induction b with
  |nil=>intro a;simp
  | cons x b ih=>
    intro a;refine(ih _).trans ?_;refine((insB_perm x a).append_right b).trans ?_;simpa using List.perm_middle.symm
 simpa[sortB] using h l []
theorem sortB_mem {l:List α} {x:α}:x∈sortB lt l↔x∈l:=(sortB_perm l).mem_iff
structure Weak (lt:α→α→Bool):Prop where
 asym:∀a b,lt a b=true→lt b a=false
 neg:∀a b c,lt a b=false→lt b c=false→lt a c=false
def Up (lt:α→α→Bool) (l:List α):Prop:=l.Pairwise fun a b=>lt b a=false
def UpS (lt:α→α→Bool) (l:List α):Prop:=l.Pairwise fun a b=>lt a b=true
theorem insB_up (O:Weak lt) {x:α} {l:List α} (h:Up lt l):Up lt (insB lt x l):=by
 induction l with
 |nil=>exact List.pairwise_singleton _ _
 | cons y l ih=>
   obtain⟨h1,h2⟩:=List.pairwise_cons.1 h;unfold insB
   split
   · rename_i hlt
     refine List.pairwise_cons.2 ⟨fun z hz=> ?_,h⟩;rcases List.mem_cons.1 hz with rfl|hz
     · exact O.asym _ _ hlt
     · cases hzx:lt z x with
       |false=>rfl
       | true=>
         exfalso
         have h5:=O.neg x z y (O.asym _ _ hzx) (h1 z hz);rw[hlt] at h5;cases h5
   · rename_i hlt
     refine List.pairwise_cons.2 ⟨fun z hz=> ?_,ih h2⟩;rcases List.mem_cons.1 ((insB_perm x l).mem_iff.1 hz) with rfl|hz
     · simpa using hlt
     · exact h1 z hz
theorem sortB_up (O:Weak lt) (l:List α):Up lt (sortB lt l):=by
 have h:∀(b a:List α),Up lt a→Up lt (b.foldl (fun a x=>insB lt x a) a):=by
  intro b
  induction b with
  |nil=>intro a h;exact h
  |cons x b ih=>intro a h;exact ih _ (insB_up O h)
 exact h l [] List.Pairwise.nil
def Apart (lt:α→α→Bool) (l:List α):Prop:=l.Pairwise fun a b=>lt a b=true∨lt b a=true
theorem Apart.perm {l m:List α} (h:Apart lt l) (p:l.Perm m):Apart lt m:=(p.pairwise_iff (fun h=>h.symm)).1 h
theorem up_strict {l:List α} (h:Up lt l) (d:Apart lt l):UpS lt l:=by
 refine(List.Pairwise.and h d).imp fun{a b} q=> ?_;obtain⟨q1,q2⟩:=q;rcases q2 with q2|q2
 · exact q2
 · rw[q1] at q2;cases q2
theorem upS_unique (O:Weak lt):∀{l m:List α},UpS lt l→UpS lt m→(∀x,x∈l↔x∈m)→l=m
 |[],[],_,_,_=>rfl
 |[],y::m,_,_,h=>absurd ((h y).2 (List.mem_cons_self ..)) (by simp)
 |x::l,[],_,_,h=>absurd ((h x).1 (List.mem_cons_self ..)) (by simp)
 | x :: l,y::m,hl,hm,h=>by
   obtain⟨l1,l2⟩:=List.pairwise_cons.1 hl;obtain⟨m1,m2⟩:=List.pairwise_cons.1 hm
   have hir:∀z:α,lt z z=false:=fun z=>by
    cases hz:lt z z with
    |false=>rfl
    |true=>exact(O.asym z z hz).symm.trans hz▸rfl
   have hxy:x=y:=by
    rcases List.mem_cons.1 ((h x).1 (List.mem_cons_self ..)) with e|hx
    · exact e
    · rcases List.mem_cons.1 ((h y).2 (List.mem_cons_self ..)) with e|hy
      · exact e.symm
      · have a1:=m1 x hx
        have a2:=O.asym _ _ (l1 y hy);rw[a1] at a2;cases a2
   subst hxy;rw[upS_unique O l2 m2 fun z=>⟨fun hz=> ?_,fun hz=> ?_⟩]
   · rcases List.mem_cons.1 ((h z).1 (List.mem_cons_of_mem _ hz)) with e|q
     · subst e;have:=l1 z hz;rw[hir] at this;cases this
     · exact q
   · rcases List.mem_cons.1 ((h z).2 (List.mem_cons_of_mem _ hz)) with e|q
     · subst e;have:=m1 z hz;rw[hir] at this;cases this
     · exact q
theorem sorted_unique (O:Weak lt) {l d:List α} (hd:Up lt d) (p:d.Perm l) (ha:Apart lt l):d=sortB lt l:=
 upS_unique O (up_strict hd (ha.perm p.symm)) (up_strict (sortB_up O l) (ha.perm (sortB_perm l).symm)) fun x=>by rw[p.mem_iff,sortB_mem]
theorem sortB_same (O:Weak lt) {l m:List α} (hl:Apart lt l) (hm:Apart lt m) (h:∀x,x∈l↔x∈m):sortB lt l=sortB lt m:=
 upS_unique O (up_strict (sortB_up O l) (hl.perm (sortB_perm l).symm)) (up_strict (sortB_up O m) (hm.perm (sortB_perm m).symm)) fun x=>by rw[sortB_mem,sortB_mem];exact h x
def byNum (num:α→Int) (a b:α):Bool:=decide (num a<num b)
theorem byNum_weak (num:α→Int):Weak (byNum num):=⟨fun a b h=>by unfold byNum at*;simp at*;omega,fun a b c h k=>by unfold byNum at*;simp at*;omega⟩
def byNum2 (m n:α→Int) (a b:α):Bool:=decide (m a<m b)||(decide (m a=m b)&&decide (n a<n b))
end
section
variable {E K:Type} [DecidableEq K] (ok:E→Bool) (key:E→K) (prev:E→E→Bool)
def takeL (acc:List E) (e:E):List E:=if ok e=true then
 match acc.find? (fun x=>decide (key x=key e)) with
 |none=>acc++[e]
 |some old=>if prev e old=true then acc.map (fun x=>if key x=key e then e else x) else acc
 else acc
def effL (l:List E):List E:=l.foldl (takeL ok key prev) []
variable {ok key prev}
def Keyd (key:E→K) (l:List E):Prop:=l.Pairwise fun a b=>key a≠key b
theorem find_key {l:List E} {k:K} {x:E} (h:l.find? (fun x=>decide (key x=k))=some x):x∈l∧key x=k:=⟨List.mem_of_find?_eq_some h,by simpa using List.find?_some h⟩
theorem find_none {l:List E} {k:K} (h:l.find? (fun x=>decide (key x=k))=none):∀x∈l,key x≠k:=fun x hx=>by simpa using List.find?_eq_none.1 h x hx
theorem Keyd.find {l:List E} (h:Keyd key l) {x:E} (hx:x∈l):l.find? (fun y=>decide (key y=key x))=some x:=by
 induction l with
 |nil=>cases hx
 | cons y l ih=>
   obtain⟨h1,h2⟩:=List.pairwise_cons.1 h;rcases List.mem_cons.1 hx with rfl|hx
   · rw[List.find?_cons];simp
   · rw[List.find?_cons]
     have:=h1 x hx;simp only[this,decide_false];exact ih h2 hx
theorem Keyd.one {l:List E} (h:Keyd key l) {x y:E} (hx:x∈l) (hy:y∈l) (e:key x=key y):x=y:=by
 have a:=h.find hx;have b:=h.find hy;rw[e] at a;exact Option.some.inj (a.symm.trans b)
theorem Keyd.step {acc:List E} (h:Keyd key acc) (e:E):Keyd key (takeL ok key prev acc e):=by
 unfold takeL
 split
 · split
   · rename_i hf
     refine List.pairwise_append.2 ⟨h,List.pairwise_singleton _ _,fun a ha b hb=> ?_⟩;rw[List.mem_singleton.1 hb];exact find_none hf a ha
   · split
     · refine List.Pairwise.map _ (fun a b hab=> ?_) h
       by_cases ha:key a=key e
       · by_cases hb:key b=key e
         · exact(hab (ha.trans hb.symm)).elim
         · rw[if_pos ha,if_neg hb];exact fun q=>hb q.symm
       · by_cases hb:key b=key e
         · rw[if_neg ha,if_pos hb];exact ha
         · rw[if_neg ha,if_neg hb];exact hab
     · exact h
 · exact h
theorem effL_keyd (l:List E):Keyd key (effL ok key prev l):=by
 have h:∀(b a:List E),Keyd key a→Keyd key (b.foldl (takeL ok key prev) a):=by
  intro b
  induction b with
  |nil=>intro a h;exact h
  |cons x b ih=>intro a h;exact ih _ (h.step x)
 exact h l [] List.Pairwise.nil
def SaysL (key:E→K) (acc:List E) (m:K→Option E):Prop:=∀k,m k=acc.find? (fun x=>decide (key x=k))
theorem SaysL.step {acc:List E} {m:K→Option E} (h:SaysL key acc m) (e:E):SaysL key (takeL ok key prev acc e) (takeB ok key prev m e):=by
 intro k;unfold takeL takeB
 by_cases he:ok e=true
 · rw [if_pos he,if_pos he,h (key e)]
   cases hf:acc.find? (fun x=>decide (key x=key e)) with
   | none=>
     simp only;rw[List.find?_append]
     by_cases hk:k=key e
     · subst hk;rw[hf];simp
     · rw[if_neg hk,h k]
       have:¬(key e=k):=fun q=>hk q.symm
       simp[this]
   | some old =>
     simp only
     by_cases hp:prev e old=true
     · rw [if_pos hp,if_pos hp]
       have hmap:∀l:List E,(l.map (fun x=>if key x=key e then e else x)).find? (fun x=>decide (key x=k))=if k=key e then(l.find? (fun x=>decide (key x=k))).map (fun _=>e) else l.find? (fun x=>decide (key x=k)):=by
        intro l
        induction l with
        |nil=>simp
        | cons y l ih=>
          rw[List.map_cons,List.find?_cons,List.find?_cons]
          by_cases hy:key y=key e
          · by_cases hk:k=key e
            · subst hk;simp[hy]
            · have h1:¬key e=k:=fun q=>hk q.symm
              have h2:¬key y=k:=fun q=>hk (q.symm.trans hy);simp only[hy,if_true,h1,decide_false,hk,if_false];rw[ih,if_neg hk]
          · by_cases hk:k=key e
            · subst hk
              simp only[hy,if_false,decide_false,if_true];rw[ih,if_pos rfl]
            · simp only[hy,if_false,hk]
              rw[ih,if_neg hk]
       rw[hmap]
       by_cases hk:k=key e
       · subst hk;rw[if_pos rfl,if_pos rfl,hf];rfl
       · rw[if_neg hk,if_neg hk];exact h k
     · rw[if_neg hp,if_neg hp];exact h k
 · rw[if_neg he,if_neg he];exact h k
theorem effL_says (l:List E):SaysL key (effL ok key prev l) (bestB ok key prev l):=by
 have h:∀(b a:List E) (m:K→Option E),SaysL key a m→SaysL key (b.foldl (takeL ok key prev) a) (b.foldl (takeB ok key prev) m):=by
  intro b
  induction b with
  |nil=>intro a m h;exact h
  |cons x b ih=>intro a m h;exact ih _ _ (h.step x)
 exact h l [] _ fun k=>rfl
theorem effL_mem (l:List E) (e:E):e∈effL ok key prev l↔bestB ok key prev l (key e)=some e:=by
 rw[effL_says l (key e)];constructor
 · intro h;exact(effL_keyd l).find h
 · intro h;exact(find_key h).1
theorem effL_best (R:Ranks ok key prev) (l:List E) (e:E):e∈effL ok key prev l↔IsBest ok key prev l (key e) e:=by
 rw[effL_mem];obtain⟨h1,h2⟩:=best_stands R l (key e);constructor
 · exact h1 e
 · intro h
   cases hb:bestB ok key prev l (key e) with
   |none=>exact(h2 hb e h.1 h.2.1 rfl).elim
   |some x=>rw[(h1 x hb).one R h]
theorem effL_ok (l:List E):∀e∈effL ok key prev l,e∈l∧ok e=true:=by
 have h : ∀(b a l:List E),(∀e∈a,e∈l∧ok e=true)→(∀e∈b,e∈l)→∀e∈b.foldl (takeL ok key prev) a,e∈l∧ok e=true:=by
  intro b
  induction b with
  |nil=>intro a l h _;exact h
  | cons x b ih=>
    intro a l h hb;refine ih _ l (fun e he=> ?_) fun e he=>hb e (List.mem_cons_of_mem _ he);unfold takeL at he
    split at he
    · rename_i hx
      have hxl:x∈l∧ok x=true:=⟨hb x (List.mem_cons_self ..),hx⟩
      split at he
      · rcases List.mem_append.1 he with q|q
        · exact h e q
        · rw[List.mem_singleton.1 q];exact hxl
      · split at he
        · obtain⟨y,hy,hye⟩:=List.mem_map.1 he
          split at hye
          · rw[←hye];exact hxl
          · rw[←hye];exact h y hy
        · exact h e he
    · exact h e he
 exact h l [] l (fun e he=>by cases he) fun e he=>he
end
end Go.Proofs.YteeifhlhpiimoaaGreatDoor
end
