/-
  From a law's walk to its row: the arguments read behind the call as before it. Conditions: every type that is read can be read; nothing that lay when the call began has turned. The steps of a drawn region, short to print: an operation is found by rfl, side conditions are shown by default. No condition. A slice of one-celled elements that reads as a list, nil let in. Conditions: an argument of the row's own is what the row's first reading says. SHA-256 over lists of bytes, as plain functions on natural numbers. No condition. A row of one-celled elements in memory, told cell by cell. No condition. Laws of the walk for whole rows: a variable is made, read, written: the world behind it under a name of its own. Conditions: each law's own. Slices that the call owns, nil let in, told as lists; one element appended. Conditions: each law's own. Numbers in groups of four digits, the lowest first: plainly. No condition. A law for 'for .. := range seq { .. }' over an iterator that may turn blocks of its own between two rounds (a set Z of blocks that it captured) and may lay new ones. Conditions: the statement stands in no round of another loop; the fence is the wide one. Contracts of package integer's numbers: at, trimmed, the digits' closures. Conditions: each contract's own. The contract of package integer's fold. Conditions: the digits are between -9999 and 1000000000; their value is not negative.
-/
import Derived.WalkKit
import Derived.ProofKit
import Derived.OpenShut
import Derived.Deep.Strs
import Derived.Lib.SmallJoins
import Derived.SliceStrings
import Derived.Deep.RegionHeld3
import Derived.Lib.Hide
import Derived.Below
import Derived.ChangeSlices
import Derived.Deep.Draws
import Derived.KernelRfl
import Derived.Laws.IdiomStrings
import Derived.Shelf.Abstract
import Derived.TacticsInMore
import Derived.LoopNIn
import Derived.LoopIn
import Derived.Maps.AppendAt
import Derived.Lib.BufferRead
import Derived.Deep.Onto
import Derived.Outline
import Derived.Deep.MidRow
import Derived.WalkSpells
import Derived.WalkLawsBesides
import Derived.Laws.BitsAllLaws
import Derived.Deep.AppendLies
import Derived.Laws.OwnMore
import Derived.OwnWalk
import Derived.RangeFuncNested
import Derived.RangeFuncBound
import Derived.RangeFuncCalls
import Derived.RangeFuncLeaves
import Derived.RangeFuncWrites
import Derived.RangeFuncBox
import Derived.OwnWalkIn
import Derived.Deep.QuietTactic
import Derived.BigQuiet
import Derived.Test.YteeifhlhpiimoaaGreatDoorProg
set_option maxHeartbeats 4000000
set_option maxRecDepth 100000
section
namespace Go.Proofs.YteeifhlhpiimoaaGreatDoor
open Go Go.RowKit Go.ChangeShapes Go.WideShapes
theorem trodAll_stays {H:Type} {enc:TypeId×Value→H} {P:Program} (hl:laidOutB P=true) {W W':World} (hb:Below W.heap.size W W'):
 ∀{ts:List TypeId} {vs:List Value} {ds:List (DataW H)} {ps:List MemPlace},(∀t∈ts,P.readableRec t=true∧t<P.types.size)→
  DataW.TrodAll enc P W 0 (fun _=>true) true ts vs ds ps→DataW.TrodAll enc P W' 0 (fun b=>decide (b<W.heap.size)) true ts vs ds ps:=by
 intro ts
 induction ts with
 |nil=>intro vs ds ps _ h;obtain⟨rfl,rfl,rfl⟩:=trodAll_nil h;exact trodAll_mk0
 | cons t ts ih=>
   intro vs ds ps ht h;have hlt:=h.lt;obtain⟨v,vs',d,ds',p,q,rfl,rfl,rfl,h0,h1⟩:=trodAll_cons h;obtain⟨hr,hs⟩:=ht t (List.mem_cons_self ..);exact trodAll_cons_mk (Below.trod hl hr hs h0 hb (fun x hx=>hlt x (List.mem_append_left _ hx))) (ih (fun t ht'=>ht t (List.mem_cons_of_mem _ ht')) h1)
theorem law_post {H:Type} {enc:TypeId×Value→H} {P:Program} {f:Func} {s:ChangeSpec} {W W':World} {args:Array Value} {ds gs:List (DataW H)} {before:List MemPlace} {tb:TypeId}
 (hl:laidOutB P=true) (hr:∀t∈f.params.toList,P.readableRec t=true∧t<P.types.size) (hres:f.resultTypes=#[tb]) (htb:P.underlying tb=some .bool) (hvars:s.vars=[])
 (hW:DataW.Whole enc P f.params.toList s.vars false W args.toList ds gs before) (hfn:s.fn H (ds++gs)={results:=[.lit (.bool true)],args:=ds}) (hb:Below W.heap.size W W'):
 s.post enc P f false true false false W args (.bool true) W':=by
 have hW':=hW;obtain⟨p,q,hA,hV,rfl,hfz,hnd⟩:=hW;refine⟨ds,gs,_,[],p,[],hW',?_,?_,?_,hb.frame _,fun h=>by cases h⟩
 · rw[hfn,hres];exact trodAll_mk1 (shut_bool htb true)
 · rw[hfn];exact trodAll_stays hl hb hr hA
 · rw[hfn,hvars];rfl
section
variable {H:Type} {enc:TypeId×Value→H} {P:Program} {W:World} {base:Nat} {sp:Nat→Bool} {held:Bool}
end
end Go.Proofs.YteeifhlhpiimoaaGreatDoor
end
section
namespace Go.Proofs.YteeifhlhpiimoaaGreatDoor
open Go
section
variable {P:Program} {md:Region.Mode} {ops:Array Oper} {Q:Exit→Act→World→Prop} {S:World→Prop} {fuel:Nat} {listed:Array Bool} {a a':Act} {w:World}
theorem rc {i:Nat} {o:Oper} {rs:List Nat}
    (h:∀K':Act→World→Prop,Shut (∀a w,S w→(S w→wpAnyH P md ops Q S fuel (listed.setIfInBounds i true) a w)→K' a w)→if Region.wanted o (yielded ops a.tmps)=true then Oper.wp P o a w K' Q else K' (a.put o.dst undef) w)
    (hs:AllReadyH P md ops Q S fuel listed a w rs) (ho:ops.toList[i]?=some o:=by rfl):AllReadyH P md ops Q S fuel listed a w (i::rs):=AllReadyH.cons (by rw[←Array.getElem?_toList];exact ho) h hs
theorem tk {oi:Oper} {v:Value} (i:Nat) (h:wpAnyH P md ops Q S fuel (listed.setIfInBounds i true) a' w) (hi:ops.toList[i]?=some oi:=by rfl)
    (hs:Region.noSelect ops=true:=by kernel_rfl) (hf:Region.free md ops listed i=true:=by kernel_rfl) (hr:(Region.ready md ops listed).contains i=true:=by kernel_rfl)
    (hw:Region.wanted oi (yielded ops a.tmps)=true:=by rfl) (hy:∀w,S w→(execOp a.eval oi).run P w=.ok (.value v) w:=by intro w hSw;(try dsimp only at hSw);go_simp<;>with_reducible rfl)
    (hQ:∀c a w,Q (.panic c) (a.put oi.dst v) w→Q (.panic c) a w:=by exact fun _ _ _ h=>h) (hS:S w:=by assumption)
    (ha:a.put oi.dst v=a':=by(try simp only[Act.put,List.setIfInBounds_toArray,List.set_cons_zero,List.set_cons_succ]);first|done|rfl):wpAnyH P md ops Q S (fuel+1) listed a w:=
  wpAnyH_take (by rw[←Array.getElem?_toList];exact hi) hs hf hr hQ (.inl ⟨hw,hy⟩) hS (ha▸h)
theorem tn {oi:Oper} (i:Nat) (h:wpAnyH P md ops Q S fuel (listed.setIfInBounds i true) a' w) (hi:ops.toList[i]?=some oi:=by rfl)
    (hs:Region.noSelect ops=true:=by kernel_rfl) (hf:Region.free md ops listed i=true:=by kernel_rfl) (hr:(Region.ready md ops listed).contains i=true:=by kernel_rfl)
    (hw:Region.wanted oi (yielded ops a.tmps)=false:=by rfl)
    (hQ:∀c a w,Q (.panic c) (a.put oi.dst undef) w→Q (.panic c) a w:=by exact fun _ _ _ h=>h) (hS:S w:=by assumption)
    (ha:a.put oi.dst undef=a':=by(try simp only[Act.put,List.setIfInBounds_toArray,List.set_cons_zero,List.set_cons_succ]);first|done|rfl):wpAnyH P md ops Q S (fuel+1) listed a w:=
  wpAnyH_take (by rw[←Array.getElem?_toList];exact hi) hs hf hr hQ (.inr ⟨hw,rfl⟩) hS (ha▸h)
theorem tl {oi:Oper} {v:Value} (i:Nat) (hi:ops.toList[i]?=some oi) (hy:YieldsIf P ops S oi v a) (h:wpAnyH P md ops Q S fuel (listed.setIfInBounds i true) a' w)
    (hs:Region.noSelect ops=true:=by kernel_rfl) (hf:Region.free md ops listed i=true:=by kernel_rfl) (hr:(Region.ready md ops listed).contains i=true:=by kernel_rfl)
    (hQ:∀c a w,Q (.panic c) (a.put oi.dst v) w→Q (.panic c) a w:=by exact fun _ _ _ h=>h) (hS:S w:=by assumption)
    (ha:a.put oi.dst v=a':=by(try simp only[Act.put,List.setIfInBounds_toArray,List.set_cons_zero,List.set_cons_succ]);first|done|rfl):wpAnyH P md ops Q S (fuel+1) listed a w:=
  wpAnyH_take (by rw[←Array.getElem?_toList];exact hi) hs hf hr hQ hy hS (ha▸h)
theorem kk {K:Act→World→Prop} (hK:Shut (∀a w,S w→(S w→wpAnyH P md ops Q S fuel listed a w)→K a w)) (hS:S w) (h:S w→wpAnyH P md ops Q S fuel listed a' w)
    (ha:a=a':=by(try simp only[Act.put,List.setIfInBounds_toArray,List.set_cons_zero,List.set_cons_succ]);first|done|rfl):K a w:=hK.out a w hS (fun x=>ha▸h x)
theorem rd (rs:List Nat) (h:AllReadyH P md ops Q S fuel listed a w rs) (hr:Region.ready md ops listed=rs:=by kernel_rfl) (hne:rs≠[]:=by simp):wpAnyH P md ops Q S (fuel+1) listed a w:=wpAnyH_ready hr hne h
theorem dn (h:Q .normal a w) (hr:Region.ready md ops listed=[]:=by kernel_rfl):wpAnyH P md ops (NoPanic Q) S fuel listed a w:=wpAnyH_done hr (NoPanic.normal h) _
end
theorem rcE {P:Program} {md:Region.Mode} {ops:Array Oper} {Q:Exit→Act→World→Prop} {S:World→Prop} {fuel:Nat} {listed:Array Bool} {a:Act} {w:World} {i:Nat} {o:Oper}
    (h:∀K':Act→World→Prop,Shut (∀a w,S w→(S w→wpAnyH P md ops Q S fuel (listed.setIfInBounds i true) a w)→K' a w)→if Region.wanted o (yielded ops a.tmps)=true then Oper.wp P o a w K' Q else K' (a.put o.dst undef) w)
    (ho:ops.toList[i]?=some o:=by rfl):AllReadyH P md ops Q S fuel listed a w [i]:=rc h AllReadyH.nil ho
theorem hZ {p:Prop} (h:p):RowKit.Hid p:=h
theorem oQ {α:Sort _} (x:α):∃q,x=q:=⟨_,rfl⟩
theorem bTr {w V W:World} (h:RowKit.Hid (RowKit.Below w.heap.size w V)) (hb:RowKit.Below V.heap.size V W):RowKit.Hid (RowKit.Below w.heap.size w W):=hZ (h.out.trans (hb.mono h.out.size))
theorem bAt {W V:World} {b:Nat} {cs:Array Value} {T:TypeId} (hb:RowKit.Below W.heap.size W V) (h:RowKit.Hid (W.heap[b]?=some (.cells cs T (0,0)))):RowKit.Hid (V.heap[b]?=some (.cells cs T (0,0))):=hZ ((hb.block b (Array.getElem?_eq_some_iff.1 h.out).1).trans h.out)
theorem share2 {α β:Type} {F G:α→β→Prop} {Z:Prop} (h:(∀a b,F a b→G a b)→Z) (g:∀a b,F a b→G a b):Z:=h g
theorem share3 {α β γ:Type} {F G:α→β→γ→Prop} {Z:Prop} (h:(∀a b c,F a b c→G a b c)→Z) (g:∀a b c,F a b c→G a b c):Z:=h g
end Go.Proofs.YteeifhlhpiimoaaGreatDoor
end
section
namespace Go.Proofs.YteeifhlhpiimoaaGreatDoor
open Go Go.RowKit Go.ChangeShapes Go.WideShapes
def LAt {α:Type} (w:World) (B:Nat) (A:Option Addr) (f:α→Value) (l:List α):Prop:=
 ∀i x,l[i]?=some x→∃a,A=some a∧a.block<B∧w.cell? (a.add i)=some (f x)
theorem addr_add_block (a:Addr) (n:Nat):(a.add n).block=a.block:=by unfold Addr.add;split<;>rfl
theorem addr_add_add (a:Addr) (i j:Nat):(a.add i).add j=a.add (i+j):=by
 unfold Addr.add
 by_cases hi:i=0<;>by_cases hj:j=0<;>simp[hi,hj,Nat.add_assoc]
theorem cell_lt {w:World} {a:Addr} {v:Value} (h:w.cell? a=some v):a.block<w.heap.size:=by
 rcases Nat.lt_or_ge a.block w.heap.size with h1|h1
 · exact h1
 · simp[World.cell?,Array.getElem?_eq_none h1] at h
section
variable {α:Type} {w w':World} {B B':Nat} {A:Option Addr} {f:α→Value} {l:List α}
theorem LAt.nil:LAt w B A f ([]:List α):=fun i x h=>by simp at h
theorem LAt.get (h:LAt w B A f l) {i:Nat} (hi:i<l.length):∃a,A=some a∧a.block<B∧w.cell? (a.add i)=some (f l[i]):=h i _ (List.getElem?_eq_getElem hi)
theorem LAt.below (h:LAt w B A f l) (hb:Below B w w'):LAt w' B A f l:=fun i x hx=>by
 obtain⟨a,e,hl,hc⟩:=h i x hx;exact⟨a,e,hl,(hb.cell (by rw[addr_add_block];exact hl)).trans hc⟩
theorem LAt.more (h:LAt w B A f l) (hB:B≤B'):LAt w B' A f l:=fun i x hx=>by
 obtain⟨a,e,hl,hc⟩:=h i x hx;exact⟨a,e,by omega,hc⟩
theorem LAt.take (h:LAt w B A f l) (k:Nat):LAt w B A f (l.take k):=fun i x hx=>by
 rw[List.getElem?_take] at hx
 split at hx
 · exact h i x hx
 · cases hx
end
section
variable {H:Type} {enc:TypeId×Value→H} {P:Program} {W:World} {base:Nat} {sp:Nat→Bool} {held:Bool} {b0:Nat} {r:Reach}
theorem open_slice_value {t e:TypeId} {v:Value} (ht:P.underlying t=some (.slice e)) (h:Value.okWide P W r b0 t v):v.cells.toList=[v]:=by
 obtain⟨a,l,c,rfl⟩:=okWide_slice ht h;rfl
end
end Go.Proofs.YteeifhlhpiimoaaGreatDoor
end
section
namespace Go.Proofs.YteeifhlhpiimoaaGreatDoor
open Go
def rotr (n x:Nat):Nat:=x/2^n|||x*2^(32-n)%4294967296
def mix3 (a b c x:Nat):Nat:=0^^^rotr a x^^^rotr b x^^^rotr c x
def roundT (v:List Nat) (k w:Nat):Nat:=
 ((((v.getD 7 0+mix3 6 11 25 (v.getD 4 0))%4294967296+((v.getD 4 0&&&v.getD 5 0)^^^((4294967295-v.getD 4 0)&&&v.getD 6 0)))%4294967296+k)%4294967296+w)%4294967296
def roundU (v:List Nat):Nat:=
 (mix3 2 13 22 (v.getD 0 0)+((v.getD 0 0&&&v.getD 1 0)^^^(v.getD 0 0&&&v.getD 2 0)^^^(v.getD 1 0&&&v.getD 2 0)))%4294967296
def round (v:List Nat) (k w:Nat):List Nat:=
 [(roundT v k w+roundU v)%4294967296,v.getD 0 0,v.getD 1 0,v.getD 2 0,(v.getD 3 0+roundT v k w)%4294967296,v.getD 4 0,v.getD 5 0,v.getD 6 0]
end Go.Proofs.YteeifhlhpiimoaaGreatDoor
end
section
namespace Go.Proofs.YteeifhlhpiimoaaGreatDoor
open Go Go.RowKit
def bv (b:UInt8):Value:=.int .u8 b.toNat
def wv (n:Nat):Value:=.int .u32 n
def nv (n:Nat):Value:=.int .i64 n
structure RAt {α:Type} (w:World) (b:Nat) (f:α→Value) (l:List α):Prop where
 lt:b<w.heap.size
 cell:∀i x,l[i]?=some x→w.cell? ⟨b,i,none⟩=some (f x)
 free:∀i,i<l.length→w.frozen? ⟨b,i,none⟩=false
section
variable {α:Type} {w w':World} {b B:Nat} {f:α→Value} {l:List α}
theorem RAt.below (h:RAt w b f l) (hb:Below B w w') (hB:b<B):RAt w' b f l:=
 ⟨Nat.lt_of_lt_of_le h.lt hb.size,fun i x hx=>(hb.cell (p:=⟨b,i,none⟩) hB).trans (h.cell i x hx),fun i hi=>(hb.frozen (p:=⟨b,i,none⟩) hB).trans (h.free i hi)⟩
theorem RAt.get (h:RAt w b f l) {i:Nat} (hi:i<l.length):w.cell? ⟨b,i,none⟩=some (f l[i]):=h.cell i _ (List.getElem?_eq_getElem hi)
theorem RAt.setv (h:RAt w b f l) (i:Nat) (hi:i<l.length) (x:α) (v:Value) (hv:v=f x):RAt (w.setCell ⟨b,i,none⟩ v) b f (l.set i x):=by
 subst hv;refine⟨by simpa[World.setCell] using h.lt,fun j y hy=> ?_,fun j hj=>by rw[World.frozen?_setCell];exact h.free j (by simpa using hj)⟩;have hc:=h.cell i l[i] (List.getElem?_eq_getElem hi)
 by_cases e:i=j
 · subst e
   rw[List.getElem?_set_self hi] at hy;cases hy;exact World.cell?_setCell_same' _ _ _ (by rw[hc];rfl)
 · rw[List.getElem?_set_ne e] at hy
   have hne:(⟨b,i,none⟩:Addr)≠⟨b,j,none⟩:=fun q=>e (congrArg Addr.off q);exact(World.cell?_setCell_other _ _ _ _ hne).trans (h.cell j y hy)
theorem RAt.other (h:RAt w b f l) (p:Addr) (hp:p.block≠b) (v:Value):RAt (w.setCell p v) b f l:=by
 refine⟨by simpa[World.setCell] using h.lt,fun j y hy=> ?_,fun j hj=>by rw[World.frozen?_setCell];exact h.free j hj⟩;exact(World.cell?_setCell_other _ _ _ _ (fun q=>hp (by rw[q]))).trans (h.cell j y hy)
theorem RAt.sl (h:RAt w b f l) {B:Nat} (hB:b<B):LAt w B (some ⟨b,0,none⟩) f l:=fun i x hx=>⟨_,rfl,hB,by have:=h.cell i x hx;rw[show(⟨b,0,none⟩:Addr).add i=⟨b,i,none⟩ by simp[Addr.add];omega];exact this⟩
end
theorem RAt.alloc_new {α:Type} {f:α→Value} {l:List α} (w:World) (vs:Array Value) (t:TypeId) (h:vs.toList=l.map f):RAt (w.alloc (.cells vs t)) w.heap.size f l:=by
 refine⟨by simp,fun i x hx=> ?_,fun i _=>by simp[World.frozen?,World.alloc,-World.alloc_eq]⟩;have h2:vs[i]?=some (f x):=by rw[←Array.getElem?_toList,h,List.getElem?_map,hx];rfl
 simpa[World.cell?,World.alloc,-World.alloc_eq] using h2
theorem RAt.alloc {α:Type} {f:α→Value} {l:List α} {w:World} {b:Nat} (h:RAt w b f l) (o:Obj):RAt (w.alloc o) b f l:=
 h.below (B:=w.heap.size) ((Below.refl _ _).alloc (Nat.le_refl _) o) h.lt
theorem Below.drewN' {B:Nat} {a w:World} (h:Below B a w) (n:Nat):Below B a (w.drewN n):=⟨h.os,h.tape,h.output,h.size,h.block⟩
theorem results_cell_mid {P:Program} {fn:Func} {p:Tmp} {ty:TypeId} (h:fn.results=#[.cell p ty]) (tmps:Array Value) (w:World) (b:Nat) (cs:List Value) (d:TypeDesc)
 (hp:tmps.getD p undef=.pointer (some ⟨b,0,none⟩)) (hc:w.rangeAt b 0 cs) (hu:P.underlying ty=some d) (hd:d.isRow=true) (hi:(P.info? ty).map (·.size)=some cs.length):
 (results fn tmps).run P w=.ok (.agg cs.toArray) w:=by
 have hp':tmps[p]?.getD undef=.pointer (some ⟨b,0,none⟩):=by simpa using hp
 simp[results,h,hp',asAddr,run_loadVar_mid w b 0 ty cs d hc hu hd hi]
theorem RAt.convert {P:Program} {w:World} {b n cap:Nat} {l:List UInt8} (h:RAt w b bv l) (hn:l.length=n) (src dst e:TypeId) (hs:P.underlying src=some (.slice e)) (he:P.underlying e=some (.int .u8)) (hd:P.underlying dst=some .string):
 (Go.convert src dst (.slice (some ⟨b,0,none⟩) n cap)).run P w=.ok (.string ⟨l.toArray⟩) w:=by
 subst hn
 exact run_convert_bytes_back w src dst e ⟨b,0,none⟩ cap l hs he hd (fun j hj=>by
  have:=h.cell j l[j] (List.getElem?_eq_getElem hj);rw[show(⟨b,0,none⟩:Addr).add j=⟨b,j,none⟩ by simp[Addr.add];omega]
  exact this)
section
variable {P:Program} {ops:Array Oper} {rest:List Oper} {op:Oper} {a:Act} {w:World} {Q:Exit→Act→World→Prop} {α:Type} {f:α→Value} {l m:List α}
end
structure Elem (P:Program) (t e:TypeId) (size bytes:Nat):Prop where
 ht:P.underlying t=some (.slice e)
 info:∃i z,P.info? e=some i∧i.zero=some z∧i.size=size∧i.bytes=bytes∧z.cells.size=size
 pos:0<size
theorem Elem.mk' {P:Program} {t e:TypeId} {z:Value} {size bytes:Nat} (ht:P.underlying t=some (.slice e)) (h:(P.info? e).map (fun i=>(i.zero,i.size,i.bytes))=some (some z,size,bytes)) (hz:z.cells.size=size) (hp:0<size):Elem P t e size bytes:=by
 obtain⟨i,h1,h2,h3,h4⟩:=info_parts h;exact⟨ht,⟨i,z,h1,h2,h3,h4,hz⟩,hp⟩
def one {α:Type} (f:α→Value) (x:α):List Value:=[f x]
def OL {α:Type} (w:World) (B:Nat) (e:TypeId) (size:Nat) (f:α→List Value) (v:Value) (l:List α):Prop:=w.ownsRow B e size v l.length (l.flatMap f)
theorem nil_or_snoc {α:Type} (l:List α):l=[]∨∃m x,l=m++[x]:=by
 rcases List.eq_nil_or_concat l with h|⟨m,x,h⟩
 · exact .inl h
 · exact .inr ⟨m,x,by rw[h,List.concat_eq_append]⟩
section
variable {α:Type} {w w':World} {B:Nat} {e:TypeId} {size:Nat} {f:α→List Value} {v:Value} {l:List α}
theorem flatMap_one {g:α→Value}:l.flatMap (one g)=l.map g:=by unfold one;induction l with|nil=>rfl|cons x l ih=>rw[List.flatMap_cons,List.map_cons,ih];rfl
theorem OL.nil:OL w B e size f (.slice none 0 0) []:=World.ownsRow_nil w B e size
theorem OL.form (h:OL w B e size f v l) (hn:0<l.length):∃g cap,v=.slice (some ⟨g,0,none⟩) l.length cap∧B≤g∧g<w.heap.size∧l.length≤cap∧cap≤maxLen:=by
 rcases h.2 with⟨_,h0⟩|⟨g,cap,cur,hv,hb,hg,hc,hm,_⟩
 · omega
 · exact⟨g,cap,hv,hb,(Array.getElem?_eq_some_iff.1 hg).1,hc,hm⟩
theorem OL.slice (h:OL w B e size f v l):∃A cap,v=.slice A l.length cap∧l.length≤cap∧cap≤maxLen:=by
 rcases h.2 with⟨rfl,h0⟩|⟨g,cap,cur,hv,hb,hg,hc,hm,_⟩
 · exact⟨none,0,by rw[h0],by omega,by unfold maxLen;omega⟩
 · exact⟨_,cap,hv,hc,hm⟩
theorem OL.lt (h:OL w B e size f v l):∀g,v.ownBlock=some g→B≤g∧g<w.heap.size:=World.ownsRow.lt h
theorem OL.keep (h:OL w B e size f v l) (hs:∀g,v.ownBlock=some g→w'.heap[g]?=w.heap[g]?):OL w' B e size f v l:=by
 refine⟨h.1,?_⟩;rcases h.2 with hn|⟨g,cap,cur,rfl,hb,hg,r⟩
 · exact .inl hn
 · exact .inr ⟨g,cap,cur,rfl,hb,(hs g rfl).trans hg,r⟩
theorem OL.below (h:OL w B e size f v l) {n:Nat} (hb:Below n w w') (hn:w.heap.size≤n):OL w' B e size f v l:=h.keep fun g hg=>hb.block g (by have:=(h.lt g hg).2;omega)
theorem OL.alloc (h:OL w B e size f v l) (o:Obj):OL (w.alloc o) B e size f v l:=World.ownsRow.alloc h o
theorem OL.drewN (h:OL w B e size f v l) (n:Nat):OL (w.drewN n) B e size f v l:=h.keep fun _ _=>rfl
theorem OL.base {B':Nat} (h:OL w B e size f v l) (hB:B'≤B):OL w B' e size f v l:=by
 refine⟨h.1,?_⟩;rcases h.2 with hn|⟨g,cap,cur,rfl,hb,r⟩
 · exact .inl hn
 · exact .inr ⟨g,cap,cur,rfl,by omega,r⟩
theorem flatMap_length (hf:∀x,(f x).length=size):(l.flatMap f).length=l.length*size:=by
 induction l with
 |nil=>simp
 |cons x l ih=>rw[List.flatMap_cons,List.length_append,ih,hf,List.length_cons,Nat.succ_mul,Nat.add_comm]
theorem flatMap_take (hf:∀x,(f x).length=size) (k:Nat):(l.flatMap f).take (k*size)=(l.take k).flatMap f:=by
 induction l generalizing k with
 |nil=>simp
 | cons x l ih=>cases k with
   |zero=>simp
   | succ k=>
     rw[List.flatMap_cons,List.take_succ_cons,List.flatMap_cons,List.take_append,hf,Nat.succ_mul,List.take_of_length_le (by rw[hf];omega),Nat.add_sub_cancel,ih]
theorem OL.take {A:Option Addr} {n cap:Nat} (h:OL w B e size f (.slice A n cap) l) (hf:∀x,(f x).length=size) (k:Nat) (hk:k≤l.length) (hA:A≠none):OL w B e size f (.slice A k cap) (l.take k):=by
 have hkl:(l.take k).length=k:=by simp;omega
 refine⟨by rw[hkl];rw[flatMap_length hf,hkl],?_⟩;rcases h.2 with⟨he,_⟩|⟨g,cap',cur,he,hb,hg,hc,hm,hs,ht⟩
 · injection he with h1 h2 h3;exact(hA h1).elim
 · injection he with h1 h2 h3
   subst h1 h3;refine .inr ⟨g,cap,cur,by rw[hkl],hb,hg,by omega,hm,hs,?_⟩;rw[hkl,←flatMap_take hf,←ht,List.take_take,Nat.min_eq_left (Nat.mul_le_mul_right _ hk)]
theorem OL.get {g:Nat} {n cap:Nat} {φ:α→Value} (h:OL w B e 1 (one φ) (.slice (some ⟨g,0,none⟩) n cap) l) {i:Nat} (hi:i<l.length):w.cell? ⟨g,i,none⟩=some (φ l[i]):=by
 have hn:n=l.length:=by
  rcases h.2 with⟨he,_⟩|⟨g',cap',cur,he,_⟩
  · cases he
  · injection he
 subst hn;rw[World.ownsRow.cellAt h i (by omega),flatMap_one,List.getElem?_map,List.getElem?_eq_getElem hi];rfl
theorem OL.getq {g:Nat} {n cap:Nat} {φ:α→Value} (h:OL w B e 1 (one φ) (.slice (some ⟨g,0,none⟩) n cap) l) {i:Nat} {x:α} (hi:l[i]?=some x):w.cell? ⟨g,i,none⟩=some (φ x):=by
 obtain⟨h1,h2⟩:=List.getElem?_eq_some_iff.1 hi;rw[h.get h1,h2]
theorem OL.len {A:Option Addr} {n cap:Nat} (h:OL w B e size f (.slice A n cap) l):n=l.length∧n≤cap∧cap≤maxLen:=by
 obtain⟨A',c',he,h1,h2⟩:=h.slice;injection he with _ e2 e3;subst e3;exact⟨e2,by omega,h2⟩
theorem OL.lat {A:Option Addr} {n cap:Nat} {φ:α→Value} (h:OL w B e 1 (one φ) (.slice A n cap) l):LAt w w.heap.size A φ l:=by
 intro i x hx;have hi:i<l.length:=(List.getElem?_eq_some_iff.1 hx).1;obtain⟨g,cap',he,_,hlt,_⟩:=h.form (by omega);cases he;refine⟨_,rfl,hlt,?_⟩;rw[show(⟨g,0,none⟩:Addr).add i=⟨g,i,none⟩ by simp[Addr.add];omega,h.get hi,(List.getElem?_eq_some_iff.1 hx).2]
theorem Below.of_grown {row:Option Nat} (h:w.grownBy w' row) (hr:∀g,row=some g→B≤g) (hB:B≤w.heap.size):Below B w w':=
 ⟨h.os,h.tape,h.output,h.size,fun k hk=>h.block k (by omega) (fun e=>by have:=hr k e.symm;omega)⟩
variable {P:Program} {t:TypeId} {bytes:Nat}
theorem OL.run_app (E:Elem P t e size bytes) (ty:TypeId) (h:OL w B e size f v l) (y:α) (b:Nat) (cs:Array Value) (hb:w.heap[b]?=some (.cells cs e (0,0))) (hcs:cs.toList=f y) (hfy:(f y).length=size) (hone:∀u∈f y,u.oneCell'=true)
 (h63:l.length+1≤maxLen) (hby:(l.length+1)*bytes≤140737488355328) (hB:B≤w.heap.size):
 ∃g cap w',(Builtin.append_ #[t,t] ty #[v,.slice (some ⟨b,0,none⟩) 1 1]).run P w=.ok (.slice (some ⟨g,0,none⟩) (l.length+1) cap) w'∧
  OL w' B e size f (.slice (some ⟨g,0,none⟩) (l.length+1) cap) (l++[y])∧w.grownBy w' v.ownBlock∧(v.ownBlock=some g∨g=w.heap.size)∧g<w'.heap.size∧Below B w w':=by
 obtain⟨i,z,h1,h2,h3,h4,h5⟩:=E.info
 obtain⟨g,cap,w',r1,r2,r3,r4,r5⟩:=run_append_lies (P:=P) w t ty B e i z size bytes E.ht h1 h2 h3 h4 h5 E.pos v l.length (l.flatMap f) h ⟨b,0,none⟩ 1 1 (f y) (by rw[hfy];omega)
  (by rw[←hcs];exact World.news_of_block hb) hone (by decide) h63 hby hB w.heap.size rfl
 refine⟨g,cap,w',r1,?_,r3,r4,r5,Below.of_grown r3 (fun g hg=>(h.lt g hg).1) hB⟩;unfold OL;rw[List.flatMap_append,List.length_append];simpa using r2
theorem OL.run_cat (E:Elem P t e size bytes) (ty:TypeId) (h:OL w B e size f v l) (hf:∀x,(f x).length=size) (A:Option Addr) (m:List α) (k c:Nat) (hk:m.length=k) (hc0:A=none→c=0) (hA:∀j x,(m.flatMap f)[j]?=some x→∃a,A=some a∧w.cell? (a.add j)=some x) (hone:∀x∈m,∀u∈f x,u.oneCell'=true)
 (h63:l.length+k≤maxLen) (hby:(l.length+k)*bytes≤140737488355328) (hB:B≤w.heap.size):
 ∃v' w',(Builtin.append_ #[t,t] ty #[v,.slice A k c]).run P w=.ok v' w'∧OL w' B e size f v' (l++m)∧w.grownBy w' v.ownBlock∧Below B w w':=by
 subst hk;obtain⟨i,z,h1,h2,h3,h4,h5⟩:=E.info;have hlen:=flatMap_length (l:=m) hf
 cases A with
 | none=>
   have hm:m=[]:=by
    cases m with
    |nil=>rfl
    | cons x m=>
      have hp:=E.pos;have hfx:=hf x;obtain⟨y,hy⟩:∃y,((x::m).flatMap f)[0]?=some y:=⟨_,List.getElem?_eq_getElem (by rw[hlen,List.length_cons,Nat.succ_mul];omega)⟩;obtain⟨a,ha,_⟩:=hA 0 y hy;cases ha
   subst hm;refine⟨v,w,?_,by simpa using h,⟨rfl,rfl,rfl,Nat.le_refl _,fun _ _ _=>rfl⟩,Below.refl _ _⟩;obtain rfl:=hc0 rfl
   exact run_append_owned_none (P:=P) w B t ty e i size E.ht h1 v l.length (l.flatMap f) h
 | some a=>
   obtain⟨v',w',r1,r2,r3,_,r5⟩:=run_append_own_at (P:=P) w B t ty e i z size bytes E.ht h1 h2 h3 h4 h5 E.pos v l.length (l.flatMap f) h a m.length c (m.flatMap f) hlen (fun j u hu=>by
    obtain⟨a',ha,hc⟩:=hA j u hu
    cases ha;exact hc) (fun u hu=>by
    obtain⟨x,hx,hux⟩:=List.mem_flatMap.1 hu
    exact hone x hx u hux) h63 hby hB
   refine⟨v',w',r1,?_,r3,Below.of_grown r3 (fun g hg=>(h.lt g hg).1) hB⟩;unfold OL;rw[List.flatMap_append,List.length_append];exact r2
theorem wpList_cat {ops:Array Oper} {rest:List Oper} {o:Oper} {a:Act} {Q:Exit→Act→World→Prop} (hgd:o.guard=none) (s x:Operand) (t:TypeId)
 (ho:o.op=.call {callee:=.builtin .append,args:=#[s,x],argTypes:=#[t,t]}) (E:Elem P t e size bytes) (hf:∀x,(f x).length=size) (v:Value) (l:List α) (hs:a.eval s=v) (h:OL w B e size f v l) (A:Option Addr) (m:List α) (k c:Nat) (hk:m.length=k) (hx:a.eval x=.slice A k c) (hc0:A=none→c=0)
 (hA:∀j x,(m.flatMap f)[j]?=some x→∃a,A=some a∧w.cell? (a.add j)=some x) (hone:∀x∈m,∀u∈f x,u.oneCell'=true) (h63:l.length+k≤maxLen) (hby:(l.length+k)*bytes≤140737488355328) (hB:B≤w.heap.size)
 (hk':∀v' w',OL w' B e size f v' (l++m)→w.grownBy w' v.ownBlock→Below B w w'→wpList P ops Q rest (a.put o.dst v') w'):wpList P ops Q (o::rest) a w:=by
 refine wpList_plain hgd fun K hK=> ?_;obtain⟨v',w',r1,r2,r3,r4⟩:=h.run_cat (P:=P) E o.type hf A m k c hk hc0 hA hone h63 hby hB;unfold Oper.wp execOp;simp only[ho,resolve,invoke,builtin,Sem.run_bind,Sem.run_pure,Result.andThen_ok,List.map_toArray,List.map_cons,List.map_nil,hs,hx,r1];exact hK _ _ (hk' v' w' r2 r3 r4)
theorem wpList_app {ops:Array Oper} {rest:List Oper} {o:Oper} {a:Act} {Q:Exit→Act→World→Prop} (hgd:o.guard=none) (s x:Operand) (t:TypeId)
 (ho:o.op=.call {callee:=.builtin .append,args:=#[s,x],argTypes:=#[t,t]}) (E:Elem P t e size bytes) (v:Value) (l:List α) (n:Nat) (hn:l.length=n) (hs:a.eval s=v) (h:OL w B e size f v l) (y:α) (b:Nat) (cs:Array Value) (hx:a.eval x=.slice (some ⟨b,0,none⟩) 1 1)
 (hb:w.heap[b]?=some (.cells cs e (0,0))) (hcs:cs.toList=f y) (hfy:(f y).length=size) (hone:∀u∈f y,u.oneCell'=true) (h63:l.length+1≤maxLen) (hby:(l.length+1)*bytes≤140737488355328) (hB:B≤w.heap.size)
 (hk:∀g cap w',OL w' B e size f (.slice (some ⟨g,0,none⟩) (n+1) cap) (l++[y])→w.grownBy w' v.ownBlock→(v.ownBlock=some g∨g=w.heap.size)→g<w'.heap.size→Below B w w'→wpList P ops Q rest (a.put o.dst (.slice (some ⟨g,0,none⟩) (n+1) cap)) w'):
 wpList P ops Q (o::rest) a w:=by
 subst hn;refine wpList_plain hgd fun K hK=> ?_;obtain⟨g,cap,w',r1,r2,r3,r4,r5,r6⟩:=h.run_app (P:=P) E o.type y b cs hb hcs hfy hone h63 hby hB;unfold Oper.wp execOp;simp only[ho,resolve,invoke,builtin,Sem.run_bind,Sem.run_pure,Result.andThen_ok,List.map_toArray,List.map_cons,List.map_nil,hs,hx,r1];exact hK _ _ (hk g cap w' r2 r3 r4 r5 r6)
theorem step_app {ops:Array Oper} {o:Oper} {a:Act} {K:Act→World→Prop} {Q:Exit→Act→World→Prop} {D:Prop} (hgd:o.guard=none) (s x:Operand) (t:TypeId)
 (ho:o.op=.call {callee:=.builtin .append,args:=#[s,x],argTypes:=#[t,t]}) (E:Elem P t e size bytes) (v:Value) (l:List α) (n:Nat) (hn:l.length=n) (hs:a.eval s=v) (h:OL w B e size f v l) (y:α) (b:Nat) (cs:Array Value) (hx:a.eval x=.slice (some ⟨b,0,none⟩) 1 1)
 (hb:w.heap[b]?=some (.cells cs e (0,0))) (hcs:cs.toList=f y) (hfy:(f y).length=size) (hone:∀u∈f y,u.oneCell'=true) (h63:l.length+1≤maxLen) (hby:(l.length+1)*bytes≤140737488355328) (hB:B≤w.heap.size)
 (hk:∀g cap w',OL w' B e size f (.slice (some ⟨g,0,none⟩) (n+1) cap) (l++[y])→w.grownBy w' v.ownBlock→(v.ownBlock=some g∨g=w.heap.size)→g<w'.heap.size→Below B w w'→K (a.put o.dst (.slice (some ⟨g,0,none⟩) (n+1) cap)) w'):
 if Region.wanted o (yielded ops a.tmps)=true then Oper.wp P o a w K Q else D:=by
 subst hn;have hw:Region.wanted o (yielded ops a.tmps)=true:=by simp[Region.wanted,hgd]
 rw[if_pos hw];obtain⟨g,cap,w',r1,r2,r3,r4,r5,r6⟩:=h.run_app (P:=P) E o.type y b cs hb hcs hfy hone h63 hby hB;unfold Oper.wp execOp;simp only[ho,resolve,invoke,builtin,Sem.run_bind,Sem.run_pure,Result.andThen_ok,List.map_toArray,List.map_cons,List.map_nil,hs,hx,r1];exact hk g cap w' r2 r3 r4 r5 r6
end
end Go.Proofs.YteeifhlhpiimoaaGreatDoor
end
section
namespace Go.Proofs.YteeifhlhpiimoaaGreatDoor
open Go
def valN:List Nat→Nat
 |[]=>0
 |d::l=>d+10000*valN l
def ofN (n:Nat):List Nat:=if n=0 then[] else n%10000::ofN (n/10000)
termination_by n
decreasing_by omega
def Grp (l:List Nat):Prop:=∀d∈l,d<10000
theorem ofN_zero:ofN 0=[]:=by rw[ofN,if_pos rfl]
theorem ofN_pos {n:Nat} (h:0<n):ofN n=n%10000::ofN (n/10000):=by rw[ofN,if_neg (by omega)]
theorem valN_ofN (n:Nat):valN (ofN n)=n:=by
 induction n using Nat.strongRecOn with
 | ind n ih=>
   rcases Nat.eq_zero_or_pos n with rfl|h
   · rw[ofN_zero];rfl
   · rw[ofN_pos h,valN,ih (n/10000) (by omega)];omega
theorem ofN_grp (n:Nat):Grp (ofN n):=by
 induction n using Nat.strongRecOn with
 | ind n ih=>
   rcases Nat.eq_zero_or_pos n with rfl|h
   · rw[ofN_zero];intro d hd;cases hd
   · rw[ofN_pos h]
     intro d hd;rcases List.mem_cons.1 hd with rfl|hd
     · omega
     · exact ih (n/10000) (by omega) d hd
theorem ofN_eq_nil {n:Nat}:ofN n=[]↔n=0:=by
 constructor
 · intro h
   have:=valN_ofN n;rw[h] at this;exact this.symm
 · rintro rfl;exact ofN_zero
def trimN (l:List Nat):List Nat:=match l with
 |[]=>[]
 |d::l=>if d=0∧trimN l=[] then[] else d::trimN l
theorem ofN_valN {l:List Nat} (h:Grp l):ofN (valN l)=trimN l:=by
 induction l with
 |nil=>rw[valN,ofN_zero];rfl
 | cons d l ih=>
   have hd:=h d (by simp);have ihl:=ih fun x hx=>h x (by simp[hx]);rw[valN,trimN]
   by_cases h0:d+10000*valN l=0
   · have hl:valN l=0:=by omega
     rw[hl,ofN_zero] at ihl;rw[h0,ofN_zero,if_pos ⟨by omega,ihl.symm⟩]
   · rw[ofN_pos (by omega),show(d+10000*valN l)%10000=d by omega,show(d+10000*valN l)/10000=valN l by omega,ihl,if_neg]
     rintro⟨rfl,hn⟩;rw[←ihl,ofN_eq_nil] at hn;omega
theorem valN_append (a b:List Nat):valN (a++b)=valN a+10000^a.length*valN b:=by
 induction a with
 |nil=>simp[valN]
 | cons d a ih=>
   rw[List.cons_append,valN,valN,ih,List.length_cons,Nat.pow_succ,Nat.mul_add,Nat.mul_comm (10000^a.length) 10000,Nat.mul_assoc];omega
theorem valN_lt {l:List Nat} (h:Grp l):valN l<10000^l.length:=by
 induction l with
 |nil=>simp[valN]
 | cons d l ih=>
   have hd:=h d (by simp);have:=ih fun x hx=>h x (by simp[hx]);rw[valN,List.length_cons,Nat.pow_succ];omega
theorem trimN_snoc0 (l:List Nat):trimN (l++[0])=trimN l:=by
 induction l with
 |nil=>rfl
 |cons d l ih=>rw[List.cons_append,trimN,trimN,ih]
theorem trimN_snoc (l:List Nat) {d:Nat} (h:d≠0):trimN (l++[d])=l++[d]:=by
 induction l with
 |nil=>show trimN [d]=[d];unfold trimN;rw[if_neg (fun q=>h q.1)];rfl
 |cons e l ih=>rw[List.cons_append,trimN,ih,if_neg (fun q=>by simp at q)]
theorem ofN_len_lt {a b:Nat} (h:(ofN a).length<(ofN b).length):a<b:=by
 apply Classical.byContradiction;intro hn;have hlt:=valN_lt (ofN_grp a);rw[valN_ofN] at hlt
 have key:∀n:Nat,0<n→10000^((ofN n).length-1)≤n:=by
  intro n
  induction n using Nat.strongRecOn with
  | ind n ih=>
    intro hp;rw[ofN_pos hp,List.length_cons,Nat.add_sub_cancel];rcases Nat.eq_zero_or_pos (n/10000) with h0|h0
    · rw[h0,ofN_zero];simp;omega
    · have:=ih (n/10000) (by omega) h0
      have hl:0<(ofN (n/10000)).length:=by
       rw[ofN_pos h0];simp
      (have e:(ofN (n/10000)).length=(ofN (n/10000)).length-1+1:=by omega);rw[e,Nat.pow_succ];omega
 have hb:0<b:=by
  rcases Nat.eq_zero_or_pos b with rfl|q
  · rw[ofN_zero] at h;simp at h
  · exact q
 have h1:=key b hb;have h2:10000^(ofN a).length≤10000^((ofN b).length-1):=Nat.pow_le_pow_right (by decide) (by omega);omega
def cmpI (a b:Nat):Int:=if a<b then -1 else if b<a then 1 else 0
theorem cmp_top {l m:List Nat} {i:Nat} (hl:Grp l) (hm:Grp m) (hi:i<l.length) (hlm:l.length=m.length) (hd:l.drop (i+1)=m.drop (i+1)) (hne:l[i]≠m[i]):cmpI (valN l) (valN m)=cmpI (l[i]) (m[i]):=by
 have e1:l=l.take i++l[i]::l.drop (i+1):=by rw[List.getElem_cons_drop,List.take_append_drop]
 have e2:m=m.take i++m[i]::m.drop (i+1):=by rw[List.getElem_cons_drop,List.take_append_drop]
 have v1:valN l=valN (l.take i)+10000^i*(l[i]+10000*valN (l.drop (i+1))):=by
  conv=>lhs;rw[e1]
  rw[valN_append,valN,List.length_take,Nat.min_eq_left (by omega)]
 have v2:valN m=valN (m.take i)+10000^i*(m[i]+10000*valN (m.drop (i+1))):=by
  conv=>lhs;rw[e2]
  rw[valN_append,valN,List.length_take,Nat.min_eq_left (by omega)]
 have b1:=valN_lt (l:=l.take i) fun d hd=>hl d (List.mem_of_mem_take hd);have b2:=valN_lt (l:=m.take i) fun d hd=>hm d (List.mem_of_mem_take hd);rw[List.length_take,Nat.min_eq_left (by omega)] at b1 b2;rw[hd] at v1;rw[v1,v2];generalize valN (l.take i)=x1 at*;generalize valN (m.take i)=x2 at*;generalize valN (m.drop (i+1))=y at*;generalize l[i]=p at*;generalize m[i]=q at*;generalize 10000^i=t at*;unfold cmpI;rcases Nat.lt_or_gt_of_ne hne with h|h
 · have:t*(p+10000*y)+t≤t*(q+10000*y):=by rw[←Nat.mul_succ];exact Nat.mul_le_mul_left _ (by omega)
   rw[if_pos (by omega),if_pos h]
 · have:t*(q+10000*y)+t≤t*(p+10000*y):=by rw[←Nat.mul_succ];exact Nat.mul_le_mul_left _ (by omega)
   rw[if_neg (by omega),if_pos (by omega),if_neg (by omega),if_pos h]
def vI:List Int→Int
 |[]=>0
 |d::l=>d+10000*vI l
structure FInv (T:Int) (gs:List Int) (i:Nat) (out:List Nat) (c:Int):Prop where
 grp:Grp out
 len:out.length=i
 val:(valN out:Int)+(10000:Int)^i*(c+vI (gs.drop i))=T
theorem FInv.start (gs:List Int):FInv (vI gs) gs 0 [] 0:=⟨fun d hd=>(by cases hd),rfl,by simp[valN]⟩
theorem drop_getD (gs:List Int) (i:Nat):vI (gs.drop i)=gs.getD i 0+10000*vI (gs.drop (i+1)):=by
 rcases Nat.lt_or_ge i gs.length with h|h
 · rw[List.drop_eq_getElem_cons h,vI,List.getD_eq_getElem?_getD,List.getElem?_eq_getElem h];rfl
 · rw[List.drop_eq_nil_of_le h,List.drop_eq_nil_of_le (by omega),List.getD_eq_getElem?_getD,List.getElem?_eq_none h];rfl
theorem pow_cast (i:Nat):((10000^i:Nat):Int)=(10000:Int)^i:=by
 induction i with
 |zero=>rfl
 |succ i ih=>rw[Nat.pow_succ,Int.pow_succ,Int.natCast_mul,ih];rfl
theorem FInv.step {T:Int} {gs:List Int} {i:Nat} {out:List Nat} {c:Int} (h:FInv T gs i out c) {d:Nat} {c':Int} (hd:d<10000) (hs:gs.getD i 0+c=(d:Int)+10000*c'):FInv T gs (i+1) (out++[d]) c':=by
 refine⟨fun x hx=> ?_,by rw[List.length_append,h.len];rfl,?_⟩
 · rcases List.mem_append.1 hx with q|q
   · exact h.grp x q
   · rw[List.mem_singleton.1 q];exact hd
 · have hv:=h.val
   rw[drop_getD gs i] at hv;rw[valN_append,h.len,←hv,Int.pow_succ,Int.natCast_add,Int.natCast_mul,pow_cast];show(valN out:Int)+(10000:Int)^i*((d+10000*0:Nat):Int)+_=_;(have e:c+(gs.getD i 0+10000*vI (gs.drop (i+1)))=(d:Int)+10000*(c'+vI (gs.drop (i+1))):=by omega);rw[e,Int.mul_add ((10000:Int)^i) (d:Int),Int.mul_assoc];simp only[Nat.mul_zero,Nat.add_zero];omega
theorem FInv.carry {T:Int} {gs:List Int} {i:Nat} {out:List Nat} {c:Int} (h:FInv T gs i out c) (hT:0≤T) (hi:gs.length≤i):0≤c:=by
 have hv:=h.val;rw[List.drop_eq_nil_of_le hi] at hv;have hb:=valN_lt h.grp;rw[h.len] at hb;have hb':(valN out:Int)<(10000:Int)^i:=by rw[←pow_cast];omega
 apply Classical.byContradiction;intro hn;have hp:(0:Int)≤(10000:Int)^i:=by rw[←pow_cast];omega
 have:(10000:Int)^i*(c+vI [])≤(10000:Int)^i*(-1):=Int.mul_le_mul_of_nonneg_left (by show c+0≤ -1;omega) hp;omega
theorem FInv.done {T:Int} {gs:List Int} {i:Nat} {out:List Nat} (h:FInv T gs i out 0) (hi:gs.length≤i) {n:Nat} (hn:T=n):trimN out=ofN n:=by
 have hv:=h.val;rw[List.drop_eq_nil_of_le hi] at hv
 have:valN out=n:=by
  have e:(10000:Int)^i*(0+vI [])=0:=by show _*(0+0)=_;simp
  omega
 rw[←ofN_valN h.grp,this]
def gsum (l m:List Nat):List Int:=(List.range (max l.length m.length)).map fun i=>((l.getD i 0:Nat):Int)+(m.getD i 0:Nat)
def gsub (l m:List Nat):List Int:=(List.range l.length).map fun i=>((l.getD i 0:Nat):Int)-(m.getD i 0:Nat)
def gmul (l:List Nat) (k:Nat):List Int:=(List.range l.length).map fun i=>((l.getD i 0:Nat):Int)*k
theorem vI_range {f:Nat→Int} (n:Nat):∀k,vI ((List.range' k (n+1)).map f)=f k+10000*vI ((List.range' (k+1) n).map f):=fun k=>by rw[List.range'_succ,List.map_cons,vI]
theorem vI_lin (f g:Nat→Int) (a b:Int):∀n k,vI ((List.range' k n).map fun i=>a*f i+b*g i)=a*vI ((List.range' k n).map f)+b*vI ((List.range' k n).map g):=by
 intro n
 induction n with
 |zero=>intro k;simp[vI]
 | succ n ih=>
   intro k;rw[vI_range,vI_range,vI_range,ih (k+1)];simp only[Int.mul_add];(have e1:a*(10000*vI ((List.range' (k+1) n).map f))=10000*(a*vI ((List.range' (k+1) n).map f)):=by rw[←Int.mul_assoc,Int.mul_comm a,Int.mul_assoc]);(have e2:b*(10000*vI ((List.range' (k+1) n).map g))=10000*(b*vI ((List.range' (k+1) n).map g)):=by rw[←Int.mul_assoc,Int.mul_comm b,Int.mul_assoc]);rw[e1,e2];omega
theorem vI_groups (l:List Nat):∀n k,l.length≤k+n→vI ((List.range' k n).map fun i=>((l.getD i 0:Nat):Int))=(valN (l.drop k):Int):=by
 intro n
 induction n with
 |zero=>intro k h;rw[List.drop_eq_nil_of_le (by omega)];rfl
 | succ n ih=>
   intro k h;rw[vI_range,ih (k+1) (by omega)];rcases Nat.lt_or_ge k l.length with q|q
   · rw[List.drop_eq_getElem_cons q,valN,List.getD_eq_getElem?_getD,List.getElem?_eq_getElem q]
     show((l[k]:Nat):Int)+_=_;omega
   · rw[List.drop_eq_nil_of_le q,List.drop_eq_nil_of_le (by omega),List.getD_eq_getElem?_getD,List.getElem?_eq_none q]
     rfl
theorem gsum_val (l m:List Nat):vI (gsum l m)=(valN l:Int)+valN m:=by
 unfold gsum;have h:=vI_lin (fun i=>((l.getD i 0:Nat):Int)) (fun i=>((m.getD i 0:Nat):Int)) 1 1 (max l.length m.length) 0;simp only[Int.one_mul] at h;rw[List.range_eq_range',h,vI_groups l _ 0 (by omega),vI_groups m _ 0 (by omega),List.drop_zero,List.drop_zero]
theorem gsub_val (l m:List Nat) (h:m.length≤l.length):vI (gsub l m)=(valN l:Int)-valN m:=by
 unfold gsub;have h1:=vI_lin (fun i=>((l.getD i 0:Nat):Int)) (fun i=>((m.getD i 0:Nat):Int)) 1 (-1) l.length 0;simp only[Int.one_mul,Int.neg_mul,←Int.sub_eq_add_neg] at h1;rw[List.range_eq_range',h1,vI_groups l _ 0 (by omega),vI_groups m _ 0 (by omega),List.drop_zero,List.drop_zero]
theorem gmul_val (l:List Nat) (k:Nat):vI (gmul l k)=(valN l:Int)*k:=by
 unfold gmul;have h1:=vI_lin (fun i=>((l.getD i 0:Nat):Int)) (fun _=>0) (k:Int) 0 l.length 0;simp only[Int.zero_mul,Int.add_zero,Int.mul_comm (k:Int)] at h1;rw[List.range_eq_range',h1,vI_groups l _ 0 (by omega),List.drop_zero]
end Go.Proofs.YteeifhlhpiimoaaGreatDoor
end
section
namespace Go.Proofs.YteeifhlhpiimoaaGreatDoor
open Go Go.RowKit
structure Turns (Z:Nat→Prop) (A B:World):Prop where
 os:B.os=A.os
 tape:B.tape=A.tape
 output:B.output=A.output
 size:A.heap.size≤B.heap.size
 block:∀k,k<A.heap.size→¬Z k→B.heap[k]?=A.heap[k]?
theorem Turns.refl (Z:Nat→Prop) (A:World):Turns Z A A:=⟨rfl,rfl,rfl,Nat.le_refl _,fun _ _ _=>rfl⟩
theorem Turns.trans {Z:Nat→Prop} {A B C:World} (h:Turns Z A B) (k:Turns Z B C):Turns Z A C:=
 ⟨k.os.trans h.os,k.tape.trans h.tape,k.output.trans h.output,Nat.le_trans h.size k.size,fun i hi hz=>(k.block i (Nat.lt_of_lt_of_le hi h.size) hz).trans (h.block i hi hz)⟩
theorem Turns.mono {Z Z':Nat→Prop} {A B:World} (h:Turns Z A B) (hz:∀k,Z k→Z' k):Turns Z' A B:=
 ⟨h.os,h.tape,h.output,h.size,fun k hk hn=>h.block k hk (fun e=>hn (hz k e))⟩
theorem Turns.alloc {Z:Nat→Prop} (A:World) (o:Obj):Turns Z A (A.alloc o):=⟨rfl,rfl,rfl,by simp,fun k hk _=>Below.heap_alloc A o k hk⟩
theorem Turns.setCell {Z:Nat→Prop} (A:World) (p:Addr) (v:Value) (hz:Z p.block):Turns Z A (A.setCell p v):=
 ⟨rfl,rfl,rfl,by simp[World.setCell],fun k _ hn=>Below.heap_setCell A p v k (fun e=>hn (by rw[e];exact hz))⟩
theorem Turns.putObj {Z:Nat→Prop} (A:World) (l:Nat) (o:Obj) (hz:Z l):Turns Z A (A.putObj l o):=
 ⟨rfl,rfl,rfl,by simp,fun k _ hn=>World.putObj_heap_other (fun e=>hn (by rw[e];exact hz))⟩
theorem Turns.drew {Z:Nat→Prop} (A:World):Turns Z A A.drew:=⟨rfl,rfl,rfl,Nat.le_refl _,fun _ _ _=>rfl⟩
theorem Turns.of_below {Z:Nat→Prop} {A B:World} (h:Below A.heap.size A B):Turns Z A B:=⟨h.os,h.tape,h.output,h.size,fun k hk _=>h.block k hk⟩
theorem Turns.cell {Z:Nat→Prop} {A B:World} (h:Turns Z A B) {p:Addr} (hp:p.block<A.heap.size) (hz:¬Z p.block):B.cell? p=A.cell? p:=World.cell?_of_block (w:=A) (h.block p.block hp hz)
theorem Turns.frozen {Z:Nat→Prop} {A B:World} (h:Turns Z A B) {p:Addr} (hp:p.block<A.heap.size) (hz:¬Z p.block):B.frozen? p=A.frozen? p:=World.frozen?_of_block (w:=A) (h.block p.block hp hz)
theorem Turns.boxed {Z:Nat→Prop} {A B:World} (h:Turns Z A B) {b:Nat} {t:TypeId} {v:Value} (hb:Boxed A b t v) (hz:¬Z b):Boxed B b t v:=(h.block b hb.lt hz).trans hb
theorem Turns.below {Z:Nat→Prop} {n:Nat} {w A B:World} (h:Turns Z A B) (hb:Below n w A) (hn:n≤w.heap.size) (hz:∀k,Z k→n≤k):Below n w B:=
 hb.trans ⟨h.os,h.tape,h.output,h.size,fun k hk=>h.block k (Nat.lt_of_lt_of_le hk (Nat.le_trans hn hb.size)) (fun e=>by have:=hz k e;omega)⟩
theorem Turns.ownsRow {Z:Nat→Prop} {A B:World} (h:Turns Z A B) {base:Nat} {e:TypeId} {size:Nat} {v:Value} {n:Nat} {xs:List Value} (hr:A.ownsRow base e size v n xs) (hz:∀k,Z k→k<base):B.ownsRow base e size v n xs:=by
 obtain⟨h1,h2⟩:=hr;refine⟨h1,?_⟩;rcases h2 with h2|⟨g,cap,cur,hv,hg,hh,r⟩
 · exact Or.inl h2
 · exact Or.inr ⟨g,cap,cur,hv,hg,(h.block g (Array.getElem?_eq_some_iff.1 hh).1 (fun e=>by have:=hz g e;omega)).trans hh,r⟩
def IterZ {α:Type} (P:Program) (g:Nat) (lb:Array Value) (encs:α→Array Value) (Z:Nat→Prop) (Kp:World→World→Prop) (S Sp:List α→Prop) (N:Nat) (w:World):Prop:=
 ∀ (l:Nat) (J Jx:List α→World→Prop) (W:World),Below w.heap.size w W→
  (∀s A B,J s A→Turns Z A B→J s B)→(∀s A B,Jx s A→Turns Z A B→Jx s B)→
  (∀pre x W1,J pre W1→pre.length<N→YieldAt Fence.wide 1 P l (encs x) W1 fun e W'=>
    (e=.returned (.bool true)∧J (pre++[x]) W'∧Kp W1 W')∨(e=.returned (.bool false)∧Jx (pre++[x]) W'))→
  J [] W→
  CallsIn Fence.wide 2 P g (#[.func (.yield l) #[] #[]]++lb) W fun e W'=>(∃v,e=.returned v)∧((∃xs,S xs∧J xs W')∨(∃pre,Sp pre∧Jx pre W'))
def postZ {α:Type} (B:Nat) (Kp:World→World→Prop) (I:List α→World→Prop) (Ix:Code→List α→World→Prop) (xs:List α) (W:World):Exit→Act→World→Prop
 |.normal,_,W'=>KeepsFrom B W W'∧Kp W W'∧I xs W'
 |.ret,_,W'=>KeepsFrom B W W'∧Ix .ret xs W'
 |.exit id,_,W'=>KeepsFrom B W W'∧Ix (.exit id) xs W'
 |.goto t,_,W'=>KeepsFrom B W W'∧Ix (.goto t) xs W'
 |.panic _,_,_=>False
 |.outgrown,_,_=>False
theorem KeepsFrom.of_below {B:Nat} {W W':World} (h:Below W.heap.size W W'):KeepsFrom B W W':=
 ⟨h.size,fun k _ _ hk _=>(h.block k (Array.getElem?_eq_some_iff.1 hk).1).trans hk⟩
def books (w:World) (k:Nat):Prop:=k=w.heap.size∨k=w.heap.size+1
theorem wp_rangeZ {P:Program} {α:Type} {g:Operand} {ps:Array Tmp} {assign body:Code} {Q:Exit→Act→World→Prop} {a:Act} {w:World}
 {gf:Nat} {lb:Array Value} (hg:a.eval g=.func (.func gf) #[] lb) (eg:∀args w,(callFunc gf args).run P w=.ok (.enter gf args) w)
 {encs:α→Array Value} {Z:Nat→Prop} {Kp:World→World→Prop} {S Sp:List α→Prop} {N:Nat} {w0:World} (hseq:IterZ P gf lb encs Z Kp S Sp N w0) (hb0:Below w0.heap.size w0 w)
 (hZ:∀k,Z k→k<w.heap.size) (hps:∀x,(encs x).size=ps.size)
 (hKt:∀{A B C:World},Kp A B→Kp B C→Kp A C) (hKb:∀(W:World) (o:Obj),Kp W (W.putObj (w.heap.size+1) o))
 (I:List α→World→Prop) (Ix:Code→List α→World→Prop)
 (hI:∀s A B,I s A→Turns (fun k=>Z k∨books w k) A B→I s B) (hIx:∀c s A B,Ix c s A→Turns (fun k=>Z k∨books w k) A B→Ix c s B) (h0:I [] w) (a₁:α→Act)
 (hassign:∀(l:Nat) (x:α) (W:World) (K:Act→World→Prop),K (a₁ x) W→
   assign.wpIn (Fence.wide.inRound l) 1 P (Exit.then K (fun _ _ _=>False)) {tmps:=(ps.zip (encs x)).foldl (fun t (p,v)=>t.setIfInBounds p v) a.tmps,defers:=[]} W)
 (hbody:∀(l:Nat) (pre:List α) (x:α) (W:World),w.heap.size+2≤W.heap.size→I pre W→pre.length<N→body.wpIn (Fence.wide.inRound l) 1 P (postZ w.heap.size Kp I Ix (pre++[x]) W) (a₁ x) W)
 (hdone:∀(xs:List α) (W:World),S xs→I xs W→W.heap[w.heap.size]?=some (.deferred (some []))→Q .normal {a with defers:={target:=.collected w.heap.size,args:=#[]}::a.defers} W)
 (hstop:∀(c:Code) (pre:List α) (W:World),Sp pre→Ix c pre W→W.heap[w.heap.size]?=some (.deferred (some []))→c.wpIn Fence.wide 3 P Q {a with defers:={target:=.collected w.heap.size,args:=#[]}::a.defers} W):
 (Code.rangeFunc g ps assign body).wpIn Fence.wide 3 P Q a w:=by
 refine wpIn_rangeFunc fun fn hfn=> ?_;obtain⟨rc,hrc⟩:∃rc:LoopState→Option Code→Loop,rc=fun st pe=>{state:=st,pending:=pe,fn,tmps:=a.tmps,params:=ps,assign,body,defers:=w.heap.size}:=⟨_,rfl⟩;obtain⟨W1,hW1⟩:=oQ ((w.alloc (.deferred (some []))).alloc (.loop (rc .ready none)));have hsz:W1.heap.size=w.heap.size+2:=by rw[←hW1];simp
 have hL1:W1.heap[w.heap.size+1]?=some (.loop (rc .ready none)):=by
  have:=World.alloc_heap_new (w.alloc (.deferred (some []))) (.loop (rc .ready none));rw[World.size_alloc] at this;rw[←hW1];exact this
 have hD1:W1.heap[w.heap.size]?=some (.deferred (some [])):=by
  rw[←hW1];exact(Below.heap_alloc _ _ _ (by simp)).trans (World.alloc_heap_new w _)
 have hT1:Turns (fun k=>Z k∨books w k) w W1:=by rw[←hW1];exact(Turns.alloc _ _).trans (Turns.alloc _ _)
 have hb1:Below w0.heap.size w0 W1:=by
  rw[←hW1];exact(hb0.alloc hb0.size _).alloc (by have:=hb0.size;simp;omega) _
 have hnZ0:¬Z w.heap.size:=fun e=>by have:=hZ _ e;omega
 have hnZ1:¬Z (w.heap.size+1):=fun e=>by have:=hZ _ e;omega
 refine⟨w.heap.size+1,[{target:=.collected w.heap.size,args:=#[]}],W1,{target:=.fn (.func gf) lb,args:=#[.func (.yield (w.heap.size+1)) #[] #[]]},W1,gf,
  #[.func (.yield (w.heap.size+1)) #[] #[]]++lb,W1,?_,?_,fun _ _=>trivial,?_,fun h=>by simp[Fence.wide] at h,?_⟩
 · rw[←hW1,hrc];exact run_enterLoop_outer _ _ _ _ _
 · simp only[resolve,hg]
   simp[go_sem]
 · simp[invoke,go_sem,eg]
 · refine(hseq (w.heap.size+1)
    (fun pre W=>I pre W∧w.heap.size+2≤W.heap.size∧W.heap[w.heap.size+1]?=some (.loop (rc .ready none))∧W.heap[w.heap.size]?=some (.deferred (some [])))
    (fun pre W=> ∃c,Ix c pre W∧w.heap.size+2≤W.heap.size∧W.heap[w.heap.size+1]?=some (.loop (rc .done (some c)))∧W.heap[w.heap.size]?=some (.deferred (some [])))
    W1 hb1
    (fun s A B h t=>⟨hI s A B h.1 (t.mono fun _ e=>.inl e),Nat.le_trans h.2.1 t.size,(t.block _ (by omega) hnZ1).trans h.2.2.1,(t.block _ (by omega) hnZ0).trans h.2.2.2⟩)
    (fun s A B h t=>by
      obtain⟨c,hc,hs,hl,hd⟩:=h
      exact⟨c,hIx c s A B hc (t.mono fun _ e=>.inl e),Nat.le_trans hs t.size,(t.block _ (by omega) hnZ1).trans hl,(t.block _ (by omega) hnZ0).trans hd⟩)
    ?_ ⟨hI _ _ _ h0 hT1,by omega,hL1,hD1⟩).mono ?_
   · rintro pre x W ⟨hi,hs,hl,hd⟩ hlen
     have hy:=run_yield (P:=P) (args:=encs x) hl (by rw[hrc];exact hps x);rw[hrc] at hy;refine⟨fn,_,assign,body,hy,roundIn_of_wpIn hfn (hassign _ x W _ ⟨_,run_beginRound hl (by rw[hrc]),?_⟩)⟩;obtain⟨W2,hW2⟩:∃W2,W.putObj (w.heap.size+1) (.loop {rc .ready none with state:=.busy})=W2:=⟨_,rfl⟩;(have hs2:w.heap.size+2≤W2.heap.size:=by rw[←hW2];simpa using hs);(have hl2:W2.heap[w.heap.size+1]?=some (.loop {rc .ready none with state:=.busy}):=by rw[←hW2];exact World.putObj_heap_same (by omega));(have hd2:W2.heap[w.heap.size]?=some (.deferred (some [])):=by rw[←hW2];exact(World.putObj_heap_other (by omega)).trans hd);(have hi2:I pre W2:=by rw[←hW2];exact hI _ _ _ hi (Turns.putObj _ _ _ (.inr (.inr rfl))));(have hk2:Kp W W2:=by rw[←hW2];exact hKb _ _);rw[hW2];refine wpIn_mono (hbody _ pre x W2 hs2 hi2 hlen) ?_
     have fin:∀(jump:Option Code) (W3:World),KeepsFrom w.heap.size W2 W3→∃W4,W4=W3.putObj (w.heap.size+1) (.loop (rc (if jump.isNone then .ready else .done) jump))∧
      (Instr.endRound (w.heap.size+1) jump).run P W3=.ok (.bool jump.isNone) W4∧Turns (fun k=>Z k∨books w k) W3 W4∧w.heap.size+2≤W4.heap.size∧
      W4.heap[w.heap.size+1]?=some (.loop (rc (if jump.isNone then .ready else .done) jump))∧W4.heap[w.heap.size]?=some (.deferred (some [])):=by
      intro jump W3 hk;have hl3:=hk.same _ _ (by omega) hl2 rfl;have hd3:=hk.same _ _ (by omega) hd2 rfl;have hs3:=Nat.le_trans hs2 hk.size;have he:=run_endRound (P:=P) jump hl3;rw[hrc] at he⊢;exact⟨_,rfl,he,Turns.putObj _ _ _ (.inr (.inr rfl)),by simpa using hs3,World.putObj_heap_same (by omega),(World.putObj_heap_other (by omega)).trans hd3⟩
     rintro e a3 W3 hp
     cases e with
     | normal=>
       obtain⟨W4,e4,hr,ht,hs4,hl4,hd4⟩:=fin none W3 hp.1
       exact⟨_,W4,hr,.inl ⟨rfl,⟨hI _ _ _ hp.2.2 ht,hs4,hl4,hd4⟩,hKt hk2 (hKt hp.2.1 (by rw[e4];exact hKb _ _))⟩⟩
     | ret=>
       obtain⟨W4,_,hr,ht,hs4,hl4,hd4⟩:=fin (some .ret) W3 hp.1
       exact⟨_,W4,hr,.inr ⟨rfl,.ret,hIx _ _ _ _ hp.2 ht,hs4,hl4,hd4⟩⟩
     | exit id=>
       obtain⟨W4,_,hr,ht,hs4,hl4,hd4⟩:=fin (some (.exit id)) W3 hp.1
       exact⟨_,W4,hr,.inr ⟨rfl,.exit id,hIx _ _ _ _ hp.2 ht,hs4,hl4,hd4⟩⟩
     | goto t=>
       obtain⟨W4,_,hr,ht,hs4,hl4,hd4⟩:=fin (some (.goto t)) W3 hp.1
       exact⟨_,W4,hr,.inr ⟨rfl,.goto t,hIx _ _ _ _ hp.2 ht,hs4,hl4,hd4⟩⟩
     |panic ch=>exact hp.elim
     |outgrown=>exact hp.elim
   · rintro e W2 ⟨⟨v,rfl⟩,(⟨xs,hS,hi,hs,hl,hd⟩|⟨pre,hSp,c,hi,hs,hl,hd⟩)⟩
     · have he:=run_endLoop (P:=P) hl (by rw[hrc];simp)
       rw[hrc] at he;exact⟨none,_,he,hdone _ _ hS (hI _ _ _ hi (Turns.putObj _ _ _ (.inr (.inr rfl)))) ((World.putObj_heap_other (by omega)).trans hd)⟩
     · have he:=run_endLoop (P:=P) hl (by rw[hrc];simp)
       rw[hrc] at he;exact⟨some c,_,he,hstop c pre _ hSp (hIx _ _ _ _ hi (Turns.putObj _ _ _ (.inr (.inr rfl)))) ((World.putObj_heap_other (by omega)).trans hd)⟩
theorem wp_rangeZA {P:Program} {α:Type} {g:Operand} {ps:Array Tmp} {assign body:Code} {Q:Exit→Act→World→Prop} {a:Act} {w:World}
 {gf:Nat} {lb:Array Value} (hg:a.eval g=.func (.func gf) #[] lb) (eg:∀args w,(callFunc gf args).run P w=.ok (.enter gf args) w)
 {encs:α→Array Value} {Z:Nat→Prop} {Kp:World→World→Prop} {S Sp:List α→Prop} {N:Nat} {w0:World} (hseq:IterZ P gf lb encs Z Kp S Sp N w0) (hb0:Below w0.heap.size w0 w)
 (hZ:∀k,Z k→k<w.heap.size) (hps:∀x,(encs x).size=ps.size)
 (hKt:∀{A B C:World},Kp A B→Kp B C→Kp A C) (hKb:∀(W:World) (o:Obj),Kp W (W.putObj (w.heap.size+1) o))
 (I:List α→World→Prop) (Ix:Code→List α→World→Prop)
 (hI:∀s A B,I s A→Turns (fun k=>Z k∨books w k) A B→I s B) (hIx:∀c s A B,Ix c s A→Turns (fun k=>Z k∨books w k) A B→Ix c s B) (h0:I [] w) (R:α→Act→World→Prop)
 (hR:∀x a' A B,R x a' A→Turns (fun k=>Z k∨books w k) A B→R x a' B) (hKB:∀A B:World,w.heap.size+2≤A.heap.size→Below A.heap.size A B→Kp A B)
 (hassign:∀(l:Nat) (x:α) (W:World) (K:Act→World→Prop),w.heap.size+2≤W.heap.size→(∀a' W',R x a' W'→Below W.heap.size W W'→K a' W')→
   assign.wpIn (Fence.wide.inRound l) 1 P (Exit.then K (fun _ _ _=>False)) {tmps:=(ps.zip (encs x)).foldl (fun t (p,v)=>t.setIfInBounds p v) a.tmps,defers:=[]} W)
 (hbody:∀(l:Nat) (pre:List α) (x:α) (a':Act) (W:World),w.heap.size+2≤W.heap.size→I pre W→R x a' W→pre.length<N→body.wpIn (Fence.wide.inRound l) 1 P (postZ w.heap.size Kp I Ix (pre++[x]) W) a' W)
 (hdone:∀(xs:List α) (W:World),S xs→I xs W→W.heap[w.heap.size]?=some (.deferred (some []))→Q .normal {a with defers:={target:=.collected w.heap.size,args:=#[]}::a.defers} W)
 (hstop:∀(c:Code) (pre:List α) (W:World),Sp pre→Ix c pre W→W.heap[w.heap.size]?=some (.deferred (some []))→c.wpIn Fence.wide 3 P Q {a with defers:={target:=.collected w.heap.size,args:=#[]}::a.defers} W):
 (Code.rangeFunc g ps assign body).wpIn Fence.wide 3 P Q a w:=by
 refine wpIn_rangeFunc fun fn hfn=> ?_;obtain⟨rc,hrc⟩:∃rc:LoopState→Option Code→Loop,rc=fun st pe=>{state:=st,pending:=pe,fn,tmps:=a.tmps,params:=ps,assign,body,defers:=w.heap.size}:=⟨_,rfl⟩;obtain⟨W1,hW1⟩:=oQ ((w.alloc (.deferred (some []))).alloc (.loop (rc .ready none)));have hsz:W1.heap.size=w.heap.size+2:=by rw[←hW1];simp
 have hL1:W1.heap[w.heap.size+1]?=some (.loop (rc .ready none)):=by
  have:=World.alloc_heap_new (w.alloc (.deferred (some []))) (.loop (rc .ready none));rw[World.size_alloc] at this;rw[←hW1];exact this
 have hD1:W1.heap[w.heap.size]?=some (.deferred (some [])):=by
  rw[←hW1];exact(Below.heap_alloc _ _ _ (by simp)).trans (World.alloc_heap_new w _)
 have hT1:Turns (fun k=>Z k∨books w k) w W1:=by rw[←hW1];exact(Turns.alloc _ _).trans (Turns.alloc _ _)
 have hb1:Below w0.heap.size w0 W1:=by
  rw[←hW1];exact(hb0.alloc hb0.size _).alloc (by have:=hb0.size;simp;omega) _
 have hnZ0:¬Z w.heap.size:=fun e=>by have:=hZ _ e;omega
 have hnZ1:¬Z (w.heap.size+1):=fun e=>by have:=hZ _ e;omega
 refine⟨w.heap.size+1,[{target:=.collected w.heap.size,args:=#[]}],W1,{target:=.fn (.func gf) lb,args:=#[.func (.yield (w.heap.size+1)) #[] #[]]},W1,gf,
  #[.func (.yield (w.heap.size+1)) #[] #[]]++lb,W1,?_,?_,fun _ _=>trivial,?_,fun h=>by simp[Fence.wide] at h,?_⟩
 · rw[←hW1,hrc];exact run_enterLoop_outer _ _ _ _ _
 · simp only[resolve,hg]
   simp[go_sem]
 · simp[invoke,go_sem,eg]
 · refine(hseq (w.heap.size+1)
    (fun pre W=>I pre W∧w.heap.size+2≤W.heap.size∧W.heap[w.heap.size+1]?=some (.loop (rc .ready none))∧W.heap[w.heap.size]?=some (.deferred (some [])))
    (fun pre W=> ∃c,Ix c pre W∧w.heap.size+2≤W.heap.size∧W.heap[w.heap.size+1]?=some (.loop (rc .done (some c)))∧W.heap[w.heap.size]?=some (.deferred (some [])))
    W1 hb1
    (fun s A B h t=>⟨hI s A B h.1 (t.mono fun _ e=>.inl e),Nat.le_trans h.2.1 t.size,(t.block _ (by omega) hnZ1).trans h.2.2.1,(t.block _ (by omega) hnZ0).trans h.2.2.2⟩)
    (fun s A B h t=>by
      obtain⟨c,hc,hs,hl,hd⟩:=h
      exact⟨c,hIx c s A B hc (t.mono fun _ e=>.inl e),Nat.le_trans hs t.size,(t.block _ (by omega) hnZ1).trans hl,(t.block _ (by omega) hnZ0).trans hd⟩)
    ?_ ⟨hI _ _ _ h0 hT1,by omega,hL1,hD1⟩).mono ?_
   · rintro pre x W ⟨hi,hs,hl,hd⟩ hlen
     have hy:=run_yield (P:=P) (args:=encs x) hl (by rw[hrc];exact hps x);rw[hrc] at hy;refine⟨fn,_,assign,body,hy,roundIn_of_wpIn hfn (hassign _ x W _ hs (fun a' W' hRa hbW=> ?_))⟩;have hl':W'.heap[w.heap.size+1]?=some (.loop (rc .ready none)):=(hbW.block _ (by omega)).trans hl;have hd':W'.heap[w.heap.size]?=some (.deferred (some [])):=(hbW.block _ (by omega)).trans hd;have hsW:=hbW.size;refine⟨_,run_beginRound hl' (by rw[hrc]),?_⟩;obtain⟨W2,hW2⟩:∃W2,W'.putObj (w.heap.size+1) (.loop {rc .ready none with state:=.busy})=W2:=⟨_,rfl⟩;(have hs2:w.heap.size+2≤W2.heap.size:=by rw[←hW2];simp;omega);(have hl2:W2.heap[w.heap.size+1]?=some (.loop {rc .ready none with state:=.busy}):=by rw[←hW2];exact World.putObj_heap_same (by omega));(have hd2:W2.heap[w.heap.size]?=some (.deferred (some [])):=by rw[←hW2];exact(World.putObj_heap_other (by omega)).trans hd');(have hi2:I pre W2:=by rw[←hW2];exact hI _ _ _ (hI _ _ _ hi (Turns.of_below hbW)) (Turns.putObj _ _ _ (.inr (.inr rfl))));(have hR2:R x a' W2:=by rw[←hW2];exact hR _ _ _ _ hRa (Turns.putObj _ _ _ (.inr (.inr rfl))));(have hk2:Kp W W2:=by rw[←hW2];exact hKt (hKB _ _ hs hbW) (hKb _ _));rw[hW2];refine wpIn_mono (hbody _ pre x a' W2 hs2 hi2 hR2 hlen) ?_
     have fin:∀(jump:Option Code) (W3:World),KeepsFrom w.heap.size W2 W3→∃W4,W4=W3.putObj (w.heap.size+1) (.loop (rc (if jump.isNone then .ready else .done) jump))∧
      (Instr.endRound (w.heap.size+1) jump).run P W3=.ok (.bool jump.isNone) W4∧Turns (fun k=>Z k∨books w k) W3 W4∧w.heap.size+2≤W4.heap.size∧
      W4.heap[w.heap.size+1]?=some (.loop (rc (if jump.isNone then .ready else .done) jump))∧W4.heap[w.heap.size]?=some (.deferred (some [])):=by
      intro jump W3 hk;have hl3:=hk.same _ _ (by omega) hl2 rfl;have hd3:=hk.same _ _ (by omega) hd2 rfl;have hs3:=Nat.le_trans hs2 hk.size;have he:=run_endRound (P:=P) jump hl3;rw[hrc] at he⊢;exact⟨_,rfl,he,Turns.putObj _ _ _ (.inr (.inr rfl)),by simpa using hs3,World.putObj_heap_same (by omega),(World.putObj_heap_other (by omega)).trans hd3⟩
     rintro e a3 W3 hp
     cases e with
     | normal=>
       obtain⟨W4,e4,hr,ht,hs4,hl4,hd4⟩:=fin none W3 hp.1
       exact⟨_,W4,hr,.inl ⟨rfl,⟨hI _ _ _ hp.2.2 ht,hs4,hl4,hd4⟩,hKt hk2 (hKt hp.2.1 (by rw[e4];exact hKb _ _))⟩⟩
     | ret=>
       obtain⟨W4,_,hr,ht,hs4,hl4,hd4⟩:=fin (some .ret) W3 hp.1
       exact⟨_,W4,hr,.inr ⟨rfl,.ret,hIx _ _ _ _ hp.2 ht,hs4,hl4,hd4⟩⟩
     | exit id=>
       obtain⟨W4,_,hr,ht,hs4,hl4,hd4⟩:=fin (some (.exit id)) W3 hp.1
       exact⟨_,W4,hr,.inr ⟨rfl,.exit id,hIx _ _ _ _ hp.2 ht,hs4,hl4,hd4⟩⟩
     | goto t=>
       obtain⟨W4,_,hr,ht,hs4,hl4,hd4⟩:=fin (some (.goto t)) W3 hp.1
       exact⟨_,W4,hr,.inr ⟨rfl,.goto t,hIx _ _ _ _ hp.2 ht,hs4,hl4,hd4⟩⟩
     |panic ch=>exact hp.elim
     |outgrown=>exact hp.elim
   · rintro e W2 ⟨⟨v,rfl⟩,(⟨xs,hS,hi,hs,hl,hd⟩|⟨pre,hSp,c,hi,hs,hl,hd⟩)⟩
     · have he:=run_endLoop (P:=P) hl (by rw[hrc];simp)
       rw[hrc] at he;exact⟨none,_,he,hdone _ _ hS (hI _ _ _ hi (Turns.putObj _ _ _ (.inr (.inr rfl)))) ((World.putObj_heap_other (by omega)).trans hd)⟩
     · have he:=run_endLoop (P:=P) hl (by rw[hrc];simp)
       rw[hrc] at he;exact⟨some c,_,he,hstop c pre _ hSp (hIx _ _ _ _ hi (Turns.putObj _ _ _ (.inr (.inr rfl)))) ((World.putObj_heap_other (by omega)).trans hd)⟩
theorem wp_rangeZB {P:Program} {α:Type} {g:Operand} {ps:Array Tmp} {assign body:Code} {Q:Exit→Act→World→Prop} {a:Act} {w:World}
 {gf:Nat} {lb:Array Value} (hg:a.eval g=.func (.func gf) #[] lb) (eg:∀args w,(callFunc gf args).run P w=.ok (.enter gf args) w)
 {encs:α→Array Value} {Z:Nat→Prop} {Kp:World→World→Prop} {S Sp:List α→Prop} {N:Nat} {w0:World} (hseq:IterZ P gf lb encs Z Kp S Sp N w0) (hb0:Below w0.heap.size w0 w)
 (hZ:∀k,Z k→k<w.heap.size) (hps:∀x,(encs x).size=ps.size)
 (hKt:∀{A B C:World},Kp A B→Kp B C→Kp A C) (hKb:∀(W:World) (o:Obj),Kp W (W.putObj (w.heap.size+1) o))
 (I:List α→World→Prop) (Ix:Code→List α→World→Prop)
 (hI:∀s A B,I s A→Turns (fun k=>Z k∨books w k) A B→I s B) (hIx:∀c s A B,Ix c s A→Turns (fun k=>Z k∨books w k) A B→Ix c s B) (h0:I [] w)
 (F:Nat→α→Act) (Rw:Nat→α→World→Prop) (hRw:∀b x A B,w.heap.size+2≤b→b<A.heap.size→Rw b x A→Turns (fun k=>Z k∨books w k) A B→Rw b x B)
 (hKB:∀A B:World,w.heap.size+2≤A.heap.size→Below A.heap.size A B→Kp A B)
 (hassign:∀(l:Nat) (x:α) (W:World) (b:Nat) (K:Act→World→Prop),W.heap.size=b→w.heap.size+2≤b→(∀W',Rw b x W'→Below b W W'→W'.heap.size=b+1→K (F b x) W')→
   assign.wpIn (Fence.wide.inRound l) 1 P (Exit.then K (fun _ _ _=>False)) {tmps:=(ps.zip (encs x)).foldl (fun t (p,v)=>t.setIfInBounds p v) a.tmps,defers:=[]} W)
 (hbody:∀(l:Nat) (pre:List α) (x:α) (b:Nat) (W:World),w.heap.size+2≤b→b<W.heap.size→I pre W→Rw b x W→pre.length<N→body.wpIn (Fence.wide.inRound l) 1 P (postZ w.heap.size Kp I Ix (pre++[x]) W) (F b x) W)
 (hdone:∀(xs:List α) (W:World),S xs→I xs W→W.heap[w.heap.size]?=some (.deferred (some []))→Q .normal {a with defers:={target:=.collected w.heap.size,args:=#[]}::a.defers} W)
 (hstop:∀(c:Code) (pre:List α) (W:World),Sp pre→Ix c pre W→W.heap[w.heap.size]?=some (.deferred (some []))→c.wpIn Fence.wide 3 P Q {a with defers:={target:=.collected w.heap.size,args:=#[]}::a.defers} W):
 (Code.rangeFunc g ps assign body).wpIn Fence.wide 3 P Q a w:=by
 refine wp_rangeZA hg eg hseq hb0 hZ hps hKt hKb I Ix hI hIx h0 (fun x a' W=> ∃b,a'=F b x∧w.heap.size+2≤b∧b<W.heap.size∧Rw b x W) ?_ hKB ?_ ?_ hdone hstop
 · rintro x a' A B ⟨b,e,h1,h2,h3⟩ ht
   exact⟨b,e,h1,Nat.lt_of_lt_of_le h2 ht.size,hRw b x A B h1 h2 h3 ht⟩
 · intro l x W K hs hK
   exact hassign l x W W.heap.size K rfl hs (fun W' h1 h2 h3=>hK _ W' ⟨_,rfl,hs,by omega,h1⟩ h2)
 · rintro l pre x a' W hs hi ⟨b,rfl,h1,h2,h3⟩ hl
   exact hbody l pre x b W h1 h2 hi h3 hl
end Go.Proofs.YteeifhlhpiimoaaGreatDoor
end
section
namespace Go.Proofs.YteeifhlhpiimoaaGreatDoor
open Go Go.RowKit Go.Shelf
attribute [local go_sem] Oper.semAt_some
def LsAt (w:World) (v:Value) (l:List Nat):Prop:=∃A c,v=.slice A l.length c∧l.length≤c∧c≤maxLen∧(A=none→c=0)∧LAt w w.heap.size A nv l
theorem LsAt.below {w w':World} {v:Value} {l:List Nat} (h:LsAt w v l) (hb:Below w.heap.size w w'):LsAt w' v l:=by
 obtain⟨A,c,rfl,h1,h2,h0,h3⟩:=h;exact⟨A,c,rfl,h1,h2,h0,(h3.below hb).more hb.size⟩
theorem LsAt.nil (w:World):LsAt w (.slice none 0 0) []:=⟨none,0,rfl,by simp,by unfold maxLen;omega,fun _=>rfl,LAt.nil⟩
theorem LsAt.drewN {w:World} {v:Value} {l:List Nat} (h:LsAt w v l) (n:Nat):LsAt (w.drewN n) v l:=h
def Fresh (B:Nat) (v:Value):Prop:=∀a n c,v=.slice (some a) n c→B≤a.block
theorem Fresh.nil (B:Nat):Fresh B (.slice none 0 0):=fun a n c h=>by cases h
theorem Fresh.cut {B n c k:Nat} {A:Option Addr} (h:Fresh B (.slice A n c)):Fresh B (.slice A k c):=fun a m d e=>by cases e;exact h a n c rfl
theorem Fresh.base {B B':Nat} {v:Value} (h:Fresh B v) (hb:B'≤B):Fresh B' v:=fun a n c e=>Nat.le_trans hb (h a n c e)
theorem OL.fresh {α:Type} {w:World} {B:Nat} {e:TypeId} {size:Nat} {f:α→List Value} {v:Value} {l:List α} (h:OL w B e size f v l):Fresh B v:=fun a n c he=>by
 rcases h.2 with⟨hn,_⟩|⟨g,cap,cur,hv,hb,_⟩
 · rw[hn] at he;cases he
 · rw[hv] at he;cases he;exact hb
theorem LsAt.of_ol {w:World} {B:Nat} {v:Value} {l:List Nat} (h:OL w B 3 1 (one nv) v l):LsAt w v l:=by
 obtain⟨A,c,rfl,h1,h2⟩:=h.slice;refine⟨A,c,rfl,h1,h2,fun e=> ?_,h.lat⟩;rcases h.2 with⟨he,_⟩|⟨g,cap,cur,he,_⟩
 · injection he
 · injection he with e1 _ _;rw[e] at e1;cases e1
theorem at_walk (A:Option Addr) (c:Nat) (l:List Nat) (n:Nat) (hn:l.length=n) (i:Nat) (w:World) (h:LAt w w.heap.size A nv l) (_hl:n≤1000000):
 Calls Tryz.prog 251 #[.slice A n c,.int .i64 (i:Int)] w fun e w'=>e=.returned (.int .i64 ((l.getD i 0:Nat):Int))∧w'=w:=by
 have HG:=hZ (rfl:l.getD i 0=l.getD i 0)
 by_cases hi:i<n
 · obtain⟨a,rfl,hab,hac⟩:=h.get (i:=i) (by omega)
   unfold nv at hac;(have hv:l.getD i 0=l[i]'(by omega):=by rw[List.getD_eq_getElem?_getD,List.getElem?_eq_getElem (by omega)];rfl);rw[hv];obtain⟨x,hx⟩:=oQ (l[i]'(by omega));rw[hx] at hac⊢;(have d1:decide ((i:Int)<(n:Int))=true:=by simp;omega);(have z1:(0:Int)≤(i:Int):=by omega);(have z2:(i:Int)<(n:Int):=by omega);clear HG hv hx hn h
   go_enter Tryz.func251,Tryz.ntmps251
   go_wp2_with fail;go_ret;exact⟨rfl,rfl⟩
 · have hv:l.getD i 0=0:=by rw[List.getD_eq_getElem?_getD,List.getElem?_eq_none (by omega)];rfl
   rw[hv];(have d1:decide ((i:Int)<(n:Int))=false:=by simp;omega);clear HG hv hn h
   go_enter Tryz.func251,Tryz.ntmps251
   go_wp2_with fail;go_ret;exact⟨rfl,rfl⟩
theorem trimN_take {l:List Nat} {k:Nat} (hk:k<l.length) (h:l[k]=0):trimN (l.take (k+1))=trimN (l.take k):=by
 rw[List.take_succ_eq_append_getElem hk,h,trimN_snoc0]
theorem trimN_take_ne {l:List Nat} {k:Nat} (hk:k<l.length) (h:l[k]≠0):trimN (l.take (k+1))=l.take (k+1):=by
 rw[List.take_succ_eq_append_getElem hk,trimN_snoc _ h]
theorem trimmed_walk (A:Option Addr) (c:Nat) (l:List Nat) (n:Nat) (hn:l.length=n) (hc:n≤c) (hcm:c≤maxLen) (hc0:A=none→c=0) (w:World) (h:LAt w w.heap.size A nv l) (_hl:n≤1000000):
 Calls Tryz.prog 245 #[.slice A n c] w fun e w'=>(∃v,e=.returned v∧LsAt w v (trimN l)∧∀B,Fresh B (.slice A n c)→Fresh B v)∧w'=w:=by
 have hA0:0<n→A≠none:=fun h0 e=>by obtain⟨a,rfl,_⟩:=h.get (i:=0) (by omega);cases e
 have hAe:∀k,k≤n→trimN (l.take k)=trimN l→trimN (l.take k)=l.take k→LsAt w (.slice A k c) (trimN l):=fun k hk h1 h2=>by
  have e:(trimN l).length=k:=by rw[←h1,h2];simp;omega
  rw[←h1,h2];exact⟨A,c,by simp;omega,by simp;omega,hcm,hc0,h.take k⟩
 have HE:=hZ hAe;have H:=hZ h;have HN:=hZ hn;have HA0:=hZ hA0;clear h hn hAe hA0 hc0;unfold maxLen at hcm
 go_enter Tryz.func245,Tryz.ntmps245
 go_wp2_with fail
 go_loop [0] (fun v=> ∃k:Nat,k≤n∧v=.slice A k c∧Hid (trimN (l.take k)=trimN l)) (fun v=>match v with|.slice _ k _=>k|_=>0)
 case atStart=>exact⟨n,Nat.le_refl _,rfl,hZ (by rw[List.take_of_length_le (by rw[HN.out];exact Nat.le_refl _)])⟩
 case round=>
  obtain⟨k,hk,rfl,HT⟩:=hrel;rcases Nat.eq_zero_or_pos k with rfl|h0
  · have d1:decide ((0:Int)<((0:Nat):Int))=false:=by decide
    go_wp2_with fail;go_ret;refine⟨⟨_,rfl,?_,fun B h=>h.cut⟩,rfl⟩;exact HE.out 0 (by omega) HT.out (by simp[trimN])
  · obtain⟨m,rfl⟩:∃m,k=m+1:=⟨k-1,by omega⟩
    (have hm:m<l.length:=by rw[HN.out];omega);obtain⟨a,rfl,hab,hac⟩:=H.out.get hm;unfold nv at hac;obtain⟨x,hx⟩:=oQ (l[m]);rw[hx] at hac;have HX:=hZ hx;(have d1:decide ((0:Int)<((m+1:Nat):Int))=true:=by simp);(have w1:IntKind.i64.wrap (((m+1:Nat):Int)-1)=(m:Int):=by rw[IntKind.wrap_i64];omega);(have z1:(0:Int)≤(m:Int):=by omega);(have z2:(m:Int)<((m+1:Nat):Int):=by omega);clear hx
    by_cases hx0:x=0
    · subst hx0
      go_wp2_with fail
      go_round
      case rel=>exact⟨m,by omega,rfl,hZ (by rw[←trimN_take hm HX.out];exact HT.out)⟩
      case measure=>simp
    · have d2:((x:Int)==0)=false:=by simp;exact hx0
      go_wp2_with fail;go_ret;refine⟨⟨_,rfl,?_,fun B h=>h.cut⟩,rfl⟩;exact HE.out (m+1) (by omega) HT.out (trimN_take_ne hm (by rw[HX.out];exact hx0))
theorem plus1_walk (A B:Option Addr) (c d:Nat) (l m:List Nat) (n k:Nat) (hn:l.length=n) (hk:m.length=k) (i:Nat) (b1 b2:Nat) (w:World) (hl:n≤1000000) (hm:k≤1000000)
 (hA:LAt w w.heap.size A nv l) (hB:LAt w w.heap.size B nv m) (h1:w.cell? ⟨b1,0,none⟩=some (.slice A n c)) (h2:w.cell? ⟨b2,0,none⟩=some (.slice B k d)) (hg:∀j,l.getD j 0<10000) (hg2:∀j,m.getD j 0<10000):
 Calls Tryz.prog 250 #[.int .i64 (i:Int),.pointer (some ⟨b1,0,none⟩),.pointer (some ⟨b2,0,none⟩)] w fun e w'=>e=.returned (.int .i64 (((l.getD i 0:Nat):Int)+((m.getD i 0:Nat):Int)))∧∃q,w'=w.drewN q:=by
 have H1:=hZ (fun q=>at_walk A c l n hn i (w.drewN q) hA hl);have H2:=hZ (fun q=>at_walk B d m k hk i (w.drewN q) hB hm);obtain⟨x,hx⟩:=oQ (l.getD i 0);obtain⟨y,hy⟩:=oQ (m.getD i 0);have hx1:=hg i;have hy1:=hg2 i;rw[hx] at H1 hx1⊢;rw[hy] at H2 hy1⊢;have w1:IntKind.i64.wrap ((x:Int)+(y:Int))=(x:Int)+(y:Int):=by rw[IntKind.wrap_i64];omega
 clear hx hy hg hg2 hA hB hn hk
 go_enter Tryz.func250,Tryz.ntmps250
 go_wp2_with fail
 go_quiet ((first|(go_at_call 251;(with_reducible refine Calls.quiet_of_same (H1.out _)))|(go_at_call 251;(with_reducible refine Calls.quiet_of_same (H2.out _)))))
 go_wp2_with fail;go_ret;exact⟨rfl,_,rfl⟩
theorem minus1_walk (A B:Option Addr) (c d:Nat) (l m:List Nat) (n k:Nat) (hn:l.length=n) (hk:m.length=k) (i:Nat) (b1 b2:Nat) (w:World) (hl:n≤1000000) (hm:k≤1000000)
 (hA:LAt w w.heap.size A nv l) (hB:LAt w w.heap.size B nv m) (h1:w.cell? ⟨b1,0,none⟩=some (.slice A n c)) (h2:w.cell? ⟨b2,0,none⟩=some (.slice B k d)) (hg:∀j,l.getD j 0<10000) (hg2:∀j,m.getD j 0<10000):
 Calls Tryz.prog 252 #[.int .i64 (i:Int),.pointer (some ⟨b1,0,none⟩),.pointer (some ⟨b2,0,none⟩)] w fun e w'=>e=.returned (.int .i64 (((l.getD i 0:Nat):Int)-((m.getD i 0:Nat):Int)))∧∃q,w'=w.drewN q:=by
 have H1:=hZ (fun q=>at_walk A c l n hn i (w.drewN q) hA hl);have H2:=hZ (fun q=>at_walk B d m k hk i (w.drewN q) hB hm);obtain⟨x,hx⟩:=oQ (l.getD i 0);obtain⟨y,hy⟩:=oQ (m.getD i 0);have hx1:=hg i;have hy1:=hg2 i;rw[hx] at H1 hx1⊢;rw[hy] at H2 hy1⊢;have w1:IntKind.i64.wrap ((x:Int)-(y:Int))=(x:Int)-(y:Int):=by rw[IntKind.wrap_i64];omega
 clear hx hy hg hg2 hA hB hn hk
 go_enter Tryz.func252,Tryz.ntmps252
 go_wp2_with fail
 go_quiet ((first|(go_at_call 251;(with_reducible refine Calls.quiet_of_same (H1.out _)))|(go_at_call 251;(with_reducible refine Calls.quiet_of_same (H2.out _)))))
 go_wp2_with fail;go_ret;exact⟨rfl,_,rfl⟩
theorem by1_walk (A:Option Addr) (c:Nat) (l:List Nat) (n:Nat) (hn:l.length=n) (i f:Nat) (hf:f≤100000) (b1 b2:Nat) (w:World) (hl:n≤1000000)
 (hA:LAt w w.heap.size A nv l) (h1:w.cell? ⟨b1,0,none⟩=some (.slice A n c)) (h2:w.cell? ⟨b2,0,none⟩=some (.int .i64 (f:Int))) (hg:∀j,l.getD j 0<10000):
 Calls Tryz.prog 266 #[.int .i64 (i:Int),.pointer (some ⟨b1,0,none⟩),.pointer (some ⟨b2,0,none⟩)] w fun e w'=>e=.returned (.int .i64 (((l.getD i 0:Nat):Int)*(f:Int)))∧∃q,w'=w.drewN q:=by
 have H1:=hZ (fun q=>at_walk A c l n hn i (w.drewN q) hA hl);obtain⟨x,hx⟩:=oQ (l.getD i 0);have hx1:=hg i;rw[hx] at H1 hx1⊢
 have w1:IntKind.i64.wrap ((x:Int)*(f:Int))=(x:Int)*(f:Int):=by
  have:x*f≤9999*100000:=Nat.mul_le_mul (by omega) hf;have e:(x:Int)*(f:Int)=((x*f:Nat):Int):=by simp
  rw[IntKind.wrap_i64,e];omega
 clear hx hg hA hn
 go_enter Tryz.func266,Tryz.ntmps266
 go_wp2_with fail
 go_quiet ((go_at_call 251;(with_reducible refine Calls.quiet_of_same (H1.out _))))
 go_wp2_with fail;go_ret;exact⟨rfl,_,rfl⟩
theorem FInv.lt {N:Nat} {gs:List Int} {i:Nat} {out:List Nat} {c:Int} {L:Nat} (h:FInv (N:Int) gs i out c) (hi:gs.length≤i) (hc:c≠0) (hL:N<10000^L):i<L:=by
 have h0:=h.carry (by omega) hi;have hv:=h.val;rw[List.drop_eq_nil_of_le hi] at hv;have hp:(0:Int)≤(10000:Int)^i:=by rw[←pow_cast];exact Int.natCast_nonneg _
 have h1:(10000:Int)^i*1≤(10000:Int)^i*(c+vI []):=Int.mul_le_mul_of_nonneg_left (by show 1≤c+0;omega) hp;rw[Int.mul_one] at h1
 have h2:((10000^i:Nat):Int)≤(N:Int):=by
  rw[pow_cast];generalize (10000:Int)^i*(c+vI [])=z at*;generalize (10000:Int)^i=p at*;omega
 exact(Nat.pow_lt_pow_iff_right (by decide:1<10000)).1 (Nat.lt_of_le_of_lt (Int.ofNat_le.1 h2) hL)
theorem Tryz.infoInt:(Tryz.prog.info? 3).map (fun i=>(i.zero,i.size,i.bytes))=some (some (.int .i64 0),1,8):=by kernel_rfl
theorem elemNum:Elem Tryz.prog 230 3 1 8:=Elem.mk' Tryz.underlying230 Tryz.infoInt rfl (by decide)
theorem elemInt:Elem Tryz.prog 23 3 1 8:=Elem.mk' Tryz.underlying23 Tryz.infoInt rfl (by decide)
abbrev IntL (w:World) (B:Nat) (v:Value) (l:List Nat):Prop:=OL w B 3 1 (one nv) v l
def FoldP (w:World) (N M:Nat) (e:Ending) (w':World):Prop:=∃v out,e=.returned v∧LsAt w' v out∧Fresh w.heap.size v∧trimN out=ofN N∧out.length≤M∧Below w.heap.size w w'
theorem fold_cut (s:Int) (h0: -10000≤s):(s<0∧∃d:Nat,s+10000=d∧d<10000)∨(0≤s∧10000≤s∧∃(d k:Nat),s/10000=k∧s%10000=d∧d<10000)∨(0≤s∧s<10000∧∃d:Nat,s=d∧d<10000):=by
 by_cases h:s<0
 · exact .inl ⟨h,(s+10000).toNat,by omega,by omega⟩
 · by_cases k:s<10000
   · exact .inr (.inr ⟨by omega,k,s.toNat,by omega,by omega⟩)
   · exact .inr (.inl ⟨by omega,by omega,(s%10000).toNat,(s/10000).toNat,by omega,by omega,by omega⟩)
theorem fold_walk (gs:List Int) (n N L M:Nat) (hn:gs.length=n) (hT:vI gs=(N:Int)) (hL:N<10000^L) (hnM:n≤M) (hLM:L≤M) (hM:M≤100000) (hlo:∀j,-9999≤gs.getD j 0) (hhi:∀j,gs.getD j 0≤1000000000)
 (g:Nat) (cb:Array Value) (eg:∀args w,(callFunc g args).run Tryz.prog w=.ok (.enter g args) w) (w:World)
 (hf:∀(W:World) (i:Nat),Below w.heap.size w W→Calls Tryz.prog g (#[.int .i64 (i:Int)]++cb) W fun e W'=>e=.returned (.int .i64 (gs.getD i 0))∧∃q,W'=W.drewN q):
 Calls Tryz.prog 249 #[.int .i64 (n:Int),.int .i64 0,.func (.func g) #[] cb] w (FoldP w N M):=by
 obtain⟨i0,hi,hz0,hz1,hz2⟩:=info_parts Tryz.infoInt;have HF:=hZ hf;have HLO:=hZ hlo;have HHI:=hZ hhi;have HN:=hZ hn;have HT:=hZ hT;have HL:=hZ hL;have HI:=hZ hi;have HZ0:=hZ hz0;have HZ1:=hZ hz1;have HZ2:=hZ hz2;clear hf hlo hhi hn hT hL hi hz0 hz1 hz2;have w0:IntKind.i64.wrap ((n:Int)+1)=((n+1:Nat):Int):=by rw[IntKind.wrap_i64];omega
 go_enter Tryz.func249,Tryz.ntmps249
 go_wp2_with (at_make;refine wpList_make_own _ rfl _ _ 230 rfl w.heap.size 3 i0 (.int .i64 0) 1 Tryz.underlying230 HI.out HZ0.out HZ1.out .i64 .i64 _ (n+1) rfl rfl (by first|rfl|omega|simp) (by rw[HZ2.out];omega) (by unfold maxLen;omega) (Nat.le_refl _) ?_;intro w1 hown hgr)
 have HB1:=hZ (Below.of_grown (B:=w.heap.size) hgr (fun g hg=>by cases hg) (Nat.le_refl _));have HO1:Hid (IntL w1 w.heap.size (.slice (some ⟨w.heap.size,0,none⟩) 0 (n+1)) []):=hZ hown;clear hown hgr;go_wp2_with fail
 go_loopw [1,7,8,9] (fun cv v iv _ wr=> ∃(i:Nat) (out:List Nat) (c:Int),iv=.int .i64 (i:Int)∧cv=.int .i64 c∧i≤M∧ -1≤c∧c≤200000∧FInv (N:Int) gs i out c∧IntL wr w.heap.size v out∧Below w.heap.size w wr) (fun _ _ i _ _=>M-(intOf i).toNat)
 case atStart=>exact⟨0,[],0,rfl,rfl,by omega,by omega,by omega,by rw[←HT.out];exact FInv.start gs,HO1.out,HB1.out⟩
 case round=>
  obtain⟨i,out,c,rfl,rfl,hiM,hc0,hc1,hinv,hol,hB⟩:=hrel;have HINV:=hZ hinv;have HOL:=hZ hol;have HB:=hZ hB;clear hinv hol hB HO1 HB1;have hout:out.length=i:=HINV.out.len
  by_cases hgo:i<n∨c≠0
  ·
   have hiM2:i<M:=by
    rcases hgo with h|h
    · omega
    · rcases Nat.lt_or_ge i n with q|q
      · omega
      · have:=HINV.out.lt (by rw[HN.out];exact q) h HL.out;omega
   have HGO:Hid (decide (i<n)=true∨(decide (i<n)=false∧(c !=0)=true)):=hZ (by
    rcases Nat.lt_or_ge i n with q|q
    · left;simp;omega
    · right;refine⟨by simp;omega,?_⟩
      rcases hgo with h|h
      · omega
      · simp[h])
   clear hgo;obtain⟨x,hx⟩:=oQ (gs.getD i 0);have hx0:=HLO.out i;have hx1:=HHI.out i;rw[hx] at hx0 hx1;have HFi:=hZ (HF.out wr i HB.out);rw[hx] at HFi;have HX:=hZ hx;obtain⟨s,hs⟩:=oQ (x+c);(have hs0: -10000≤s:=by omega);(have hs1:s≤1000200000:=by omega);have HOUT:=hZ hout;have HBs:=hZ HB.out.size;clear hx hout;have hstep:∀(d:Nat) (c':Int),d<10000→s=(d:Int)+10000*c'→FInv (N:Int) gs (i+1) (out++[d]) c':=fun d c' h1 h2=>HINV.out.step h1 (by rw[HX.out,hs];exact h2);have HST:=hZ hstep;clear hstep;rcases fold_cut s hs0 with⟨h1,d,hd,hd2⟩|⟨h1,h2,d,k,hk,hd,hd2⟩|⟨h1,h2,d,hd,hd2⟩
   · have b1:decide (s<0)=true:=by simp[h1]
     have HN2:=hZ (HST.out d (-1) hd2 (by omega));(have wx:IntKind.i64.wrap (x+c)=s:=by rw[IntKind.wrap_i64];omega);(have wd:IntKind.i64.wrap (s+10000)=(d:Int):=by rw[IntKind.wrap_i64];omega);clear h1 HX
     rcases HGO.out with e1|⟨e1,e2⟩<;>
     (go_wp2_with (first
       |(go_at_fn g;refine HFi.out.mono ?_;rintro e w2 ⟨rfl,q,rfl⟩)
       |(at_builtin;refine wpList_app rfl (.tmp 37) (.tmp 39) 230 rfl elemNum _ _ i HOUT.out rfl ((HOL.out.drewN _).alloc _) d (wr.drewN q).heap.size #[.int .i64 d] rfl ?hc rfl rfl (by simp[one,nv,Value.oneCell']) (by have:=HOUT.out;unfold maxLen;omega) (by have:=HOUT.out;omega) (by have:=HBs.out;simp;omega) ?_;(case hc=>exact World.alloc_heap_new _ _);intro g3 c3 w3 h3 _ _ _ hb3)
       |fail)
      go_roundw
      case rel=>exact⟨i+1,_,-1,by go_num,rfl,by omega,by omega,by omega,HN2.out,h3,((Below.drewN' HB.out _).alloc HBs.out _).trans (hb3)⟩
      case measure=>simp[intOf];omega)
   · have b1:decide (s<0)=false:=by simp;omega
     (have b2:decide (10000≤s)=true:=by simp;omega);have HN2:=hZ (HST.out d (k:Int) hd2 (by omega));(have hk2:k≤200000:=by omega);(have wx:IntKind.i64.wrap (x+c)=s:=by rw[IntKind.wrap_i64];omega);clear h2 HX
     rcases HGO.out with e1|⟨e1,e2⟩<;>
     (go_wp2_with (first
       |(go_at_fn g;refine HFi.out.mono ?_;rintro e w2 ⟨rfl,q,rfl⟩)
       |(at_builtin;refine wpList_app rfl (.tmp 37) (.tmp 39) 230 rfl elemNum _ _ i HOUT.out rfl ((HOL.out.drewN _).alloc _) d (wr.drewN q).heap.size #[.int .i64 d] rfl ?hc rfl rfl (by simp[one,nv,Value.oneCell']) (by have:=HOUT.out;unfold maxLen;omega) (by have:=HOUT.out;omega) (by have:=HBs.out;simp;omega) ?_;(case hc=>exact World.alloc_heap_new _ _);intro g3 c3 w3 h3 _ _ _ hb3)
       |fail)
      go_roundw
      case rel=>exact⟨i+1,_,(k:Int),by go_num,rfl,by omega,by omega,by omega,HN2.out,h3,((Below.drewN' HB.out _).alloc HBs.out _).trans (hb3)⟩
      case measure=>simp[intOf];omega)
   · have b1:decide (s<0)=false:=by simp;omega
     (have b2:decide (10000≤s)=false:=by simp;omega);have HN2:=hZ (HST.out d 0 hd2 (by omega));(have wx:IntKind.i64.wrap (x+c)=(d:Int):=by rw[IntKind.wrap_i64];omega);subst hd;clear h2 HX
     rcases HGO.out with e1|⟨e1,e2⟩<;>
     (go_wp2_with (first
       |(go_at_fn g;refine HFi.out.mono ?_;rintro e w2 ⟨rfl,q,rfl⟩)
       |(at_builtin;refine wpList_app rfl (.tmp 37) (.tmp 39) 230 rfl elemNum _ _ i HOUT.out rfl ((HOL.out.drewN _).alloc _) d (wr.drewN q).heap.size #[.int .i64 d] rfl ?hc rfl rfl (by simp[one,nv,Value.oneCell']) (by have:=HOUT.out;unfold maxLen;omega) (by have:=HOUT.out;omega) (by have:=HBs.out;simp;omega) ?_;(case hc=>exact World.alloc_heap_new _ _);intro g3 c3 w3 h3 _ _ _ hb3)
       |fail)
      go_roundw
      case rel=>exact⟨i+1,_,0,by go_num,rfl,by omega,by omega,by omega,HN2.out,h3,((Below.drewN' HB.out _).alloc HBs.out _).trans (hb3)⟩
      case measure=>simp[intOf];omega)
  · obtain rfl:c=0:=by omega
    (have d1:decide (i<n)=false:=by simp;omega);have HFIN:Hid (trimN out=ofN N):=hZ (HINV.out.done (by rw[HN.out];omega) rfl);clear hgo;go_wp2_with fail;go_ret;exact⟨_,out,rfl,LsAt.of_ol HOL.out,HOL.out.fresh,HFIN.out,by omega,HB.out⟩
end Go.Proofs.YteeifhlhpiimoaaGreatDoor
end
