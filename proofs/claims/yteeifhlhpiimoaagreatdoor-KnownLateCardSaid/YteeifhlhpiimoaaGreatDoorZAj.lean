/-
  Contract of entry.Encode for a valid entry. Conditions: the shape's contract; numbers in the wire's bounds, texts of at most 65536 bytes. Contract of entry.Encode. Conditions: the texts have at most 65536 bytes; the table of powers stands. Contract of entry.Prevails. Conditions: the texts have at most 65536 bytes; the table of powers stands. Maps of entries by their keys; maps.DeleteFunc at them. Conditions: each contract's own. maps.DeleteFunc at entries. Conditions: each contract's own. Contract of known.effect. Conditions: a list of at most 1000000 entries whose texts have at most 65536 bytes; the table of powers stands. The shelf of this program. Conditions: each contract's own.
-/
import Derived.Test.YteeifhlhpiimoaaGreatDoorZAa
import Derived.Test.YteeifhlhpiimoaaGreatDoorZAi
import Derived.Deep.RegionHeld
import Derived.Test.YteeifhlhpiimoaaGreatDoorZAf
import Derived.Maps.Ext
import Derived.Maps.RangeWalk
import Derived.Maps.OwnSet
import Derived.Laws.IdiomRangeMap
import Derived.Deep.LoopGhost
import Derived.Carry
import Derived.Shelf.SlSortCmp.WholeK
import Derived.Shelf.SlicesQ.Equal
import Derived.Ground.NamesProg
import Derived.Ground.SlsfProg
import Derived.Ground.SlgqProg
import Derived.Test.YteeifhlhpiimoaaGreatDoorProg
set_option maxHeartbeats 8000000
set_option maxRecDepth 100000
section
namespace Go.Proofs.YteeifhlhpiimoaaGreatDoor
open Go Go.RowKit Go.Shelf Wr
attribute [local go_sem] Oper.semAt_some
def flagI (g:Bool):Int:=if g then 1 else 0
theorem flag_walk (g:Bool) (w:World):Calls Tryz.prog 126 #[.bool g] w fun e w'=>e=.returned (.int .i64 (flagI g))∧w'=w:=by
 cases g<;>
 · go_enter Tryz.func126,Tryz.ntmps126
   go_wp2;go_ret;exact⟨rfl,rfl⟩
def encQ (e:Ent):PartE→List UInt8
 |.num i _=>putI (e.num i)
 |.txt is=>putsS e is
def headW (e:Ent):List UInt8:=putsI [e.kind,e.ver,e.day,flagI e.gone]
def WireQ (e:Ent):PartE→Prop
 |.num i _=>WireI (e.num i)
 |.txt is=>is.length≤10∧∀i∈is,(e.str i).size≤65536
theorem headW_len (e:Ent):(headW e).length≤40:=putsI_len _
theorem encQ_all (e:Ent) (qs:List PartE) (h:∀q∈qs,WireQ e q):(qs.flatMap (encQ e)).length≤655460*qs.length:=by
 induction qs with
 |nil=>simp
 | cons q qs ih=>
   have h2:=ih fun x hx=>h x (by simp[hx])
   have h1:(encQ e q).length≤655460:=by
    have hq:=h q (by simp)
    cases q with
    |num i l=>show(putI (e.num i)).length≤_;have:=putI_length (e.num i);omega
    |txt is=>have:=putsS_len e is hq.2;have:=hq.1;show(putsS e is).length≤_;omega
   rw[List.flatMap_cons,List.length_append,List.length_cons];omega
def EncP (w:World) (l:List UInt8) (e:Ending) (w':World):Prop:=e=.returned (.tuple #[.string ⟨l.toArray⟩,.int .i64 0])∧Below w.heap.size w w'
theorem encode_core (e:Ent) (hs:e.Small) (d:ShapeD) (qs:List PartE) (w:World) (hp:Pow10 w) (hS:∀W,Calls Tryz.prog 62 #[.int .i64 e.kind] W (ShapeP W d)) (hq:d.parts.length=qs.length) (hql:qs.length≤100) (hfit:FitsL d.parts qs) (hv:validE e=true)
 (hk:WireI e.kind∧WireI e.ver∧WireI e.day) (hw:∀q∈qs,WireQ e q):
 Calls Tryz.prog 69 #[e.val] w (EncP w (headW e++qs.flatMap (encQ e))):=by
 have HV:=hZ (fun W (h:Below w.heap.size w W)=>valid_walk_E e hs W (hp.below h));rw[hv] at HV;have HS:=hZ hS;have IE:=hZ (ientry (e:=e));have HFIT:=hZ hfit;have HK:=hZ hk;have HWQ:=hZ hw;obtain⟨pl,hpl⟩:=oQ (d.parts.length);obtain⟨rl,hrl⟩:=oQ (d.rest.length);have HPL:=hZ hpl;have HQL:Hid (qs.length=pl∧pl≤100):=hZ (by omega);have HRL:=hZ hrl;clear hs hp hS hfit hv hk hw hpl hrl hq hql
 go_enter Tryz.func69,Tryz.ntmps69
 go_wp2_with (first
  | ((with_reducible refine box_ent rfl (.tmp 0) rfl e ?hx ?_);(case hx=>rfl);intro w1 he1 hb1 hs1
     have HE1:=hZ he1;have HB1:=hZ hb1;have HRG:=hZ (range_of (cs:=e.cells) he1)
     clear he1 hb1 hs1)
  |((with_reducible refine wpList_load_mid rfl 33 (.tmp 1) rfl w.heap.size 0 ?hx e.cells _ HRG.out Tryz.underlying33 rfl IE.out ?_);(case hx=>rfl))
  | (go_at_call 20;(with_reducible refine(HV.out _ HB1.out).mono ?_);rintro e2 w2 ⟨rfl,hb2⟩
     have HE2:=hZ (HE1.out.below hb2);have HB2:=bTr HB1 hb2;have x0:=HE2.out.cell (i:=0) rfl
     clear hb2)
  | (go_at_call 62;(with_reducible refine(HS.out _).mono ?_);rintro e3 w3 ⟨v,rfl,hsh,hb3⟩
     obtain⟨b1,R,cr,rfl,hpa,-⟩:=hsh.open;rw[HPL.out,HRL.out];have HE3:=hZ (HE2.out.below hb3);have HB3:=bTr HB2 hb3;have HPA3:=hZ hpa
     clear hb3 hsh hpa)
  |fail)
 obtain⟨k1,k2,k3,k4⟩:=two_boxes w3 #[.slice (some ⟨b1,0,none⟩) pl pl,.func (.func d.key) #[] #[],.int .i64 1,.int .i64 1000000,.nilFunc,.slice R rl cr] #[.pointer none,.slice none 0 0] 112 120;obtain⟨V,hV⟩:=oQ (((w3.alloc (.cells #[.slice (some ⟨b1,0,none⟩) pl pl,.func (.func d.key) #[] #[],.int .i64 1,.int .i64 1000000,.nilFunc,.slice R rl cr] 112)).alloc (.cells #[.pointer none,.slice none 0 0] 120)));rw[hV] at k1 k2 k3 k4;rw[hV];obtain⟨p3,hp3⟩:=oQ (w3.heap.size);have HE5:=hZ (HE3.out.below k4);have HB5:=bTr HB3 k4;have HPA5:=bAt k4 HPA3;have HLT:Hid (w.heap.size<p3∧b1<p3):=hZ ⟨by rw[←hp3];exact cells_lt HE3.out,by rw[←hp3];exact cells_lt HPA3.out⟩;rw[hp3] at k1 k2 k3;rw[hp3];obtain⟨bw,hbw⟩:=oQ (p3+1);rw[hbw] at k2;rw[hbw];have hle:=HB3.out.size;have hwt:WtAt V w.heap.size bw []:=⟨_,_,by omega,.inl rfl,k2,World.ownsRowF_nil _ _ _ _,by simp[Value.ownBlock]⟩;have HSH:=hZ k1;have HWT:=hZ hwt;have HSZ:Hid (V.heap.size=bw+1∧p3+1=bw):=hZ ⟨by omega,hbw⟩;have y0:=HE5.out.cell (i:=0) rfl;have y2:=HE5.out.cell (i:=2) rfl;have y3:=HE5.out.cell (i:=3) rfl;have y4:=HE5.out.cell (i:=4) rfl;clear hV k1 k2 k3 k4 hp3 hbw hwt hle HE3 HB3 HPA3 HE1 HB1 HE2 HB2 HRG HS HV;have hS0:V.drew.cell? ⟨w.heap.size,0,none⟩=some (.int .i64 e.kind)∧V.drew.cell? ⟨w.heap.size,2,none⟩=some (.int .i64 e.ver)∧V.drew.cell? ⟨w.heap.size,3,none⟩=some (.int .i64 e.day)∧V.drew.cell? ⟨w.heap.size,4,none⟩=some (.bool e.gone):=⟨y0,y2,y3,y4⟩;have HY:=hZ hS0;clear y0 y2 y3 y4 x0;refine wp_region_noPanic ?_;refine wp_region_held_drew (S:=fun U=>U.cell? ⟨w.heap.size,0,none⟩=some (.int .i64 e.kind)∧U.cell? ⟨w.heap.size,2,none⟩=some (.int .i64 e.ver)∧U.cell? ⟨w.heap.size,3,none⟩=some (.int .i64 e.day)∧U.cell? ⟨w.heap.size,4,none⟩=some (.bool e.gone)) (by kernel_rfl) hS0 (fun hHeld=> ?_)
 refine tk 0 ?_;refine tk 1 ?_;refine tk 2 ?_;refine tk 3 ?_;refine tk 4 ?_;refine tk 5 ?_;refine tk 6 ?_;refine tk 7 ?_;refine rd [8] ?_;refine rcE fun K hK=> ?_;go_simp
 (with_reducible refine(flag_walk _ _).mono ?_)
 rintro e8 w8 ⟨rfl,rfl⟩;refine kk hK (hS0) (fun hHeld=> ?_);clear hK K;refine rd [9] ?_;refine rcE fun K hK=> ?_;obtain⟨U,hU⟩:=oQ (V.drew);have BU:Below V.heap.size V U:=by rw[←hU];exact Below.drew (Below.refl _ _)
 rw[hU];go_simp;have hn:=World.alloc_heap_new U (.cells #[.int .i64 e.kind,.int .i64 e.ver,.int .i64 e.day,.int .i64 (flagI e.gone)] 3);have k6:=BU.trans ((below_new U (.cells #[.int .i64 e.kind,.int .i64 e.ver,.int .i64 e.day,.int .i64 (flagI e.gone)] 3)).mono BU.size);obtain⟨V8,hV8⟩:=oQ (U.alloc (.cells #[.int .i64 e.kind,.int .i64 e.ver,.int .i64 e.day,.int .i64 (flagI e.gone)] 3));rw[hV8] at hn k6;rw[hV8];obtain⟨q,hq⟩:=oQ (U.heap.size);rw[hq] at hn;rw[hq];have hus:q=V.heap.size:=by rw[←hq,←hU];rfl
 have HE8:=hZ (HE5.out.below k6);have HPA8:=bAt k6 HPA5;have HSH8:=bAt k6 HSH;have HB8:=bTr HB5 k6;have HPUT:=hZ (put_walk bw w.heap.size [] [e.kind,e.ver,e.day,flagI e.gone] (some ⟨q,0,none⟩) 4 4 rfl (by decide) (by decide) V8 (HWT.out.below k6) HB8.out.size (fun i y hy=>by match i,hy with|0,hy=>cases hy;exact⟨_,rfl,cells_lt hn,cells_i hn rfl⟩|1,hy=>cases hy;exact⟨_,rfl,cells_lt hn,cells_i hn rfl⟩|2,hy=>cases hy;exact⟨_,rfl,cells_lt hn,cells_i hn rfl⟩|3,hy=>cases hy;exact⟨_,rfl,cells_lt hn,cells_i hn rfl⟩) (fun a ha=>by cases ha;exact⟨_,_,hn,by decide,by show q≠bw;have:=HSZ.out;omega⟩) (fun y hy=>by have hk:=HK.out;simp at hy;rcases hy with rfl|rfl|rfl|rfl;exact hk.1;exact hk.2.1;exact hk.2.2;unfold WireI flagI;split<;>decide));clear hn k6 hV8 hU hus hq BU;refine kk hK (⟨EntAt.cell (i:=0) HE8.out rfl,EntAt.cell (i:=2) HE8.out rfl,EntAt.cell (i:=3) HE8.out rfl,EntAt.cell (i:=4) HE8.out rfl⟩) (fun hHeld=> ?_);clear hK K;refine rd [10] ?_;refine rcE fun K hK=> ?_;go_simp
 (with_reducible refine HPUT.out.mono ?_)
 rintro e9 w9 ⟨rfl,hw9,hb9,hk9⟩;have hlt:=HLT.out;have hsz:=HSZ.out;have HE9:Hid (EntAt w9 w.heap.size e):=hZ (hk9 _ _ HE8.out (fun e9=>by have:=Option.some.inj e9;omega) (fun c fz e9=>by injection e9 with e1 e2 e3;exact absurd e2 (by decide)));have HPA9:=hZ (hk9 _ _ HPA8.out (fun e9=>by have:=Option.some.inj e9;omega) (fun c fz e9=>by injection e9 with e1 e2 e3;exact absurd e2 (by decide)));have HSH9:=hZ (hk9 _ _ HSH8.out (fun e9=>by have:=Option.some.inj e9;omega) (fun c fz e9=>by injection e9 with e1 e2 e3;exact absurd e2 (by decide)));have HB9:=hZ (HB8.out.trans hb9);have HW9:=hZ hw9;clear hw9 hb9 hk9 hlt hsz;refine kk hK (⟨EntAt.cell (i:=0) HE9.out rfl,EntAt.cell (i:=2) HE9.out rfl,EntAt.cell (i:=3) HE9.out rfl,EntAt.cell (i:=4) HE9.out rfl⟩) (fun hHeld=> ?_);clear hK K;refine dn ?_;have q0:=cells_i (i:=0) HSH9.out rfl;go_wp2;have HW0:Hid (WtAt w9 w.heap.size bw (headW e++([]:List PartE).flatMap (encQ e))):=hZ (by simpa[headW] using HW9.out);clear q0 hHeld
 go_loopw [8,32] (fun _ v wr=> ∃i:Nat,v=.int .i64 (i:Int)∧i≤pl∧WtAt wr w.heap.size bw (headW e++(qs.take i).flatMap (encQ e))∧EntAt wr w.heap.size e∧wr.heap[b1]?=some (.cells (d.parts.flatMap PartD.cells).toArray 109 (0,0))∧Below w.heap.size w wr) (fun _ v _=>match v with|.int _ k=>pl-k.toNat|_=>0)
 case atStart=>exact⟨0,rfl,Nat.zero_le _,HW0.out,HE9.out,HPA9.out,HB9.out⟩
 case round=>
  obtain⟨i,rfl,hi,hW,hE,hPA,hB⟩:=hrel;have HW2:=hZ hW;have HE2:=hZ hE;have HPA2:=hZ hPA;have HB2:=hZ hB;clear hW hE hPA hB
  by_cases hlt:i<pl
  · have d1:decide (i<pl)=true:=by simp[hlt]
    (have z1:(0:Int)≤(i:Int):=by omega);(have z2:(i:Int)<(pl:Int):=by omega);(have w1:IntKind.i64.wrap ((i:Int)+1)=((i+1:Nat):Int):=by rw[IntKind.wrap_i64];have:=HQL.out.2;omega);obtain⟨p,hp⟩:∃p,d.parts[i]?=some p:=⟨_,List.getElem?_eq_getElem (by rw[HPL.out];exact hlt)⟩;obtain⟨q,hq⟩:∃q,qs[i]?=some q:=⟨_,List.getElem?_eq_getElem (by rw[HQL.out.1];exact hlt)⟩;have hf:=HFIT.out i p q hp hq;have hwq:=HWQ.out q (List.mem_of_getElem? hq)
    have htk:headW e++(qs.take (i+1)).flatMap (encQ e)=headW e++((qs.take i).flatMap (encQ e)++encQ e q):=by
     rw[List.take_add_one,hq];simp
    have HLL:Hid ((headW e++(qs.take i).flatMap (encQ e)).length≤100000000):=hZ (by
     rw[List.length_append];have h1:=headW_len e;have h2:=encQ_all e (qs.take i) (fun q hq=>HWQ.out q (List.mem_of_mem_take hq));rw[List.length_take] at h2;have:=HQL.out
     omega)
    cases hf with
    | num enters calls ix=>
      rename_i g ci l
      have r0:wr.cell? ⟨b1,i*4,none⟩=some (.func (.func g) #[] #[]):=cells_i HPA2.out (by have h:=flat4 _ i _ hp 0 (by omega);simpa[PartD.cells] using h);have r1:wr.cell? ⟨b1,i*4+1,none⟩=some (.int .i64 l):=cells_i HPA2.out (by have h:=flat4 _ i _ hp 1 (by omega);simpa[PartD.cells] using h);have r2:wr.cell? ⟨b1,i*4+2,none⟩=some (.int .i64 1000000):=cells_i HPA2.out (by have h:=flat4 _ i _ hp 2 (by omega);simpa[PartD.cells] using h);have r3:wr.cell? ⟨b1,i*4+3,none⟩=some (.nilFunc):=cells_i HPA2.out (by have h:=flat4 _ i _ hp 3 (by omega);simpa[PartD.cells] using h);have kk:=below_new wr (.cells #[.func (.func g) #[] #[],.int .i64 l,.int .i64 1000000,.nilFunc] 109);have HPART:=hZ (part_num bw w.heap.size _ HLL.out g ci l e (.num enters calls ix) (wr.alloc (.cells #[.func (.func g) #[] #[],.int .i64 l,.int .i64 1000000,.nilFunc] 109)) (HW2.out.below kk) (Nat.le_trans HB2.out.size kk.size) hwq);have HE7:=hZ (HE2.out.below kk);have HPA7:=bAt kk HPA2;have HB7:=bTr HB2 kk;have HRG7:=hZ (range_of (cs:=e.cells) HE7.out);have hen:encQ e (.num ci l)=putI (e.num ci):=rfl;rw[hen] at htk;have HT:=hZ htk;clear kk htk hen
      go_wp2_with (first
       |((with_reducible refine wpList_load_mid rfl 33 (.tmp 1) rfl w.heap.size 0 ?hx e.cells _ HRG7.out Tryz.underlying33 rfl IE.out ?_);(case hx=>rfl))
       | (go_at_call 64;(with_reducible refine HPART.out.mono ?_);rintro e5 w5 ⟨rfl,hw5,hb5,hk5⟩
          have hlt:=HLT.out;have hsz:=HSZ.out;have HE8:Hid (EntAt w5 w.heap.size e):=hZ (hk5 _ _ HE7.out (fun e9=>by have:=Option.some.inj e9;omega) (fun c fz e9=>by injection e9 with e1 e2 e3;exact absurd e2 (by decide)));have HPA8:=hZ (hk5 _ _ HPA7.out (fun e9=>by have:=Option.some.inj e9;omega) (fun c fz e9=>by injection e9 with e1 e2 e3;exact absurd e2 (by decide)));have HB8:=hZ (HB7.out.trans hb5);have HW8:=hZ hw5
          clear hw5 hb5 hk5 hlt hsz)
       |fail)
      go_round
      case rel=>exact⟨i+1,rfl,by omega,by rw[HT.out,←List.append_assoc];exact HW8.out,HE8.out,HPA8.out,HB8.out⟩
      case measure=>simp;omega
    | txt enters calls ix len=>
      rename_i g is
      have r0:wr.cell? ⟨b1,i*4,none⟩=some (.nilFunc):=cells_i HPA2.out (by have h:=flat4 _ i _ hp 0 (by omega);simpa[PartD.cells] using h);have r1:wr.cell? ⟨b1,i*4+1,none⟩=some (.int .i64 0):=cells_i HPA2.out (by have h:=flat4 _ i _ hp 1 (by omega);simpa[PartD.cells] using h);have r2:wr.cell? ⟨b1,i*4+2,none⟩=some (.int .i64 0):=cells_i HPA2.out (by have h:=flat4 _ i _ hp 2 (by omega);simpa[PartD.cells] using h);have r3:wr.cell? ⟨b1,i*4+3,none⟩=some (.func (.func g) #[] #[]):=cells_i HPA2.out (by have h:=flat4 _ i _ hp 3 (by omega);simpa[PartD.cells] using h);have kk:=below_new wr (.cells #[.nilFunc,.int .i64 0,.int .i64 0,.func (.func g) #[] #[]] 109);have HPART:=hZ (part_txt bw w.heap.size _ HLL.out g is e (.txt enters calls ix len) (wr.alloc (.cells #[.nilFunc,.int .i64 0,.int .i64 0,.func (.func g) #[] #[]] 109)) (HW2.out.below kk) (Nat.le_trans HB2.out.size kk.size) hwq.2);have HE7:=hZ (HE2.out.below kk);have HPA7:=bAt kk HPA2;have HB7:=bTr HB2 kk;have HRG7:=hZ (range_of (cs:=e.cells) HE7.out);have hen:encQ e (.txt is)=putsS e is:=rfl;rw[hen] at htk;have HT:=hZ htk;clear kk htk hen
      go_wp2_with (first
       |((with_reducible refine wpList_load_mid rfl 33 (.tmp 1) rfl w.heap.size 0 ?hx e.cells _ HRG7.out Tryz.underlying33 rfl IE.out ?_);(case hx=>rfl))
       | (go_at_call 64;(with_reducible refine HPART.out.mono ?_);rintro e5 w5 ⟨rfl,hw5,hb5,hk5⟩
          have hlt:=HLT.out;have hsz:=HSZ.out;have HE8:Hid (EntAt w5 w.heap.size e):=hZ (hk5 _ _ HE7.out (fun e9=>by have:=Option.some.inj e9;omega) (fun c fz e9=>by injection e9 with e1 e2 e3;exact absurd e2 (by decide)));have HPA8:=hZ (hk5 _ _ HPA7.out (fun e9=>by have:=Option.some.inj e9;omega) (fun c fz e9=>by injection e9 with e1 e2 e3;exact absurd e2 (by decide)));have HB8:=hZ (HB7.out.trans hb5);have HW8:=hZ hw5
          clear hw5 hb5 hk5 hlt hsz)
       |fail)
      go_round
      case rel=>exact⟨i+1,rfl,by omega,by rw[HT.out,←List.append_assoc];exact HW8.out,HE8.out,HPA8.out,HB8.out⟩
      case measure=>simp;omega
  · have d1:decide (i<pl)=false:=by simp;omega
    have htk:qs.take i=qs:=List.take_of_length_le (by rw[HQL.out.1];omega);rw[htk] at HW2;(have hne:headW e++qs.flatMap (encQ e)≠[]:=by unfold headW putsI;simp[putI_ne]);have HSTR:=hZ (wt_string HW2.out hne);clear htk hne
    go_wp2_with (first
     |(go_at_call 65;(with_reducible refine HSTR.out.mono ?_);rintro e6 w6 ⟨rfl,hb6,hk6⟩)
     |fail)
    have hfin:EncP w (headW e++qs.flatMap (encQ e)) (.returned (.tuple #[.string ⟨(headW e++qs.flatMap (encQ e)).toArray⟩,.int .i64 0])) w6:=⟨rfl,HB2.out.trans hb6⟩
    go_ret2
    exact hfin
def encE (e:Ent):List UInt8:=headW e++((shapeQ e.kind).getD []).flatMap (encQ e)
structure Ent.Wire (e:Ent):Prop where
 ln:e.ln.size≤65536
 ld:e.ld.size≤65536
 hn:e.hn.size≤65536
 hd:e.hd.size≤65536
 rn:e.rn.size≤65536
 rd:e.rd.size≤65536
 text:e.text.size≤65536
theorem Ent.Wire.small {e:Ent} (h:e.Wire):e.Small:=⟨by have:=h.ln;omega,by have:=h.ld;omega,by have:=h.hn;omega,by have:=h.hd;omega,by have:=h.rn;omega,by have:=h.rd;omega,by have:=h.text;omega⟩
theorem wire_txt {e:Ent} (h:e.Wire) (i:Nat):(e.str i).size≤65536:=by
 unfold Ent.str
 split
 · exact h.ln
 · exact h.ld
 · exact h.hn
 · exact h.hd
 · exact h.rn
 · exact h.rd
 · exact h.text
theorem num_clr (e:Ent) (i j:Nat) (h:i≠j):(e.clr i).num j=e.num j:=by
 unfold Ent.clr
 split<;>(unfold Ent.num;split<;>first|rfl|(exact absurd rfl h))
theorem num_clrs (l:List Nat) (j:Nat):∀e:Ent,j∉l→(l.foldl Ent.clr e).num j=e.num j:=by
 induction l with
 |nil=>intro e _;rfl
 |cons i l ih=>intro e h;rw[List.foldl_cons,ih _ (fun q=>h (by simp[q])),num_clr _ _ _ (fun q=>h (by simp[q]))]
def ixs:PartE→List Nat
 |.num i _=>[i]
 |.txt l=>l
theorem checks_num:∀(qs:List PartE) (e:Ent),checks qs e=true→(∀q∈qs,∀i l,q=.num i l→0≤l)→(qs.flatMap ixs).Nodup→∀i l,PartE.num i l∈qs→0≤e.num i∧e.num i≤1000000:=by
 intro qs
 induction qs with
 |nil=>intro e _ _ _ i l h;cases h
 | cons q qs ih=>
   intro e hc h0 hd i l hm;rw[List.flatMap_cons,List.nodup_append] at hd
   cases q with
   | num j m=>
     rw[checks,Bool.and_eq_true,Bool.and_eq_true,decide_eq_true_eq,decide_eq_true_eq] at hc;rcases List.mem_cons.1 hm with e1|e1
     · cases e1;have:=h0 _ (by simp) i l rfl;omega
     · have hij:j≠i:=fun q=>(hd.2.2 j (by simp[ixs]) i (List.mem_flatMap.2 ⟨_,e1,by simp[ixs]⟩)) q
       have:=ih (e.clr j) hc.2.2 (fun q hq=>h0 q (by simp[hq])) hd.2.1 i l e1
       rwa[num_clr _ _ _ hij] at this
   | txt is=>
     rw[checks] at hc;rcases List.mem_cons.1 hm with e1|e1
     · cases e1
     · have hij:i∉is:=fun q=>(hd.2.2 i (by simpa[ixs] using q) i (List.mem_flatMap.2 ⟨_,e1,by simp[ixs]⟩)) rfl
       have:=ih (is.foldl Ent.clr e) hc (fun q hq=>h0 q (by simp[hq])) hd.2.1 i l e1
       rwa[num_clrs _ _ _ hij] at this
theorem wireq_all {e:Ent} (hw:e.Wire) {qs:List PartE} (hc:checks qs e=true) (h0:∀q∈qs,∀i l,q=.num i l→0≤l) (hd:(qs.flatMap ixs).Nodup) (hl:∀q∈qs,∀l,q=.txt l→l.length≤10):∀q∈qs,WireQ e q:=by
 intro q hq
 cases q with
 |num i l=>have:=checks_num qs e hc h0 hd i l hq;show WireI _;unfold WireI;omega
 |txt l=>exact⟨hl _ hq l rfl,fun i _=>wire_txt hw i⟩
theorem valid_parts {e:Ent} {qs:List PartE} (h:validE e=true) (hq:shapeQ e.kind=some qs):headQ e=true∧checks qs e=true:=by
 unfold validE at h;rw[hq] at h;simp only[Bool.and_eq_true] at h;exact⟨h.1,h.2.2⟩
def EncR (w:World) (e0:Ent) (e:Ending) (w':World):Prop:=if validE e0 then EncP w (encE e0) e w' else e=.returned (.tuple #[.string ⟨#[]⟩,.int .i64 180])∧Below w.heap.size w w'
theorem encode_walk (e:Ent) (hw:e.Wire) (w:World) (hp:Pow10 w):Calls Tryz.prog 69 #[e.val] w (EncR w e):=by
 unfold EncR
 by_cases hv:validE e=true
 · simp only[hv,if_true]
   have hk:=valid_kind hv
   have hki:WireI e.kind∧WireI e.ver∧WireI e.day:=by
    have h2:headQ e=true:=by
     unfold validE at hv
     split at hv
     · cases hv
     · simp only[Bool.and_eq_true] at hv;exact hv.1
    unfold headQ at h2;simp only[Bool.and_eq_true,decide_eq_true_eq] at h2;unfold WireI;omega
   unfold encE;rcases(by omega:e.kind=1∨e.kind=2∨e.kind=3∨e.kind=4∨e.kind=5∨e.kind=6∨e.kind=7∨e.kind=8∨e.kind=9) with q|q|q|q|q|q|q|q|q
   · have hq:shapeQ e.kind=some [.num 1 1,.num 5 0,.num 7 1,.num 8 1,.txt [11,12,13,14]]:=by rw[q];rfl
     have hc:=valid_parts hv hq;rw[hq];exact encode_core e hw.small ⟨[.num 106 1,.num 110 0,.num 111 1,.num 107 1,.txt 112],106,[113]⟩ [.num 1 1,.num 5 0,.num 7 1,.num 8 1,.txt [11,12,13,14]] w hp (fun W=>by rw[q];exact shape1 W) rfl (by decide) (fits_cons (fit_id 1) (fits_cons (fit_from 0) (fits_cons (fit_lab 1) (fits_cons (fit_item 1) (fits_cons (fit_value) fits_nil))))) hv hki (wireq_all hw hc.2 (by intro q hq i l he;subst he;simp at hq;omega) (by decide) (by intro q hq l he;subst he;first|(simp at hq;done)|(simp at hq;subst hq;decide)))
   · have hq:shapeQ e.kind=some [.num 8 1,.txt [15,16]]:=by rw[q];rfl
     have hc:=valid_parts hv hq;rw[hq];exact encode_core e hw.small ⟨[.num 107 1,.txt 114],107,[115]⟩ [.num 8 1,.txt [15,16]] w hp (fun W=>by rw[q];exact shape2 W) rfl (by decide) (fits_cons (fit_item 1) (fits_cons (fit_rate) fits_nil)) hv hki (wireq_all hw hc.2 (by intro q hq i l he;subst he;simp at hq;omega) (by decide) (by intro q hq l he;subst he;first|(simp at hq;done)|(simp at hq;subst hq;decide)))
   · have hq:shapeQ e.kind=some [.num 1 1,.num 5 0,.num 6 0,.num 8 1]:=by rw[q];rfl
     have hc:=valid_parts hv hq;rw[hq];exact encode_core e hw.small ⟨[.num 106 1,.num 110 0,.num 116 0,.num 107 1],106,[117]⟩ [.num 1 1,.num 5 0,.num 6 0,.num 8 1] w hp (fun W=>by rw[q];exact shape3 W) rfl (by decide) (fits_cons (fit_id 1) (fits_cons (fit_from 0) (fits_cons (fit_until 0) (fits_cons (fit_item 1) fits_nil)))) hv hki (wireq_all hw hc.2 (by intro q hq i l he;subst he;simp at hq;omega) (by decide) (by intro q hq l he;subst he;first|(simp at hq;done)|(simp at hq;subst hq;decide)))
   · have hq:shapeQ e.kind=some [.num 1 1,.num 5 0,.num 6 0,.num 8 1]:=by rw[q];rfl
     have hc:=valid_parts hv hq;rw[hq];exact encode_core e hw.small ⟨[.num 106 1,.num 110 0,.num 116 0,.num 107 1],106,[117]⟩ [.num 1 1,.num 5 0,.num 6 0,.num 8 1] w hp (fun W=>by rw[q];exact shape4 W) rfl (by decide) (fits_cons (fit_id 1) (fits_cons (fit_from 0) (fits_cons (fit_until 0) (fits_cons (fit_item 1) fits_nil)))) hv hki (wireq_all hw hc.2 (by intro q hq i l he;subst he;simp at hq;omega) (by decide) (by intro q hq l he;subst he;first|(simp at hq;done)|(simp at hq;subst hq;decide)))
   · have hq:shapeQ e.kind=some [.num 1 1,.num 5 0,.num 6 0,.num 7 1,.txt [17]]:=by rw[q];rfl
     have hc:=valid_parts hv hq;rw[hq];exact encode_core e hw.small ⟨[.num 106 1,.num 110 0,.num 116 0,.num 111 1,.txt 118],106,[117,119]⟩ [.num 1 1,.num 5 0,.num 6 0,.num 7 1,.txt [17]] w hp (fun W=>by rw[q];exact shape5 W) rfl (by decide) (fits_cons (fit_id 1) (fits_cons (fit_from 0) (fits_cons (fit_until 0) (fits_cons (fit_lab 1) (fits_cons (fit_text) fits_nil))))) hv hki (wireq_all hw hc.2 (by intro q hq i l he;subst he;simp at hq;omega) (by decide) (by intro q hq l he;subst he;first|(simp at hq;done)|(simp at hq;subst hq;decide)))
   · have hq:shapeQ e.kind=some [.num 8 1,.num 5 0]:=by rw[q];rfl
     have hc:=valid_parts hv hq;rw[hq];exact encode_core e hw.small ⟨[.num 107 1,.num 110 0],107,[]⟩ [.num 8 1,.num 5 0] w hp (fun W=>by rw[q];exact shape6 W) rfl (by decide) (fits_cons (fit_item 1) (fits_cons (fit_from 0) fits_nil)) hv hki (wireq_all hw hc.2 (by intro q hq i l he;subst he;simp at hq;omega) (by decide) (by intro q hq l he;subst he;first|(simp at hq;done)|(simp at hq;subst hq;decide)))
   · have hq:shapeQ e.kind=some [.num 1 1,.num 5 0,.num 6 0,.num 9 1,.num 10 1]:=by rw[q];rfl
     have hc:=valid_parts hv hq;rw[hq];exact encode_core e hw.small ⟨[.num 106 1,.num 110 0,.num 116 0,.num 120 1,.num 121 1],106,[117]⟩ [.num 1 1,.num 5 0,.num 6 0,.num 9 1,.num 10 1] w hp (fun W=>by rw[q];exact shape7 W) rfl (by decide) (fits_cons (fit_id 1) (fits_cons (fit_from 0) (fits_cons (fit_until 0) (fits_cons (fit_person 1) (fits_cons (fit_skill 1) fits_nil))))) hv hki (wireq_all hw hc.2 (by intro q hq i l he;subst he;simp at hq;omega) (by decide) (by intro q hq l he;subst he;first|(simp at hq;done)|(simp at hq;subst hq;decide)))
   · have hq:shapeQ e.kind=some [.num 8 1,.txt [15,16]]:=by rw[q];rfl
     have hc:=valid_parts hv hq;rw[hq];exact encode_core e hw.small ⟨[.num 107 1,.txt 114],107,[115]⟩ [.num 8 1,.txt [15,16]] w hp (fun W=>by rw[q];exact shape8 W) rfl (by decide) (fits_cons (fit_item 1) (fits_cons (fit_rate) fits_nil)) hv hki (wireq_all hw hc.2 (by intro q hq i l he;subst he;simp at hq;omega) (by decide) (by intro q hq l he;subst he;first|(simp at hq;done)|(simp at hq;subst hq;decide)))
   · have hq:shapeQ e.kind=some [.num 1 1,.num 8 1,.num 9 1]:=by rw[q];rfl
     have hc:=valid_parts hv hq;rw[hq];exact encode_core e hw.small ⟨[.num 106 1,.num 107 1,.num 120 1],106,[]⟩ [.num 1 1,.num 8 1,.num 9 1] w hp (fun W=>by rw[q];exact shape9 W) rfl (by decide) (fits_cons (fit_id 1) (fits_cons (fit_item 1) (fits_cons (fit_person 1) fits_nil))) hv hki (wireq_all hw hc.2 (by intro q hq i l he;subst he;simp at hq;omega) (by decide) (by intro q hq l he;subst he;first|(simp at hq;done)|(simp at hq;subst hq;decide)))
 · simp only[hv]
   have HV:=hZ (fun W (h:Below w.heap.size w W)=>valid_walk_E e hw.small W (hp.below h));rw[show validE e=false by simpa using hv] at HV;have IE:=hZ (ientry (e:=e));clear hw hp hv
   go_enter Tryz.func69,Tryz.ntmps69
   go_wp2_with (first
    | ((with_reducible refine box_ent rfl (.tmp 0) rfl e ?hx ?_);(case hx=>rfl);intro w1 he1 hb1 hs1
       have HB1:=hZ hb1;have HRG:=hZ (range_of (cs:=e.cells) he1)
       clear he1 hb1 hs1)
    |((with_reducible refine wpList_load_mid rfl 33 (.tmp 1) rfl w.heap.size 0 ?hx e.cells _ HRG.out Tryz.underlying33 rfl IE.out ?_);(case hx=>rfl))
    | (go_at_call 20;(with_reducible refine(HV.out _ HB1.out).mono ?_);rintro e2 w2 ⟨rfl,hb2⟩
       have HB2:=bTr HB1 hb2
       clear hb2)
    |fail)
   have hfin:(.returned (.tuple #[.string ⟨#[]⟩,.int .i64 180]):Ending)=.returned (.tuple #[.string ⟨#[]⟩,.int .i64 180])∧Below w.heap.size w w2:=⟨rfl,HB2.out⟩;refine bodyPost_ret (v:=.tuple #[.string ⟨#[]⟩,.int .i64 180]) (by simp[results]) rfl ?_;simpa using hfin
def bs (l:List UInt8):ByteArray:=⟨l.toArray⟩
def strGt (a b:List UInt8):Bool:= !(Op.bytesLess (bs a).toList (bs b).toList||(bs a).toList==(bs b).toList)
def sameKey (e f:Ent):Bool:=(bs (keyE e)).toList==(bs (keyE f)).toList
def prevE (e f:Ent):Bool:=validE e&&(validE f&&(sameKey e f&&(decide (f.ver<e.ver)||(decide (e.ver=f.ver)&&strGt (encE e) (encE f)))))
theorem prev_both (e f:Ent) (he:e.Wire) (hf:f.Wire) (w:World) (hp:Pow10 w) (hv:validE e=true) (hu:validE f=true):Calls Tryz.prog 22 #[e.val,f.val] w (ValP w (prevE e f)):=by
 have hpe:prevE e f=(sameKey e f&&(decide (f.ver<e.ver)||(decide (e.ver=f.ver)&&strGt (encE e) (encE f)))):=by unfold prevE;rw[hv,hu];rfl
 rw[hpe];have HE:Hid (∀W,Below w.heap.size w W→Calls Tryz.prog 69 #[e.val] W (EncP W (encE e))):=hZ (fun W h=>(encode_walk e he W (hp.below h)).mono fun _ _ q=>by unfold EncR at q;rw[if_pos hv] at q;exact q);have HF:Hid (∀W,Below w.heap.size w W→Calls Tryz.prog 69 #[f.val] W (EncP W (encE f))):=hZ (fun W h=>(encode_walk f hf W (hp.below h)).mono fun _ _ q=>by unfold EncR at q;rw[if_pos hu] at q;exact q);have HKE:=hZ (fun W (h:Below w.heap.size w W)=>key_walk e he.small W (hp.below h));have HKF:=hZ (fun W (h:Below w.heap.size w W)=>key_walk f hf.small W (hp.below h));have IE:=hZ (ientry (e:=e));have IF:=hZ (ientry (e:=f));obtain⟨se,hse⟩:=oQ (bs (encE e));obtain⟨sf,hsf⟩:=oQ (bs (encE f));obtain⟨ke,hke⟩:=oQ (bs (keyE e));obtain⟨kf,hkf⟩:=oQ (bs (keyE f));have hG:strGt (encE e) (encE f)= !(Op.bytesLess se.toList sf.toList||se.toList==sf.toList):=by unfold strGt;rw[hse,hsf]
 have hS:sameKey e f=(ke.toList==kf.toList):=by unfold sameKey;rw[hke,hkf]
 rw[hG,hS];unfold bs at hse hsf hke hkf;have HSE:=hZ hse;have HSF:=hZ hsf;have HKE2:=hZ hke;have HKF2:=hZ hkf;clear he hf hp hv hu hpe hG hS hse hsf hke hkf
 go_enter Tryz.func22,Tryz.ntmps22
 go_wp2_with (first
  | ((with_reducible refine box_ent rfl (.tmp 0) rfl e ?hx ?_);(case hx=>rfl);intro w1 he1 hb1 hs1
     have HE1:=hZ he1;have HB1:=hZ hb1;obtain⟨b1,hb1e⟩:=oQ (w.heap.size);have HN1:=hZ hb1e;have HE1':Hid (EntAt w1 b1 e):=hZ (by rw[←hb1e];exact he1);rw[hb1e]
     clear he1 hb1 hs1 hb1e)
  | ((with_reducible refine box_ent rfl (.tmp 1) rfl f ?hx ?_);(case hx=>rfl);intro w2 he2 hb2 hs2
     have HB2:=bTr HB1 hb2;have HE2:=hZ (HE1'.out.below hb2);obtain⟨b2,hb2e⟩:=oQ (w1.heap.size);have HF2:Hid (EntAt w2 b2 f):=hZ (by rw[←hb2e];exact he2);rw[hb2e];have HRE:=hZ (range_of (cs:=e.cells) HE2.out)
     clear he2 hb2 hs2 hb2e)
  |((with_reducible refine wpList_load_mid rfl 33 (.tmp 2) rfl b1 0 ?hx e.cells _ HRE.out Tryz.underlying33 rfl IE.out ?_);(case hx=>rfl))
  | (go_at_call 69;(with_reducible refine(HE.out _ HB2.out).mono ?_);rintro e3 w3 ⟨rfl,hb3⟩
     have HB3:=bTr HB2 hb3;have HE3:=hZ (HE2.out.below hb3);have HF3:=hZ (HF2.out.below hb3);have HRF:=hZ (range_of (cs:=f.cells) HF3.out);rw[HSE.out]
     clear hb3)
  |((with_reducible refine wpList_load_mid rfl 33 (.tmp 3) rfl b2 0 ?hx f.cells _ HRF.out Tryz.underlying33 rfl IF.out ?_);(case hx=>rfl))
  | (go_at_call 69;(with_reducible refine(HF.out _ HB3.out).mono ?_);rintro e4 w4 ⟨rfl,hb4⟩
     have HB4:=bTr HB3 hb4;have HE4:=hZ (HE3.out.below hb4);have HF4:=hZ (HF3.out.below hb4);rw[HSF.out]
     clear hb4)
  |fail)
 have hS0:EntAt w4.drew b1 e∧EntAt w4.drew b2 f:=⟨HE4.out,HF4.out⟩;refine wp_region_noPanic ?_;refine wp_region_held_drew (S:=fun U=>EntAt U b1 e∧EntAt U b2 f) (by kernel_rfl) hS0 (fun hHeld=> ?_);refine tk 0 ?_;refine tk 1 ?_;refine tk 2 ?_;refine tk 3 ?_;refine tk 4 ?_;refine tk 5 ?_;refine tk 6 ?_;refine tl 7 rfl (yieldsIf_load_mid (by rfl) 33 (.tmp 2) rfl b1 0 (by rfl) e.cells _ (fun w hw=>range_of hw.1) Tryz.underlying33 rfl IE.out) ?_;refine tl 9 rfl (yieldsIf_load_mid (by rfl) 33 (.tmp 3) rfl b2 0 (by rfl) f.cells _ (fun w hw=>range_of hw.2) Tryz.underlying33 rfl IF.out) ?_;refine rd [8] ?_;refine rcE fun K hK=> ?_;go_simp;have HB4':Hid (Below w.heap.size w w4.drew):=hZ (Below.drew HB4.out)
 (with_reducible refine(HKE.out _ HB4'.out).mono ?_)
 rintro e5 w5 ⟨rfl,hb5⟩;have HB5:=hZ (HB4'.out.trans (hb5.mono HB4'.out.size));have HE5:=hZ (hS0.1.below hb5);have HF5:=hZ (hS0.2.below hb5);rw[HKE2.out];clear hb5;refine kk hK (⟨HE5.out,HF5.out⟩) (fun hHeld=> ?_);clear hK K;refine rd [10] ?_;refine rcE fun K hK=> ?_;go_simp
 (with_reducible refine(HKF.out _ HB5.out).mono ?_)
 rintro e6 w6 ⟨rfl,hb6⟩;have HB6:=bTr HB5 hb6;have HE6:=hZ (HE5.out.below hb6);have HF6:=hZ (HF5.out.below hb6);rw[HKF2.out];clear hb6;refine kk hK (⟨HE6.out,HF6.out⟩) (fun hHeld=> ?_);clear hK K;refine tk 11 ?_;refine tk 12 ?_;refine dn ?_;have v1:=HE6.out.cell (i:=2) rfl;have v2:=HF6.out.cell (i:=2) rfl;clear hHeld;obtain⟨sk,hsk⟩:=oQ ((ke.toList==kf.toList));obtain⟨c1,hc1⟩:=oQ (decide (f.ver<e.ver));obtain⟨c2,hc2⟩:=oQ (decide (e.ver=f.ver))
 cases sk<;>cases c1<;>cases c2<;>
 · rw[hsk]
   have hc3:(e.ver==f.ver)=decide (e.ver=f.ver):=rfl;rw[hc2] at hc3;go_wp2;go_ret;refine⟨?_,HB6.out⟩;rw[hsk,hc1,hc2]
   first|rfl|simp
theorem prev_none (e f:Ent) (he:e.Wire) (hf:f.Wire) (w:World) (hp:Pow10 w) (ve vf:Bool) (hv:validE e=ve) (hu:validE f=vf) (hb:(ve&&vf)=false):Calls Tryz.prog 22 #[e.val,f.val] w (ValP w false):=by
 obtain⟨se,ce,HE⟩:∃(se:ByteArray) (ce:Int),Hid (∀W,Below w.heap.size w W→Calls Tryz.prog 69 #[e.val] W (fun r w'=>r=.returned (.tuple #[.string se,.int .i64 ce])∧Below W.heap.size W w'))∧Hid ((ce !=0)= !ve):=by
  cases ve
  · exact⟨⟨#[]⟩,180,hZ (fun W h=>(encode_walk e he W (hp.below h)).mono fun _ _ q=>by unfold EncR at q;rw[if_neg (by rw[hv];decide)] at q;exact q),hZ rfl⟩
  · exact⟨_,0,hZ (fun W h=>(encode_walk e he W (hp.below h)).mono fun _ _ q=>by unfold EncR at q;rw[if_pos hv] at q;exact q),hZ rfl⟩
 obtain⟨sf,cf,HF⟩:∃(sf:ByteArray) (cf:Int),Hid (∀W,Below w.heap.size w W→Calls Tryz.prog 69 #[f.val] W (fun r w'=>r=.returned (.tuple #[.string sf,.int .i64 cf])∧Below W.heap.size W w'))∧Hid ((cf !=0)= !vf):=by
  cases vf
  · exact⟨⟨#[]⟩,180,hZ (fun W h=>(encode_walk f hf W (hp.below h)).mono fun _ _ q=>by unfold EncR at q;rw[if_neg (by rw[hu];decide)] at q;exact q),hZ rfl⟩
  · exact⟨_,0,hZ (fun W h=>(encode_walk f hf W (hp.below h)).mono fun _ _ q=>by unfold EncR at q;rw[if_pos hu] at q;exact q),hZ rfl⟩
 obtain⟨HE,hce⟩:=HE;obtain⟨HF,hcf⟩:=HF;have IE:=hZ (ientry (e:=e));have IF:=hZ (ientry (e:=f));have hce:=hce.out;have hcf:=hcf.out
 have hcz:(ce !=0)=true∨((ce !=0)=false∧(cf !=0)=true):=by
  rw[hce,hcf];cases ve<;>cases vf<;>simp at hb⊢
 have HCZ:=hZ hcz;clear he hf hp hv hu hb hce hcf hcz
 go_enter Tryz.func22,Tryz.ntmps22
 go_wp2_with (first
  | ((with_reducible refine box_ent rfl (.tmp 0) rfl e ?hx ?_);(case hx=>rfl);intro w1 he1 hb1 hs1
     have HB1:=hZ hb1;obtain⟨b1,hb1e⟩:=oQ (w.heap.size);have HE1':Hid (EntAt w1 b1 e):=hZ (by rw[←hb1e];exact he1);rw[hb1e]
     clear he1 hb1 hs1 hb1e)
  | ((with_reducible refine box_ent rfl (.tmp 1) rfl f ?hx ?_);(case hx=>rfl);intro w2 he2 hb2 hs2
     have HB2:=bTr HB1 hb2;have HE2:=hZ (HE1'.out.below hb2);obtain⟨b2,hb2e⟩:=oQ (w1.heap.size);have HF2:Hid (EntAt w2 b2 f):=hZ (by rw[←hb2e];exact he2);rw[hb2e];have HRE:=hZ (range_of (cs:=e.cells) HE2.out)
     clear he2 hb2 hs2 hb2e)
  |((with_reducible refine wpList_load_mid rfl 33 (.tmp 2) rfl b1 0 ?hx e.cells _ HRE.out Tryz.underlying33 rfl IE.out ?_);(case hx=>rfl))
  | (go_at_call 69;(with_reducible refine(HE.out _ HB2.out).mono ?_);rintro e3 w3 ⟨rfl,hb3⟩
     have HB3:=bTr HB2 hb3;have HF3:=hZ (HF2.out.below hb3);have HRF:=hZ (range_of (cs:=f.cells) HF3.out)
     clear hb3)
  |((with_reducible refine wpList_load_mid rfl 33 (.tmp 3) rfl b2 0 ?hx f.cells _ HRF.out Tryz.underlying33 rfl IF.out ?_);(case hx=>rfl))
  | (go_at_call 69;(with_reducible refine(HF.out _ HB3.out).mono ?_);rintro e4 w4 ⟨rfl,hb4⟩
     have HB4:=bTr HB3 hb4
     clear hb4)
  |fail)
 have HB4':Hid (Below w.heap.size w w4.drew):=hZ (Below.drew HB4.out);have hS0:True:=trivial;rcases HCZ.out with z1|⟨z1,z2⟩
 ·
  refine wp_region_noPanic ?_;refine wp_region_held_drew (S:=fun _=>True) (by kernel_rfl) hS0 (fun hHeld=> ?_);refine tk 0 ?_;refine tk 1 ?_;refine tk 2 ?_;refine tn 3 ?_;refine tn 4 ?_;refine tk 5 ?_;refine tk 6 ?_;refine tn 7 ?_;refine tn 8 ?_;refine tn 9 ?_;refine tn 10 ?_;refine tn 11 ?_;refine tk 12 ?_;refine dn ?_;go_wp2;go_ret;exact⟨rfl,HB4'.out⟩
 ·
  refine wp_region_noPanic ?_;refine wp_region_held_drew (S:=fun _=>True) (by kernel_rfl) hS0 (fun hHeld=> ?_);refine tk 0 ?_;refine tk 1 ?_;refine tk 2 ?_;refine tk 3 ?_;refine tk 4 ?_;refine tk 5 ?_;refine tk 6 ?_;refine tn 7 ?_;refine tn 8 ?_;refine tn 9 ?_;refine tn 10 ?_;refine tn 11 ?_;refine tk 12 ?_;refine dn ?_;go_wp2;go_ret;exact⟨rfl,HB4'.out⟩
theorem prev_walk (e f:Ent) (he:e.Wire) (hf:f.Wire) (w:World) (hp:Pow10 w):Calls Tryz.prog 22 #[e.val,f.val] w (ValP w (prevE e f)):=by
 cases hv:validE e with
 | false=>
   (have:prevE e f=false:=by unfold prevE;rw[hv];rfl);rw[this]
   exact prev_none e f he hf w hp false _ hv rfl rfl
 | true=>
   cases hu:validE f with
   | false=>
     (have:prevE e f=false:=by unfold prevE;rw[hv,hu];rfl);rw[this]
     exact prev_none e f he hf w hp true false hv hu rfl
   |true=>exact prev_both e f he hf w hp hv hu
end Go.Proofs.YteeifhlhpiimoaaGreatDoor
end
section
namespace Go.Proofs.YteeifhlhpiimoaaGreatDoor
open Go Go.RowKit Go.Shelf Go.Maps Wr
attribute [local go_sem] Oper.semAt_some
theorem bytes_ext {a b:ByteArray} (h:a.data=b.data):a=b:=by cases a;cases b;cases h;rfl
theorem Ent.val_inj {e f:Ent} (h:e.val=f.val):e=f:=by
 cases e;cases f;simp[Ent.val,Ent.cells] at h;simp[h]
noncomputable def rdE (v:Value):Option (DataW Ent×List MemPlace):=open Classical in if h:∃e:Ent,v=e.val then some (.held h.choose,[]) else none
theorem rdE_val (e:Ent):rdE e.val=some (.held e,[]):=by
 unfold rdE;have h:∃x:Ent,e.val=x.val:=⟨e,rfl⟩;rw[dif_pos h];rw[←Ent.val_inj h.choose_spec]
theorem rdE_inv {v:Value} {y:DataW Ent×List MemPlace} (h:rdE v=some y):∃e:Ent,v=e.val∧y=(.held e,[]):=by
 unfold rdE at h
 split at h
 · rename_i hx
   exact⟨_,hx.choose_spec,(Option.some.inj h).symm⟩
 · cases h
def klit (k:List UInt8):Lit:=.string k
theorem klit_inj {a b:List UInt8} (h:klit a=klit b):a=b:=by injection h
theorem klit_key (k:List UInt8):WideAt.IsKeyLit (klit k):=trivial
structure RepM (D:DataW Ent) (acc:List Ent):Prop where
 isMap:IsMap D
 keyd:Keyd keyE acc
 at_:∀e∈acc,∀z,D.atKey (klit (keyE e)) z=.held e
 no:∀kl,(∀e∈acc,klit (keyE e)≠kl)→has D kl=false
theorem RepM.nil:RepM (.map []) []:=⟨isMap_empty,List.Pairwise.nil,fun e h=>(by cases h),fun kl _=>rfl⟩
theorem RepM.has {D:DataW Ent} {acc:List Ent} (h:RepM D acc) {e:Ent} (he:e∈acc):Maps.has D (klit (keyE e))=true:=has_true_of_atKey (h.at_ e he)
theorem RepM.put {D:DataW Ent} {acc acc':List Ent} (h:RepM D acc) (e:Ent) (hk:Keyd keyE acc') (hm:∀x,x∈acc'↔x=e∨(x∈acc∧keyE x≠keyE e)):RepM (D.put (klit (keyE e)) (.held e)) acc':=by
 refine⟨h.isMap.put _ _,hk,fun x hx z=> ?_,fun kl hkl=> ?_⟩
 · rcases(hm x).1 hx with rfl|⟨h1,h2⟩
   · exact atKey_put_same h.isMap (klit_key _) _ _
   · rw[atKey_put_other (fun q=>h2 (klit_inj q))];exact h.at_ x h1 z
 · rw[has_put_other (fun q=>hkl e ((hm e).2 (.inl rfl)) q.symm)]
   refine h.no kl fun x hx q=> ?_
   by_cases hxe:keyE x=keyE e
   · exact hkl e ((hm e).2 (.inl rfl)) (by rw[←hxe];exact q)
   · exact hkl x ((hm x).2 (.inr ⟨hx,hxe⟩)) q
theorem RepM.del {D:DataW Ent} {acc acc':List Ent} (h:RepM D acc) (k:List UInt8) (hk:Keyd keyE acc') (hm:∀x,x∈acc'↔x∈acc∧keyE x≠k):RepM (D.del (klit k)) acc':=by
 refine⟨h.isMap.del _,hk,fun x hx z=> ?_,fun kl hkl=> ?_⟩
 · obtain⟨h1,h2⟩:=(hm x).1 hx
   rw[atKey_del_other (fun q=>h2 (klit_inj q))];exact h.at_ x h1 z
 · by_cases hkk:kl=klit k
   · subst hkk;exact has_del_same
   · rw[has_del_other hkk]
     refine h.no kl fun x hx q=> ?_
     by_cases hxe:keyE x=k
     · exact hkk (by rw[←q,hxe])
     · exact hkl x ((hm x).2 ⟨hx,hxe⟩) q
theorem RepM.out {D:DataW Ent} {acc:List Ent} (h:RepM D acc) {kl:Lit} {y:DataW Ent} (hat:∀z,D.atKey kl z=y):∃e∈acc,kl=klit (keyE e)∧y=.held e:=by
 have hh:=has_true_of_atKey hat;apply Classical.byContradiction;intro hn;have:=h.no kl fun e he q=>hn ⟨e,he,q.symm,by rw[←hat .nil,←q];exact h.at_ e he _⟩;rw[hh] at this;cases this
theorem keyedS:Keyed Tryz.prog 9:=string_keyed Tryz.underlying9
theorem key_mk (k:List UInt8) (h:k.length≤maxLen):keyOf Tryz.prog 9 (.string (bs k))=some (klit k):=WideMaps.keyOf_string_mk Tryz.underlying9 (by show k.toArray.size≤_;simpa using h)
theorem keyE_len (e:Ent):(keyE e).length≤maxLen:=by
 unfold keyE
 split
 · have h1:=putI_length e.kind
   have h2:=putI_length (e.num (keyIx e.kind));rw[List.length_append];unfold maxLen;omega
 · simp
theorem zero_ent (w:World):(zeroValue 33).run Tryz.prog w=.ok zeroE.val w:=by kernel_rfl
def MapAt (w:World) (b n:Nat) (acc:List Ent):Prop:=∃D:DataW Ent,w.ownsMap Tryz.prog 9 rdE b n D∧RepM D acc
theorem MapAt.mono {w:World} {b n m:Nat} {acc:List Ent} (h:MapAt w b n acc) (hn:n≤m):MapAt w b m acc:=by
 obtain⟨D,h1,h2⟩:=h;exact⟨D,h1.mono hn,h2⟩
theorem grown_of_below {w w':World} (h:Below w.heap.size w w'):w.grownBy w' none:=⟨h.os,h.tape,h.output,h.size,fun k hk _=>h.block k hk⟩
theorem MapAt.below {w w':World} {b n:Nat} {acc:List Ent} (h:MapAt w b n acc) (hb:Below w.heap.size w w'):MapAt w' b n acc:=by
 obtain⟨D,h1,h2⟩:=h;exact⟨D,h1.kept (grown_of_below hb) (by simp),h2⟩
theorem MapAt.made (w:World):MapAt (w.alloc (.map #[] 0)) w.heap.size 0 []:=⟨_,World.ownsMap_made w _ _ _,RepM.nil⟩
theorem MapAt.look {w:World} {b n:Nat} {acc:List Ent} (h:MapAt w b n acc) (k:List UInt8) (hk:k.length≤maxLen):
 (Instr.lookup 100 (.map (some b)) (.string (bs k)) true).run Tryz.prog w=.ok (.tuple #[((acc.find? fun x=>decide (keyE x=k)).getD zeroE).val,.bool (acc.find? fun x=>decide (keyE x=k)).isSome]) w:=by
 obtain⟨D,h1,h2⟩:=h;obtain⟨v,ps,hr,hv⟩:=h1.look_ok keyedS Tryz.underlying100 (zero_ent w) (rdE_val zeroE) (key_mk k hk);rw[hr];obtain⟨e,rfl,he⟩:=rdE_inv hv
 cases hf:acc.find? (fun x=>decide (keyE x=k)) with
 | none=>
   have hn:has D (klit k)=false:=h2.no _ fun x hx q=>by
    have:=List.find?_eq_none.1 hf x hx;exact this (by simp[klit_inj q])
   rw[hn]
   have:(DataW.held e:DataW Ent)=.held zeroE:=by
    have:=congrArg Prod.fst he;simp only at this;rw[←this];exact atKey_of_not_has hn _
   have he2:e=zeroE:=by injection this
   rw[he2,Option.getD_none,Option.isSome_none]
 | some x=>
   obtain⟨hx,hkx⟩:=find_key hf;subst hkx;rw[h2.has hx]
   have:(DataW.held e:DataW Ent)=.held x:=by
    have:=congrArg Prod.fst he;simp only at this;rw[←this];exact h2.at_ x hx _
   (have he2:e=x:=by injection this);rw[he2,Option.getD_some,Option.isSome_some]
def putL (acc:List Ent) (e:Ent):List Ent:=match acc.find? (fun x=>decide (keyE x=keyE e)) with
 |none=>acc++[e]
 |some _=>acc.map (fun x=>if keyE x=keyE e then e else x)
theorem putL_mem {acc:List Ent} (_h:Keyd keyE acc) (e x:Ent):x∈putL acc e↔x=e∨(x∈acc∧keyE x≠keyE e):=by
 unfold putL
 cases hf:acc.find? (fun x=>decide (keyE x=keyE e)) with
 | none=>
   have:=find_none hf;simp only[List.mem_append,List.mem_singleton];constructor
   · rintro(q|q)
     · exact .inr ⟨q,this x q⟩
     · exact .inl q
   · rintro(q|q)
     · exact .inr q
     · exact .inl q.1
 | some old=>
   obtain⟨ho,hk⟩:=find_key hf;simp only[List.mem_map];constructor
   · rintro⟨y,hy,q⟩
     split at q
     · exact .inl q.symm
     · subst q;rename_i hne;exact .inr ⟨hy,hne⟩
   · rintro(q|⟨q1,q2⟩)
     · exact⟨old,ho,by rw[if_pos hk,q]⟩
     · exact⟨x,q1,by rw[if_neg q2]⟩
theorem putL_keyd {acc:List Ent} (h:Keyd keyE acc) (e:Ent):Keyd keyE (putL acc e):=by
 unfold putL
 split
 · rename_i hf
   refine List.pairwise_append.2 ⟨h,List.pairwise_singleton _ _,fun a ha b hb=> ?_⟩;rw[List.mem_singleton.1 hb];exact find_none hf a ha
 · refine List.Pairwise.map _ (fun a b hab=> ?_) h
   by_cases ha:keyE a=keyE e
   · by_cases hb:keyE b=keyE e
     · exact(hab (ha.trans hb.symm)).elim
     · rw[if_pos ha,if_neg hb];exact fun q=>hb q.symm
   · by_cases hb:keyE b=keyE e
     · rw[if_neg ha,if_pos hb];exact ha
     · rw[if_neg ha,if_neg hb];exact hab
theorem wpList_put_ent {ops:Array Oper} {rest:List Oper} {o:Oper} {a:Act} {w:World} {Q:Exit→Act→World→Prop} (hg:o.guard=none) (m x v:Operand) (hop:o.op=Op.mapUpdate 100 m x v) (hd:o.dst=none)
 (b n:Nat) (acc:List Ent) (h:MapAt w b n acc) (hn:n<maxLen) (e:Ent) (hm:a.eval m=.map (some b)) (hx:a.eval x=.string (bs (keyE e))) (hv:a.eval v=e.val)
 (hK:∀w',MapAt w' b (n+1) (putL acc e)→w.grownBy w' (some b)→wpList Tryz.prog ops Q rest a w'):wpList Tryz.prog ops Q (o::rest) a w:=by
 obtain⟨D,h1,h2⟩:=h;refine wpList_mapUpdate_own w hg m x v 100 hop 9 33 keyedS Tryz.underlying100 rdE b n D hm h1 hn _ _ (klit (keyE e)) hx hv (key_mk _ (keyE_len e)) (.held e) [] (rdE_val e) ?_;intro w' r1 r2;rw[hd];exact hK w' ⟨_,r1,h2.put e (putL_keyd h2.keyd e) fun y=>putL_mem h2.keyd e y⟩ r2
theorem effect1_walk (k:Value) (e:Ent) (w:World):Calls Tryz.prog 101 #[k,e.val] w (ValP w e.gone):=by
 go_enter Tryz.func101,Tryz.ntmps101
 go_wp2_with (first
  | ((with_reducible refine box_ent rfl (.tmp 1) rfl e ?hx ?_);(case hx=>rfl);intro w1 he1 hb1 hs1
     have x1:=he1.cell (i:=4) rfl;have HB1:=hZ hb1
     clear he1 hb1 hs1)
  |fail)
 go_ret;exact⟨rfl,HB1.out⟩
theorem key_inv {key:Value} {kl:Lit} (h:keyOf Tryz.prog 9 key=some kl):∃s:ByteArray,key=.string s:=by
 cases key<;>simp[keyOf,mapKey,Tryz.underlying9] at h;exact⟨_,rfl⟩
def leftL (acc:List Ent) (left:Lit→Bool):List Ent:=acc.filter fun e=> !e.gone||left (klit (keyE e))
theorem leftL_keyd {acc:List Ent} (h:Keyd keyE acc) (left:Lit→Bool):Keyd keyE (leftL acc left):=List.Pairwise.filter _ h
theorem strike (left:Lit→Bool) (kl:Lit) {e:Ent} (h:klit (keyE e)≠kl):(left (klit (keyE e))&& !(klit (keyE e)).sameKey kl)=left (klit (keyE e)):=by
 rw[sameKey_ne h];simp
theorem strike_same (left:Lit→Bool) (k:List UInt8):(left (klit k)&& !(klit k).sameKey (klit k))=false:=by
 rw[WideAt.sameKey_self (klit_key k)];simp
theorem leftL_stays {acc:List Ent} (hk:Keyd keyE acc) {left:Lit→Bool} {e:Ent} (he:e∈acc) (hg:e.gone=false):leftL acc (fun z=>left z&& !z.sameKey (klit (keyE e)))=leftL acc left:=by
 unfold leftL;refine List.filter_congr fun x hx=> ?_
 by_cases hxe:keyE x=keyE e
 · rw[hk.one hx he hxe,hg];simp
 · have:=strike left (klit (keyE e)) (fun q=>hxe (klit_inj q))
   simp only[this]
theorem leftL_struck {acc:List Ent} (hk:Keyd keyE acc) {left:Lit→Bool} {e:Ent} (he:e∈acc) (hg:e.gone=true) (x:Ent):x∈leftL acc (fun z=>left z&& !z.sameKey (klit (keyE e)))↔x∈leftL acc left∧keyE x≠keyE e:=by
 unfold leftL;simp only[List.mem_filter]
 by_cases hxe:keyE x=keyE e
 · constructor
   · rintro⟨hx,q⟩
     obtain rfl:=hk.one hx he hxe;rw[hg,strike_same] at q;simp at q
   · rintro⟨_,q⟩;exact(q hxe).elim
 · rw[strike left _ (fun q=>hxe (klit_inj q))]
   simp[hxe]
theorem delete_walk (b n:Nat) (acc:List Ent) (w:World) (h:MapAt w b n acc):
 Calls Tryz.prog 100 #[.map (some b),.func (.func 101) #[] #[]] w fun e w'=>e=.returned (.tuple #[])∧MapAt w' b n (acc.filter fun e=> !e.gone)∧w.grownBy w' (some b):=by
 obtain⟨D,hown,hrep⟩:=h;have HREP:=hZ hrep;have IE:=fun e:Ent=>hZ (ientry (e:=e))
 have hstart:RepM D (leftL acc (has D)):=by
  have:leftL acc (has D)=acc:=by
   unfold leftL;rw[List.filter_eq_self];intro x hx;rw[hrep.has hx];simp
  rw[this];exact hrep
 have HST:=hZ hstart;have e101:∀args W,(callFunc 101 args).run Tryz.prog W=.ok (.enter 101 args) W:=enters_of Tryz.func101 (by kernel_rfl) rfl;clear hrep hstart
 go_enter Tryz.func100,Tryz.ntmps100
 go_wp2_with (first
  |(at_range;refine wpList_range_own _ rfl _ 100 rfl 9 33 keyedS Tryz.underlying100 rdE b n _ rfl hown ?_;intro w0 hrg0 hg0 hs0)
  |fail)
 go_frame
 go_loopw [8] (fun _ wr=> ∃(D':DataW Ent) (left:Lit→Bool) (cnt:Nat),wr.ranges Tryz.prog 9 rdE b w.heap.size n D' left cnt∧RepM D' (leftL acc left)∧w.grownBy wr (some b))
  (fun _ wr=>wr.rangeLeft b w.heap.size)
 case atStart=>exact⟨_,_,_,hrg0,HST.out,hg0.but _⟩
 case round=>
  obtain⟨D',left,cnt,hrg,hrep,hgw⟩:=hrel;have HREP2:=hZ hrep;have HGW:=hZ hgw;clear hrg0 hg0 hs0 hrep hgw
  go_wp2_with (first
   |(at_next;refine wpList_next_ranges _ rfl _ rfl 9 keyedS rdE Value.string Ent.val (fun _ _ q=>key_inv q) (fun v y q=>(rdE_inv q).imp fun _ q=>q.1) b w.heap.size n _ _ _ rfl hrg ?_ ?_)
   |fail)
  · intro _ hl0
    go_wp2
    go_end0
    refine⟨rfl,⟨D',hrg.owns,?_⟩,HGW.out⟩
    have:leftL acc left=acc.filter fun e=> !e.gone:=by
     unfold leftL;refine List.filter_congr fun x _=> ?_;rw[hl0];simp
    rw[←this];exact HREP2.out
  · intro x c kl yd yp w1 cnt1 hkey hlx hv hat hrg1 hlt hg1 hs1 hen
    obtain⟨e,he,rfl,hye⟩:=HREP2.out.out hat;obtain⟨c2,hc2,hy2⟩:=rdE_inv hv;obtain rfl:c=c2:=Ent.val_inj hc2
    have hce:c=e:=by
     have:=congrArg Prod.fst hy2;simp only at this;rw[hye] at this;injection this with this;exact this.symm
    subst hce;have HRG1:=hZ hrg1;have HGW1:=hZ (HGW.out.andThen hg1 (fun j hj=>by cases hj;exact Or.inl (Nat.le_refl _)));have HX:=hZ (And.intro hkey he);have HLT:=hZ hlt;have HRG0:=hZ hrg;have HMEM:Hid (c∈acc):=hZ (by unfold leftL at he;exact(List.mem_filter.1 he).1);clear hkey hlx hv hat hrg1 hlt hg1 hs1 hc2 hy2 hye he hrg;cases hgone:c.gone
    · go_wp2_with (first
       | ((with_reducible refine store_new rfl (.tmp 5) (.tmp 12) rfl rfl c rfl rfl ?hi ?ho ?_);(case hi=>exact(IE c).out);(case ho=>rfl);intro w2 he2 hb2 hs2
          have HRG2:=hZ (HRG1.out.kept (grown_of_below hb2) (by simp) (by simp));have HGW2:=hZ (HGW1.out.andThen (grown_of_below hb2) (fun j hj=>by cases hj));have HC:=hZ (effect1_walk (.string x) c w2);have HR:=hZ (range_of (cs:=c.cells) he2);rw[hgone] at HC
          clear he2 hb2 hs2)
       |((with_reducible refine wpList_load_mid rfl 33 (.tmp 5) rfl w1.heap.size 0 ?hx c.cells _ HR.out Tryz.underlying33 rfl (IE c).out ?_);(case hx=>rfl))
       | (go_at_fn 101;refine HC.out.mono ?_;rintro e3 w3 ⟨rfl,hb3⟩
          have HRG3:=hZ (HRG2.out.kept (grown_of_below hb3) (by simp) (by simp));have HGW3:=hZ (HGW2.out.andThen (grown_of_below hb3) (fun j hj=>by cases hj))
          clear hb3)
       |fail)
      go_roundw
      case rel=>
       refine⟨_,_,_,HRG3.out,?_,HGW3.out⟩;rw[leftL_stays HREP.out.keyd HMEM.out hgone];exact HREP2.out
      case measure=>rw[HRG3.out.left_eq,HRG0.out.left_eq];exact HLT.out
    · go_wp2_with (first
       | ((with_reducible refine store_new rfl (.tmp 5) (.tmp 12) rfl rfl c rfl rfl ?hi ?ho ?_);(case hi=>exact(IE c).out);(case ho=>rfl);intro w2 he2 hb2 hs2
          have HRG2:=hZ (HRG1.out.kept (grown_of_below hb2) (by simp) (by simp));have HGW2:=hZ (HGW1.out.andThen (grown_of_below hb2) (fun j hj=>by cases hj));have HC:=hZ (effect1_walk (.string x) c w2);have HR:=hZ (range_of (cs:=c.cells) he2);rw[hgone] at HC
          clear he2 hb2 hs2)
       |((with_reducible refine wpList_load_mid rfl 33 (.tmp 5) rfl w1.heap.size 0 ?hx c.cells _ HR.out Tryz.underlying33 rfl (IE c).out ?_);(case hx=>rfl))
       | (go_at_fn 101;refine HC.out.mono ?_;rintro e3 w3 ⟨rfl,hb3⟩
          have HRG3:=hZ (HRG2.out.kept (grown_of_below hb3) (by simp) (by simp));have HGW3:=hZ (HGW2.out.andThen (grown_of_below hb3) (fun j hj=>by cases hj))
          clear hb3)
       | (at_delete;refine wpList_delete_ranges _ rfl _ _ 100 9 rfl 33 keyedS Tryz.underlying100 rdE b w.heap.size n _ _ _ rfl HRG3.out _ _ rfl HX.out.1 ?_
          intro w4 cnt4 hrg4 hle hturn;rw[strike_twice] at hrg4;have HRG4:=hZ hrg4;have HGW4:=hZ (HGW3.out.andThen hturn.grown (fun j hj=>by cases hj;exact Or.inr rfl));have HLE:=hZ hle;clear hrg4 hle hturn
          go_frame)
       |fail)
      go_roundw
      case rel=>
       exact⟨_,_,_,HRG4.out,HREP2.out.del (keyE c) (leftL_keyd HREP.out.keyd _) (fun z=>leftL_struck HREP.out.keyd HMEM.out hgone z),HGW4.out⟩
      case measure=>rw[HRG4.out.left_eq,HRG0.out.left_eq];exact Nat.lt_of_le_of_lt HLE.out HLT.out
theorem wpList_load_midw {P:Program} {ops:Array Oper} {Q:Exit→Act→World→Prop} {a:Act} {w:World} {rest:List Oper} {o:Oper} (hw:Region.wanted o (yielded ops a.tmps)=true) (ty:TypeId) (x:Operand) (ho:o.op=.load ty x)
 (b k:Nat) (hx:a.eval x=.pointer (some ⟨b,k,none⟩)) (cs:List Value) (d:TypeDesc) (hc:w.rangeAt b k cs)
 (hu:P.underlying ty=some d) (hd:d.isRow=true) (hi:(P.info? ty).map (·.size)=some cs.length)
 (h:wpList P ops Q rest (a.put o.dst (.agg cs.toArray)) w):wpList P ops Q (o::rest) a w:=by
 refine wpList_step fun K hK=> ?_;rw[if_pos hw];exact wp_load_mid ty x ho b k hx cs d hc hu hd hi (hK _ _ h)
def okD (day:Int) (e:Ent):Bool:=validE e&&decide (e.day≤day)
def effD (l:List Ent) (day:Int):List Ent:=(effL (okD day) keyE prevE l).filter fun e=> !e.gone
theorem effect_walk (l:List Ent) (day:Int) (A:Option Addr) (n c:Nat) (hn:l.length=n) (hm:n≤1000000) (w:World) (hA:EAt w (Old w) A l) (hw:∀e∈l,e.Wire) (hp:Pow10 w):
 Calls Tryz.prog 57 #[.slice A n c,.int .i64 day] w fun e w'=> ∃b,e=.returned (.map (some b))∧w.heap.size≤b∧MapAt w' b n (effD l day)∧Below w.heap.size w w':=by
 have HA:=hZ hA;have HWL:=hZ hw;have HP:=hZ hp;have HN:=hZ hn;have IE:=fun e:Ent=>hZ (ientry (e:=e));have hmm:= @run_makeMap Tryz.prog;have e101:∀args W,(callFunc 101 args).run Tryz.prog W=.ok (.enter 101 args) W:=enters_of Tryz.func101 (by kernel_rfl) rfl;clear hA hw hp hn
 go_enter Tryz.func57,Tryz.ntmps57
 go_wp2_with fail;have HM0:=hZ (MapAt.made w);obtain⟨wm,hwm⟩:=oQ (w.alloc (.map #[] 0));obtain⟨bm,hbm⟩:=oQ (w.heap.size);have HB0:Hid (Below w.heap.size w wm):=hZ (by rw[←hwm];exact below_new _ _);rw[hwm,hbm] at HM0;rw[hwm,hbm];have HBM:Hid (w.heap.size≤bm):=hZ (by omega);clear hwm hbm hmm
 go_loopw [14] (fun v wr=> ∃i:Nat,v=.int .i64 (i:Int)∧i≤n∧MapAt wr bm i ((l.take i).foldl (takeL (okD day) keyE prevE) [])∧Below w.heap.size w wr) (fun v _=>match v with|.int _ k=>n-k.toNat|_=>0)
 case atStart=>exact⟨0,rfl,Nat.zero_le _,HM0.out,HB0.out⟩
 case round=>
 obtain⟨i,rfl,hi,hM,hB⟩:=hrel;have HM:=hZ hM;have HB:=hZ hB;clear hM hB
 by_cases hlt:i<n
 · obtain ⟨e,he⟩:∃e,l[i]?=some e:=⟨_,List.getElem?_eq_getElem (by rw[HN.out];exact hlt)⟩
   obtain⟨b,hAb,-,hrg⟩:=(HA.out.below HB.out) i e he;subst hAb;have HRG:=hZ hrg;have HW:=hZ (HWL.out e (List.mem_of_getElem? he));have HWA:Hid (∀x∈(l.take i).foldl (takeL (okD day) keyE prevE) [],x.Wire):=hZ fun x hx=>HWL.out x (List.mem_of_mem_take (effL_ok (ok:=okD day) (key:=keyE) (prev:=prevE) (l.take i) x hx).1)
   have htk:(l.take (i+1)).foldl (takeL (okD day) keyE prevE) []=takeL (okD day) keyE prevE ((l.take i).foldl (takeL (okD day) keyE prevE) []) e:=by
    rw[List.take_add_one,he,List.foldl_append];rfl
   obtain⟨acc,hacc⟩:=oQ ((l.take i).foldl (takeL (okD day) keyE prevE) []);rw[hacc] at htk HM HWA;have HT:=hZ htk;(have z1:(0:Int)≤(i:Int):=by omega);(have z2:(i:Int)<(n:Int):=by omega);(have d1:decide (i<n)=true:=by simp[hlt]);(have w2:IntKind.i64.wrap ((i:Int)+1)=((i+1:Nat):Int):=by rw[IntKind.wrap_i64];omega);obtain⟨ve,hve⟩:=oQ (validE e);clear he hrg htk hacc
   cases ve with
   | false=>
     (have htk:(l.take (i+1)).foldl (takeL (okD day) keyE prevE) []=acc:=by rw[HT.out];unfold takeL;rw[if_neg (by unfold okD;rw[hve];simp)]);have HTK:=hZ htk;clear htk
     go_wp2_with (first
      |((with_reducible refine wpList_load_mid rfl 33 (.tmp 16) rfl b (i*18) ?hx e.cells _ HRG.out Tryz.underlying33 rfl (IE e).out ?_);(case hx=>rfl))
      | ((with_reducible refine store_new rfl (.tmp 7) (.tmp 17) rfl rfl e rfl rfl ?hi ?ho ?_);(case hi=>exact(IE e).out);(case ho=>rfl);intro w1 he1 hb1 hs1
         have HM1:=hZ (HM.out.below hb1);have HB1:=bTr HB hb1;have HE1:=hZ he1;obtain⟨b7,hb7⟩:=oQ (wr.heap.size);rw[hb7] at HE1;rw[hb7];have HR1:=hZ (range_of (cs:=e.cells) HE1.out);have HV:=hZ (valid_walk_E e HW.out.small w1 (HP.out.below HB1.out));rw[hve] at HV
         clear he1 hb1 hs1 hb7)
      |((with_reducible refine wpList_load_mid rfl 33 (.tmp 7) rfl b7 0 ?hx e.cells _ HR1.out Tryz.underlying33 rfl (IE e).out ?_);(case hx=>rfl))
      | (go_at_call 20;(with_reducible refine HV.out.mono ?_);rintro e2 w2 ⟨rfl,hb2⟩
         have HM2:=hZ (HM1.out.below hb2);have HB2:=bTr HB1 hb2;have HE2:=hZ (HE1.out.below hb2);have HR2:=hZ (range_of (cs:=e.cells) HE2.out);have x3:=HE2.out.cell (i:=3) rfl
         clear hb2)
      |fail)
     go_round
     case rel=>exact⟨i+1,rfl,by omega,by rw[HTK.out];exact HM2.out.mono (by omega),HB2.out⟩
     case measure=>simp;omega
   | true =>
     by_cases hd:e.day≤day
     · have d2 :decide (day<e.day)=false:=by simp;omega
       (have hok:okD day e=true:=by unfold okD;rw[hve];simp[hd]);have HOK:=hZ hok;clear hok hd;obtain⟨fo,hfo⟩:=oQ (acc.find? (fun x=>decide (keyE x=keyE e)));have HF:=hZ hfo;clear hfo
       cases fo with
       | none=>
         (have htk:(l.take (i+1)).foldl (takeL (okD day) keyE prevE) []=putL acc e:=by rw[HT.out];unfold takeL putL;rw[if_pos HOK.out,HF.out]);have HTK:=hZ htk;clear htk
         go_wp2_with (first
          |((with_reducible refine wpList_load_mid rfl 33 (.tmp 16) rfl b (i*18) ?hx e.cells _ HRG.out Tryz.underlying33 rfl (IE e).out ?_);(case hx=>rfl))
          | ((with_reducible refine store_new rfl (.tmp 7) (.tmp 17) rfl rfl e rfl rfl ?hi ?ho ?_);(case hi=>exact(IE e).out);(case ho=>rfl);intro w1 he1 hb1 hs1
             have HM1:=hZ (HM.out.below hb1);have HB1:=bTr HB hb1;have HE1:=hZ he1;obtain⟨b7,hb7⟩:=oQ (wr.heap.size);rw[hb7] at HE1;rw[hb7];have HR1:=hZ (range_of (cs:=e.cells) HE1.out);have HV:=hZ (valid_walk_E e HW.out.small w1 (HP.out.below HB1.out));rw[hve] at HV
             clear he1 hb1 hs1 hb7)
          |((with_reducible refine wpList_load_mid rfl 33 (.tmp 7) rfl b7 0 ?hx e.cells _ HR1.out Tryz.underlying33 rfl (IE e).out ?_);(case hx=>rfl))
          | (go_at_call 20;(with_reducible refine HV.out.mono ?_);rintro e2 w2 ⟨rfl,hb2⟩
             have HM2:=hZ (HM1.out.below hb2);have HB2:=bTr HB1 hb2;have HE2:=hZ (HE1.out.below hb2);have HR2:=hZ (range_of (cs:=e.cells) HE2.out);have x3:=HE2.out.cell (i:=3) rfl
             clear hb2)
          |((with_reducible refine wpList_load_mid rfl 33 (.tmp 7) rfl b7 0 ?hx e.cells _ HR2.out Tryz.underlying33 rfl (IE e).out ?_);(case hx=>rfl))
          | (go_at_call 17;(with_reducible refine(key_walk e HW.out.small w2 (HP.out.below HB2.out)).mono ?_);rintro e3 w3 ⟨rfl,hb3⟩
             have HM3:=hZ (HM2.out.below hb3);have HB3:=bTr HB2 hb3;have HE3:=hZ (HE2.out.below hb3);have hlook:=HM3.out.look (keyE e) (keyE_len e);rw[HF.out] at hlook;unfold bs at hlook
             clear hb3)
          | ((with_reducible refine store_new rfl (.tmp 9) (.tmp 33) rfl rfl zeroE rfl ?hy ?hi ?ho ?_);(case hy=>rfl);(case hi=>exact(IE zeroE).out);(case ho=>rfl);intro w4 he4 hb4 hs4
             have HM4:=hZ (HM3.out.below hb4);have HB4:=bTr HB3 hb4;have HE4:=hZ (HE3.out.below hb4);have HR4:=hZ (range_of (cs:=e.cells) HE4.out);have HO4:=hZ (range_of (cs:=zeroE.cells) he4);obtain⟨b9,hb9⟩:=oQ (w3.heap.size);rw[hb9] at HO4;rw[hb9]
             clear he4 hb4 hs4 hb9 hlook)
          |((with_reducible refine wpList_load_mid rfl 33 (.tmp 7) rfl b7 0 ?hx e.cells _ HR4.out Tryz.underlying33 rfl (IE e).out ?_);(case hx=>rfl))
          | (at_mapUpdate;refine wpList_put_ent rfl (.tmp 42) (.tmp 43) (.tmp 44) rfl rfl bm i _ HM4.out (by unfold maxLen;omega) e rfl rfl rfl ?_;intro w6 hm6 hg6
             have HM6:=hZ hm6;have HB6:=hZ (HB4.out.grown hg6 HB4.out.size (fun j hj=>by cases hj;exact HBM.out))
             clear hm6 hg6)
          |fail)
         go_round
         case rel=>exact⟨i+1,rfl,by omega,by rw[HTK.out];exact HM6.out.mono (by omega),HB6.out⟩
         case measure=>simp;omega
       | some old=>
         have HOW:=hZ (HWA.out old (find_key HF.out).1);obtain⟨pv,hpv⟩:=oQ (prevE e old);have HPV:=hZ hpv;clear hpv
         cases pv with
         | true=>
           (have htk:(l.take (i+1)).foldl (takeL (okD day) keyE prevE) []=putL acc e:=by rw[HT.out];unfold takeL putL;rw[if_pos HOK.out,HF.out];simp only[HPV.out,if_true]);have HTK:=hZ htk;clear htk
           go_wp2_with (first
            |((with_reducible refine wpList_load_mid rfl 33 (.tmp 16) rfl b (i*18) ?hx e.cells _ HRG.out Tryz.underlying33 rfl (IE e).out ?_);(case hx=>rfl))
            | ((with_reducible refine store_new rfl (.tmp 7) (.tmp 17) rfl rfl e rfl rfl ?hi ?ho ?_);(case hi=>exact(IE e).out);(case ho=>rfl);intro w1 he1 hb1 hs1
               have HM1:=hZ (HM.out.below hb1);have HB1:=bTr HB hb1;have HE1:=hZ he1;obtain⟨b7,hb7⟩:=oQ (wr.heap.size);rw[hb7] at HE1;rw[hb7];have HR1:=hZ (range_of (cs:=e.cells) HE1.out);have HV:=hZ (valid_walk_E e HW.out.small w1 (HP.out.below HB1.out));rw[hve] at HV
               clear he1 hb1 hs1 hb7)
            |((with_reducible refine wpList_load_mid rfl 33 (.tmp 7) rfl b7 0 ?hx e.cells _ HR1.out Tryz.underlying33 rfl (IE e).out ?_);(case hx=>rfl))
            | (go_at_call 20;(with_reducible refine HV.out.mono ?_);rintro e2 w2 ⟨rfl,hb2⟩
               have HM2:=hZ (HM1.out.below hb2);have HB2:=bTr HB1 hb2;have HE2:=hZ (HE1.out.below hb2);have HR2:=hZ (range_of (cs:=e.cells) HE2.out);have x3:=HE2.out.cell (i:=3) rfl
               clear hb2)
            |((with_reducible refine wpList_load_mid rfl 33 (.tmp 7) rfl b7 0 ?hx e.cells _ HR2.out Tryz.underlying33 rfl (IE e).out ?_);(case hx=>rfl))
            | (go_at_call 17;(with_reducible refine(key_walk e HW.out.small w2 (HP.out.below HB2.out)).mono ?_);rintro e3 w3 ⟨rfl,hb3⟩
               have HM3:=hZ (HM2.out.below hb3);have HB3:=bTr HB2 hb3;have HE3:=hZ (HE2.out.below hb3);have hlook:=HM3.out.look (keyE e) (keyE_len e);rw[HF.out] at hlook;unfold bs at hlook
               clear hb3)
            | ((with_reducible refine store_new rfl (.tmp 9) (.tmp 33) rfl rfl old rfl ?hy ?hi ?ho ?_);(case hy=>rfl);(case hi=>exact(IE old).out);(case ho=>rfl);intro w4 he4 hb4 hs4
               have HM4:=hZ (HM3.out.below hb4);have HB4:=bTr HB3 hb4;have HE4:=hZ (HE3.out.below hb4);have HR4:=hZ (range_of (cs:=e.cells) HE4.out);have HO4:=hZ (range_of (cs:=old.cells) he4);obtain⟨b9,hb9⟩:=oQ (w3.heap.size);rw[hb9] at HO4;rw[hb9]
               clear he4 hb4 hs4 hb9 hlook)
            |((with_reducible refine wpList_load_midw ?hw 33 (.tmp 7) rfl b7 0 ?hx e.cells _ HR4.out Tryz.underlying33 rfl (IE e).out ?_);(case hw=>rfl);(case hx=>rfl))
            |((with_reducible refine wpList_load_midw ?hw 33 (.tmp 9) rfl b9 0 ?hx old.cells _ HO4.out Tryz.underlying33 rfl (IE old).out ?_);(case hw=>rfl);(case hx=>rfl))
            | (go_at_call 22;(with_reducible refine(prev_walk e old HW.out HOW.out w4 (HP.out.below HB4.out)).mono ?_);rintro e5 w5 ⟨rfl,hb5⟩
               have HM5:=hZ (HM4.out.below hb5);have HB5:=bTr HB4 hb5;have HR5:=hZ (range_of (cs:=e.cells) (HE4.out.below hb5));rw[HPV.out]
               clear hb5)
            |((with_reducible refine wpList_load_mid rfl 33 (.tmp 7) rfl b7 0 ?hx e.cells _ HR5.out Tryz.underlying33 rfl (IE e).out ?_);(case hx=>rfl))
            | (at_mapUpdate;refine wpList_put_ent rfl (.tmp 42) (.tmp 43) (.tmp 44) rfl rfl bm i _ HM5.out (by unfold maxLen;omega) e rfl rfl rfl ?_;intro w6 hm6 hg6
               have HM6:=hZ hm6;have HB6:=hZ (HB5.out.grown hg6 HB5.out.size (fun j hj=>by cases hj;exact HBM.out))
               clear hm6 hg6)
            |fail)
           go_round
           case rel=>exact⟨i+1,rfl,by omega,by rw[HTK.out];exact HM6.out.mono (by omega),HB6.out⟩
           case measure=>simp;omega
         | false=>
           (have htk:(l.take (i+1)).foldl (takeL (okD day) keyE prevE) []=acc:=by rw[HT.out];unfold takeL;rw[if_pos HOK.out,HF.out];simp only[HPV.out];rfl);have HTK:=hZ htk;clear htk
           go_wp2_with (first
            |((with_reducible refine wpList_load_mid rfl 33 (.tmp 16) rfl b (i*18) ?hx e.cells _ HRG.out Tryz.underlying33 rfl (IE e).out ?_);(case hx=>rfl))
            | ((with_reducible refine store_new rfl (.tmp 7) (.tmp 17) rfl rfl e rfl rfl ?hi ?ho ?_);(case hi=>exact(IE e).out);(case ho=>rfl);intro w1 he1 hb1 hs1
               have HM1:=hZ (HM.out.below hb1);have HB1:=bTr HB hb1;have HE1:=hZ he1;obtain⟨b7,hb7⟩:=oQ (wr.heap.size);rw[hb7] at HE1;rw[hb7];have HR1:=hZ (range_of (cs:=e.cells) HE1.out);have HV:=hZ (valid_walk_E e HW.out.small w1 (HP.out.below HB1.out));rw[hve] at HV
               clear he1 hb1 hs1 hb7)
            |((with_reducible refine wpList_load_mid rfl 33 (.tmp 7) rfl b7 0 ?hx e.cells _ HR1.out Tryz.underlying33 rfl (IE e).out ?_);(case hx=>rfl))
            | (go_at_call 20;(with_reducible refine HV.out.mono ?_);rintro e2 w2 ⟨rfl,hb2⟩
               have HM2:=hZ (HM1.out.below hb2);have HB2:=bTr HB1 hb2;have HE2:=hZ (HE1.out.below hb2);have HR2:=hZ (range_of (cs:=e.cells) HE2.out);have x3:=HE2.out.cell (i:=3) rfl
               clear hb2)
            |((with_reducible refine wpList_load_mid rfl 33 (.tmp 7) rfl b7 0 ?hx e.cells _ HR2.out Tryz.underlying33 rfl (IE e).out ?_);(case hx=>rfl))
            | (go_at_call 17;(with_reducible refine(key_walk e HW.out.small w2 (HP.out.below HB2.out)).mono ?_);rintro e3 w3 ⟨rfl,hb3⟩
               have HM3:=hZ (HM2.out.below hb3);have HB3:=bTr HB2 hb3;have HE3:=hZ (HE2.out.below hb3);have hlook:=HM3.out.look (keyE e) (keyE_len e);rw[HF.out] at hlook;unfold bs at hlook
               clear hb3)
            | ((with_reducible refine store_new rfl (.tmp 9) (.tmp 33) rfl rfl old rfl ?hy ?hi ?ho ?_);(case hy=>rfl);(case hi=>exact(IE old).out);(case ho=>rfl);intro w4 he4 hb4 hs4
               have HM4:=hZ (HM3.out.below hb4);have HB4:=bTr HB3 hb4;have HE4:=hZ (HE3.out.below hb4);have HR4:=hZ (range_of (cs:=e.cells) HE4.out);have HO4:=hZ (range_of (cs:=old.cells) he4);obtain⟨b9,hb9⟩:=oQ (w3.heap.size);rw[hb9] at HO4;rw[hb9]
               clear he4 hb4 hs4 hb9 hlook)
            |((with_reducible refine wpList_load_midw ?hw 33 (.tmp 7) rfl b7 0 ?hx e.cells _ HR4.out Tryz.underlying33 rfl (IE e).out ?_);(case hw=>rfl);(case hx=>rfl))
            |((with_reducible refine wpList_load_midw ?hw 33 (.tmp 9) rfl b9 0 ?hx old.cells _ HO4.out Tryz.underlying33 rfl (IE old).out ?_);(case hw=>rfl);(case hx=>rfl))
            | (go_at_call 22;(with_reducible refine(prev_walk e old HW.out HOW.out w4 (HP.out.below HB4.out)).mono ?_);rintro e5 w5 ⟨rfl,hb5⟩
               have HM5:=hZ (HM4.out.below hb5);have HB5:=bTr HB4 hb5;have HR5:=hZ (range_of (cs:=e.cells) (HE4.out.below hb5));rw[HPV.out]
               clear hb5)
            |fail)
           go_round
           case rel=>exact⟨i+1,rfl,by omega,by rw[HTK.out];exact HM5.out.mono (by omega),HB5.out⟩
           case measure=>simp;omega
     · have d2:decide (day<e.day)=true:=by simp;omega
       (have htk:(l.take (i+1)).foldl (takeL (okD day) keyE prevE) []=acc:=by rw[HT.out];unfold takeL;rw[if_neg (by unfold okD;simp[hd])]);have HTK:=hZ htk;clear htk hd
       go_wp2_with (first
        |((with_reducible refine wpList_load_mid rfl 33 (.tmp 16) rfl b (i*18) ?hx e.cells _ HRG.out Tryz.underlying33 rfl (IE e).out ?_);(case hx=>rfl))
        | ((with_reducible refine store_new rfl (.tmp 7) (.tmp 17) rfl rfl e rfl rfl ?hi ?ho ?_);(case hi=>exact(IE e).out);(case ho=>rfl);intro w1 he1 hb1 hs1
           have HM1:=hZ (HM.out.below hb1);have HB1:=bTr HB hb1;have HE1:=hZ he1;obtain⟨b7,hb7⟩:=oQ (wr.heap.size);rw[hb7] at HE1;rw[hb7];have HR1:=hZ (range_of (cs:=e.cells) HE1.out);have HV:=hZ (valid_walk_E e HW.out.small w1 (HP.out.below HB1.out));rw[hve] at HV
           clear he1 hb1 hs1 hb7)
        |((with_reducible refine wpList_load_mid rfl 33 (.tmp 7) rfl b7 0 ?hx e.cells _ HR1.out Tryz.underlying33 rfl (IE e).out ?_);(case hx=>rfl))
        | (go_at_call 20;(with_reducible refine HV.out.mono ?_);rintro e2 w2 ⟨rfl,hb2⟩
           have HM2:=hZ (HM1.out.below hb2);have HB2:=bTr HB1 hb2;have HE2:=hZ (HE1.out.below hb2);have HR2:=hZ (range_of (cs:=e.cells) HE2.out);have x3:=HE2.out.cell (i:=3) rfl
           clear hb2)
        |fail)
       go_round
       case rel=>exact⟨i+1,rfl,by omega,by rw[HTK.out];exact HM2.out.mono (by omega),HB2.out⟩
       case measure=>simp;omega
 · have d1:decide (i<n)=false:=by simp;omega
   (obtain rfl:i=n:=by omega);(have htk:(l.take i).foldl (takeL (okD day) keyE prevE) []=effL (okD day) keyE prevE l:=by rw[List.take_of_length_le (by rw[HN.out];omega)];rfl);rw[htk] at HM;clear htk
   go_wp2_with (first
    | (go_at_call 100;(with_reducible refine(delete_walk bm _ _ wr HM.out).mono ?_);rintro e3 w3 ⟨rfl,hm3,hg3⟩
       have HM3:=hZ hm3;have HB3:=hZ (HB.out.grown hg3 HB.out.size (fun j hj=>by cases hj;exact HBM.out))
       clear hm3 hg3)
    |fail)
   go_ret;exact⟨bm,rfl,HBM.out,HM3.out,HB3.out⟩
end Go.Proofs.YteeifhlhpiimoaaGreatDoor
end
section
namespace Go.Proofs
open Go.Shelf
def Tryz.sortEnt_ren:Go.Shelf.Ren:=⟨fun|6=>58|15=>103|14=>102|28=>164|29=>165|20=>156|21=>157|22=>158|23=>159|24=>160|25=>161|26=>162|27=>163|46=>224|47=>225|48=>226|49=>227|50=>228|57=>258|n=>n,fun|22=>25|24=>33|25=>104|3=>3|39=>163|0=>0|53=>201|55=>203|4=>4|46=>194|45=>193|50=>198|5=>5|9=>9|66=>255|70=>130|76=>276|77=>277|n=>n,fun|n=>n⟩
theorem Tryz.sortEnt:Go.Proofs.SlLaysF0.n6 Tryz.prog Tryz.sortEnt_ren:={
 mixed:=by kernel_rfl
 f6:=⟨Tryz.f58.name,by decide,Tryz.func58.trans (congrArg some (by kernel_rfl))⟩
 f14:=⟨Tryz.f102.name,by decide,Tryz.func102.trans (congrArg some (by kernel_rfl))⟩
 f15:=Tryz.func103.trans (congrArg some (by kernel_rfl))
 f20:=⟨Tryz.f156.name,by decide,Tryz.func156.trans (congrArg some (by kernel_rfl))⟩
 f21:=⟨Tryz.f157.name,by decide,Tryz.func157.trans (congrArg some (by kernel_rfl))⟩
 f22:=⟨Tryz.f158.name,by decide,Tryz.func158.trans (congrArg some (by kernel_rfl))⟩
 f23:=⟨Tryz.f159.name,by decide,Tryz.func159.trans (congrArg some (by kernel_rfl))⟩
 f24:=⟨Tryz.f160.name,by decide,Tryz.func160.trans (congrArg some (by kernel_rfl))⟩
 f25:=⟨Tryz.f161.name,by decide,Tryz.func161.trans (congrArg some (by kernel_rfl))⟩
 f26:=⟨Tryz.f162.name,by decide,Tryz.func162.trans (congrArg some (by kernel_rfl))⟩
 f27:=⟨Tryz.f163.name,by decide,Tryz.func163.trans (congrArg some (by kernel_rfl))⟩
 f28:=Tryz.func164.trans (congrArg some (by kernel_rfl))
 f29:=Tryz.func165.trans (congrArg some (by kernel_rfl))
 f46:=⟨Tryz.f224.name,by decide,Tryz.func224.trans (congrArg some (by kernel_rfl))⟩
 f47:=Tryz.func225.trans (congrArg some (by kernel_rfl))
 f48:=Tryz.func226.trans (congrArg some (by kernel_rfl))
 f49:=⟨Tryz.f227.name,by decide,Tryz.func227.trans (congrArg some (by kernel_rfl))⟩
 f50:=⟨Tryz.f228.name,by decide,Tryz.func228.trans (congrArg some (by kernel_rfl))⟩
 f57:=⟨Tryz.f258.name,by decide,Tryz.func258.trans (congrArg some (by kernel_rfl))⟩
 t0:=Tryz.underlying0
 a0:=Tryz.isAgg0
 z0:=Tryz.sizeOf0
 v0:=Tryz.zeroValue0
 t3:=Tryz.underlying3
 a3:=Tryz.isAgg3
 z3:=Tryz.sizeOf3
 v3:=Tryz.zeroValue3
 t4:=Tryz.underlying4
 a4:=Tryz.isAgg4
 z4:=Tryz.sizeOf4
 v4:=Tryz.zeroValue4
 t5:=Tryz.underlying5
 a5:=Tryz.isAgg5
 z5:=Tryz.sizeOf5
 v5:=Tryz.zeroValue5
 t9:=Tryz.underlying9
 a9:=Tryz.isAgg9
 z9:=Tryz.sizeOf9
 v9:=Tryz.zeroValue9
 t22:=Tryz.underlying25
 a22:=Tryz.isAgg25
 z22:=Tryz.sizeOf25
 v22:=Tryz.zeroValue25
 t25:=Tryz.underlying104
 a25:=Tryz.isAgg104
 z25:=Tryz.sizeOf104
 v25:=Tryz.zeroValue104
 t39:=Tryz.underlying163
 a39:=Tryz.isAgg163
 z39:=Tryz.sizeOf163
 v39:=Tryz.zeroValue163
 t45:=Tryz.underlying193
 a45:=Tryz.isAgg193
 z45:=Tryz.sizeOf193
 v45:=Tryz.zeroValue193
 t46:=Tryz.underlying194
 a46:=Tryz.isAgg194
 z46:=Tryz.sizeOf194
 v46:=Tryz.zeroValue194
 t50:=Tryz.underlying198
 a50:=Tryz.isAgg198
 z50:=Tryz.sizeOf198
 v50:=Tryz.zeroValue198
 t53:=Tryz.underlying201
 a53:=Tryz.isAgg201
 z53:=Tryz.sizeOf201
 v53:=Tryz.zeroValue201
 t55:=Tryz.underlying203
 a55:=Tryz.isAgg203
 z55:=Tryz.sizeOf203
 v55:=Tryz.zeroValue203
 t66:=Tryz.underlying255
 a66:=Tryz.isAgg255
 z66:=Tryz.sizeOf255
 v66:=Tryz.zeroValue255
 t70:=Tryz.underlying130
 a70:=Tryz.isAgg130
 z70:=Tryz.sizeOf130
 v70:=Tryz.zeroValue130
 t76:=Tryz.underlying276
 a76:=Tryz.isAgg276
 z76:=Tryz.sizeOf276
 v76:=Tryz.zeroValue276
 t77:=Tryz.underlying277
 a77:=Tryz.isAgg277
 z77:=Tryz.sizeOf277
 v77:=Tryz.zeroValue277}
end Go.Proofs
end
