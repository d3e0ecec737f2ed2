/-
  Contracts of yardstickref03's text, checked, FromInt. Conditions: at most 1000 digits. Contracts of yardstickref03's checked, FromInt. Conditions: at most 200 digits; numbers of at most 18 digits. Contract of yardstickref03's digits at decimal texts. Conditions: at most 200 digits. Contract of yardstickref03's Valid. Conditions: at most 1000000 bytes. Contracts of yardstickref03's Compare, Gcd, Div at decimal texts. Conditions: at most 200 digits; the divisor divides. Contracts of yardstickref03's Gcd, Div (where the divisor divides). Conditions: at most 200 digits. Contracts of yardstickref04's Make and Of at integers with a positive denominator. Conditions: at most 200 digits (Make), 18 digits (Of). Contracts of yardstickref18's Root (at any integer), Fields, Set. Conditions: integers of 64 bits; a kind from 1 to 9; a field from 3 to 6. Contract of yardstickref18's Set. Conditions: a field from 3 to 6.
-/
import Derived.Test.YteeifhlhpiimoaaGreatDoorZAn
import Derived.Test.YteeifhlhpiimoaaGreatDoorZAi
import Derived.Test.YteeifhlhpiimoaaGreatDoorZAc
import Derived.Test.YteeifhlhpiimoaaGreatDoorZAd
import Derived.Test.YteeifhlhpiimoaaGreatDoorZAm
import Derived.Test.YteeifhlhpiimoaaGreatDoorZAf
import Derived.Test.YteeifhlhpiimoaaGreatDoorZAa
set_option maxHeartbeats 4000000
set_option maxRecDepth 100000
section
namespace Go.Proofs.YteeifhlhpiimoaaGreatDoor
open Go Go.RowKit Go.Shelf
attribute [local go_sem] Oper.semAt_some
theorem elemU:Elem Tryz.prog 116 5 1 1:=Elem.mk' (z:=.int .u8 0) Tryz.underlying116 (by kernel_rfl) rfl (by decide)
theorem digB_val {d:Nat} (h:d<10):bv (digB d)=.int .u8 ((48+d:Nat):Int):=by unfold bv digB;rw[toNat_dig h]
def txtL (neg:Bool) (n:Nat):List UInt8:=if n=0 then[48] else(if neg then[45] else[])++decS n
def txtB (neg:Bool) (n:Nat):ByteArray:=⟨(txtL neg n).toArray⟩
theorem txt_int (z:Int):txtL (decide (z<0)) z.natAbs=intS z:=by
 unfold txtL intS
 by_cases h0:z.natAbs=0
 · rw[if_pos h0,if_neg (by omega),h0,decS_lt (by decide)];rfl
 · rw[if_neg h0]
   by_cases h:z<0
   · simp[h]
   · simp[h]
def TxP (w:World) (neg:Bool) (n:Nat) (e:Ending) (w':World):Prop:=e=.returned (.tuple #[.string (txtB neg n),.bool (decide ((dg n).length≤200))])∧Below w.heap.size w w'
theorem up_step {n m d:Nat} {pre:List UInt8} (h:(dg n)[m]?=some d):pre++(((dg n).drop m).map digB).reverse=(pre++(((dg n).drop (m+1)).map digB).reverse)++[digB d]:=by
 obtain⟨h1,h2⟩:=List.getElem?_eq_some_iff.1 h;rw[List.drop_eq_getElem_cons h1,h2,List.map_cons,List.reverse_cons,List.append_assoc]
theorem rtext_walk (neg:Bool) (n:Nat) (v:Value) (w:World) (h:LsAt w v (dg n)) (hl:(dg n).length≤1000):Calls Tryz.prog 155 #[.bool neg,v] w (TxP w neg n):=by
 obtain⟨A,c,rfl,hc1,hc2,hc3,hA⟩:=h;have HA:=hZ hA;obtain⟨k,hk⟩:=oQ ((dg n).length);have HK:=hZ hk;rw[hk] at hl⊢;have HKL:=hZ hl;unfold TxP;rw[hk];clear hA hc1 hc2 hc3 hl;rcases Nat.eq_zero_or_pos n with rfl|h0
 · obtain rfl:k=0:=by rw[←hk,dg_zero];rfl
   clear hk;have e:txtB neg 0=⟨#[48]⟩:=rfl;rw[e]
   go_enter Tryz.func155,Tryz.ntmps155
   go_wp2
   go_ret2
   exact⟨rfl,Below.refl _ _⟩
 · have hk0:0<k:=by rw[←hk,dg_pos h0];simp
   clear hk;obtain⟨pre,hpre⟩:∃pre:List UInt8,pre=(if neg then[45] else[]):=⟨_,rfl⟩
   have htx:txtB neg n=⟨(pre++((dg n).map digB).reverse).toArray⟩:=by
    unfold txtB txtL;rw[if_neg (by omega),decS_dg h0,hpre]
   rw[htx];(have hpl:pre.length≤1:=by rw[hpre];split<;>simp);have HPL:=hZ hpl;obtain⟨z,hz⟩:=oQ (IntKind.i64.wrap ((k:Int)-1));(have hzz:z=(k:Int)-1:=by have:=HKL.out;rw[←hz,IntKind.wrap_i64];omega);have HZ:=hZ hzz;(have d0:((k:Int)==0)=false:=by simp;omega);(have dl:decide ((k:Int)≤200)=decide (k≤200):=by rw[decide_eq_decide];omega);obtain⟨fits,hfits⟩:=oQ (decide (k≤200));have HFT:=hZ hfits;rw[hfits] at dl⊢;clear htx hzz hpl hk0 hfits;cases neg
   all_goals simp only[Bool.false_eq_true,if_true,if_false] at hpre
   all_goals have HPRE:=hZ hpre
   all_goals clear hpre
   all_goals go_enter Tryz.func155,Tryz.ntmps155
   all_goals go_wp2_with (first
    |(at_builtin;refine wpList_app rfl (.tmp 12) (.tmp 13) 116 rfl elemU _ ([]:List UInt8) 0 rfl rfl ((OL.nil (f:=one bv) (B:=w.heap.size)).alloc _) 45 w.heap.size #[.int .u8 45] rfl ?hc rfl rfl (by simp[one,bv,Value.oneCell']) (by unfold maxLen;simp) (by simp) (by simp) ?_;(case hc=>exact World.alloc_heap_new _ _);intro g3 c3 w3 h3 _ _ _ hb3;have HO3:Hid (OL w3 w.heap.size 5 1 (one bv) _ pre):=hZ (by rw[HPRE.out];exact h3);have HB3:=hZ ((below_new w _).trans hb3);clear h3 hb3)
    |fail)
   have HO3:Hid (OL w w.heap.size 5 1 (one bv) (.slice none 0 0) pre):=hZ (by rw[HPRE.out];exact OL.nil);have HB3:=hZ (Below.refl w.heap.size w)
   all_goals
    go_loopw [6,7] (fun v iv wr=> ∃(vv:Value) (j:Nat),vv=v∧iv=.int .i64 ((j:Int)-1)∧j≤k∧Hid (OL wr w.heap.size 5 1 (one bv) vv (pre++(((dg n).drop j).map digB).reverse))∧Hid (Below w.heap.size w wr)) (fun _ i _=>(intOf i+1).toNat)
    case atStart=>exact⟨_,k,rfl,by rw[HZ.out],Nat.le_refl _,hZ (by rw[List.drop_of_length_le (by rw[HK.out];omega)];simpa using HO3.out),HB3⟩
    case round=>
     clear HO3 HB3 HZ hz;obtain⟨vv,j,rfl,rfl,hj,HO,HB⟩:=hrel;rcases Nat.eq_zero_or_pos j with rfl|h0
     · have d1:decide ((0:Int)≤((0:Nat):Int)-1)=false:=by decide
       have hol:=HO.out;rw[List.drop_zero] at hol;have hr:=hol;unfold OL at hr;rw[flatMap_one] at hr;have hconv:=Wr.convert_own (P:=Tryz.prog) 116 9 Tryz.underlying116 Tryz.underlying5 Tryz.underlying9 hr;clear hol hr;go_wp2_with fail
       go_ret2
       exact⟨rfl,HB.out⟩
     · obtain⟨m,rfl⟩:∃m,j=m+1:=⟨j-1,by omega⟩
       (have e1:((m+1:Nat):Int)-1=(m:Int):=by omega);rw[e1];(have hm:m<(dg n).length:=by rw[HK.out];omega);obtain⟨p,rfl,hpb,hpc⟩:=HA.out.get hm;unfold nv at hpc;obtain⟨d,hd⟩:=oQ ((dg n)[m]);rw[hd] at hpc;have HX:Hid ((dg n)[m]?=some d):=hZ (by rw[←hd];exact List.getElem?_eq_getElem hm);have hd9:d<10:=dg_dgs n d (List.mem_of_getElem? HX.out);have hpc2:wr.cell? (p.add m)=some (.int .i64 d):=(HB.out.cell (p:=p.add m) (by rw[addr_add_block];exact hpb)).trans hpc;(have d1:decide ((0:Int)≤(m:Int))=true:=by simp);(have z1:(0:Int)≤(m:Int):=by omega);(have z2:(m:Int)<(k:Int):=by omega);obtain⟨z',hz'⟩:=oQ (IntKind.i64.wrap ((m:Int)-1));(have hzz:z'=(m:Int)-1:=by have:=HKL.out;rw[←hz',IntKind.wrap_i64];omega);have HZ':=hZ hzz;obtain⟨b,hb⟩:=oQ (48+d);(have w3:IntKind.i64.wrap (48+(d:Int))=(b:Int):=by rw[IntKind.wrap_i64];omega);(have w4:IntKind.u8.wrap (b:Int)=(b:Int):=by rw[IntKind.wrap_u8];omega);have HV:Hid (bv (digB d)=.int .u8 (b:Int)):=hZ (by rw[←hb];exact digB_val hd9);obtain⟨ln,hln⟩:=oQ ((pre++(((dg n).drop (m+1)).map digB).reverse).length);have HLN:=hZ hln;have HLEN:Hid (ln≤1001):=hZ (by have:=HPL.out;have:=HK.out;have:=HKL.out;rw[←hln];simp;omega);clear hln;have HBs:=hZ HB.out.size;clear hpc hpb hd hm hzz hb hd9 e1
       go_wp2_with (first
        |(at_builtin;refine wpList_app rfl (.tmp 22) (.tmp 29) 116 rfl elemU _ _ ln HLN.out rfl (HO.out.alloc _) (digB d) wr.heap.size #[.int .u8 (b:Int)] rfl ?hc (by unfold one;rw[HV.out]) rfl (by simp[one,bv,Value.oneCell']) (by have:=HLN.out;have:=HLEN.out;unfold maxLen;omega) (by have:=HLN.out;have:=HLEN.out;omega) (by have:=HBs.out;simp;omega) ?_;(case hc=>exact World.alloc_heap_new _ _);intro g3 c3 w3 h3 _ _ _ hb3;have HO3:=hZ h3;have HB3:=hZ ((HB.out.alloc HBs.out _).trans hb3);clear h3 hb3)
        |fail)
       go_roundw
       case rel=>exact⟨_,m,rfl,by rw[HZ'.out],by omega,hZ (by have:=HO3.out;rwa[←up_step HX.out] at this),HB3⟩
       case measure=>rw[HZ'.out];simp[intOf]
def ErP (w:World) (s:ByteArray) (e:Ending) (w':World):Prop:=e=.returned (.tuple #[.string s,.int .i64 0])∧Below w.heap.size w w'
theorem rchecked_walk (neg:Bool) (n:Nat) (v:Value) (w:World) (h:LsAt w v (dg n)) (hl:(dg n).length≤200):Calls Tryz.prog 221 #[.bool neg,v] w (ErP w (txtB neg n)):=by
 have HT:=hZ (rtext_walk neg n v w h (by omega));have d1:decide ((dg n).length≤200)=true:=by simp[hl]
 clear h hl
 go_enter Tryz.func221,Tryz.ntmps221
 go_wp2_with (first
  |(go_at_call 155;refine HT.out.mono ?_;rintro e w2 ⟨rfl,hb⟩;have HB:=hZ hb;clear hb)
  |fail)
 go_ret2
 exact⟨rfl,HB.out⟩
def IntP (w:World) (z:Int) (e:Ending) (w':World):Prop:=e=.returned (.string ⟨(intS z).toArray⟩)∧Below w.heap.size w w'
theorem rfromInt_walk (z:Int) (w:World) (hz:z.natAbs<10^18):Calls Tryz.prog 99 #[.int .i64 z] w (IntP w z):=by
 have HL:Hid ((dg z.natAbs).length≤18):=hZ (dg_len_le hz);have hz2:z.natAbs<1000000000000000000:=hz;have HZ:=hZ hz2;clear hz hz2
 go_enter Tryz.func99,Tryz.ntmps99
 go_wp2_with fail
 go_loopw [3,4] (fun v iv wr=> ∃(vv:Value) (o:List Nat) (q:Int),vv=v∧iv=.int .i64 q∧Hid (o++dg q.natAbs=dg z.natAbs)∧Hid (q.natAbs<1000000000000000000)∧Hid (IntL wr w.heap.size vv o)∧Hid (Below w.heap.size w wr)) (fun _ i _=>(intOf i).natAbs)
 case atStart=>exact⟨_,[],z,rfl,rfl,hZ rfl,HZ,hZ OL.nil,hZ (Below.refl _ _)⟩
 case round=>
  obtain⟨vv,o,q,rfl,rfl,HI,HQ,HO,HB⟩:=hrel
  by_cases h0:q=0
  · subst h0
    (have ho:o=dg z.natAbs:=by have:=HI.out;simpa[dg_zero] using this);subst ho;obtain⟨b,hb⟩:=oQ (decide (z<0));have HT:=hZ (rtext_walk b z.natAbs vv wr (LsAt.of_ol HO.out) (by have:=HL.out;omega));have HTX:Hid (txtB b z.natAbs=⟨(intS z).toArray⟩):=hZ (by unfold txtB;rw[←hb,txt_int])
    go_wp2_with (first
     |(go_at_call 155;refine HT.out.mono ?_;rintro e w2 ⟨rfl,hb⟩;have HB2:=hZ hb;clear hb)
     |fail)
    go_ret;exact⟨(by rw[HTX.out];rfl),HB.out.trans (HB2.out.mono HB.out.size)⟩
  · have d1:(q !=0)=true:=by simp[h0]
    obtain⟨d,hd⟩:=oQ (q.natAbs%10);obtain⟨t,ht⟩:=oQ (Int.tdiv q 10);(have hta:t.natAbs=q.natAbs/10:=by rw[←ht,Int.natAbs_tdiv];rfl);(have htn:t.natAbs<q.natAbs:=by omega);have HS:Hid ((o++[d])++dg t.natAbs=dg z.natAbs):=hZ (by rw[←HI.out,hta,dg_pos (n:=q.natAbs) (by omega),hd,List.append_assoc];rfl);have HTN:=hZ htn;(have wt:IntKind.i64.wrap t=t:=by have:=HQ.out;rw[IntKind.wrap_i64];omega);have HLEN:Hid (o.length≤18):=hZ (by have h1:=congrArg List.length HI.out;have:=HL.out;rw[List.length_append] at h1;omega);have HBs:=hZ HB.out.size;obtain⟨ln,hln⟩:=oQ (o.length);have HLN:=hZ hln;rw[hln] at HLEN;obtain⟨r,hr⟩:=oQ (Int.tmod q 10);(have hra:r.natAbs=d:=by rw[←hr,Int.natAbs_tmod];exact hd);have hd9:d<10:=by omega
    by_cases hneg:r<0
    · have b1:decide (r<0)=true:=by simp[hneg]
      (have wd:IntKind.i64.wrap (-r)=(d:Int):=by rw[IntKind.wrap_i64];omega);clear hta htn hln hra hd hneg
      go_wp2_with (first
       |(at_builtin;refine wpList_app rfl (.tmp 19) (.tmp 21) 23 rfl elemInt _ _ ln HLN.out rfl (HO.out.alloc _) d wr.heap.size #[.int .i64 d] rfl ?hc rfl rfl (by simp[one,nv,Value.oneCell']) (by have:=HLN.out;have:=HLEN.out;unfold maxLen;omega) (by have:=HLN.out;have:=HLEN.out;omega) (by have:=HBs.out;simp;omega) ?_;(case hc=>exact World.alloc_heap_new _ _);intro g3 c3 w3 h3 _ _ _ hb3;have HO3:=hZ h3;have HB3:=hZ ((HB.out.alloc HBs.out _).trans hb3);clear h3 hb3)
       |fail)
      go_roundw
      case rel=>exact⟨_,_,t,rfl,rfl,HS,hZ (by have:=HTN.out;have:=HQ.out;omega),HO3,HB3⟩
      case measure=>simp[intOf];exact HTN.out
    · have b1:decide (r<0)=false:=by simp;omega
      (obtain rfl:r=(d:Int):=by omega);clear hta htn hln hra hd hneg
      go_wp2_with (first
       |(at_builtin;refine wpList_app rfl (.tmp 19) (.tmp 21) 23 rfl elemInt _ _ ln HLN.out rfl (HO.out.alloc _) d wr.heap.size #[.int .i64 d] rfl ?hc rfl rfl (by simp[one,nv,Value.oneCell']) (by have:=HLN.out;have:=HLEN.out;unfold maxLen;omega) (by have:=HLN.out;have:=HLEN.out;omega) (by have:=HBs.out;simp;omega) ?_;(case hc=>exact World.alloc_heap_new _ _);intro g3 c3 w3 h3 _ _ _ hb3;have HO3:=hZ h3;have HB3:=hZ ((HB.out.alloc HBs.out _).trans hb3);clear h3 hb3)
       |fail)
      go_roundw
      case rel=>exact⟨_,_,t,rfl,rfl,HS,hZ (by have:=HTN.out;have:=HQ.out;omega),HO3,HB3⟩
      case measure=>simp[intOf];exact HTN.out
def DsP (w:World) (z:Int) (e:Ending) (w':World):Prop:=∃v,e=.returned (.tuple #[.bool (decide (z<0)),v])∧LsAt w' v (dg z.natAbs)∧Fresh w.heap.size v∧Below w.heap.size w w'
theorem at_list {s:ByteArray} {l:List UInt8} (h:s.data.toList=l) {i:Nat} (hi:i<s.size):l[i]?=some s[i]:=by
 rw[←h];have:s[i]=s.data[i]:=rfl;rw[this,Array.getElem?_toList];exact Array.getElem?_eq_getElem hi
theorem dig_at {n m:Nat} (h:0<n) (hm:m<(dg n).length):(decS n)[(dg n).length-1-m]?=((dg n)[m]?).map digB:=by
 rw[decS_dg h,List.getElem?_reverse (by rw[List.length_map];omega),List.length_map,List.getElem?_map,show(dg n).length-1-((dg n).length-1-m)=m by omega]
theorem rdigits_walk (z:Int) (s:ByteArray) (hs:s.data.toList=intS z) (hl:(dg z.natAbs).length≤200) (w:World):Calls Tryz.prog 217 #[.string s] w (DsP w z):=by
 have hsz:s.size=(intS z).length:=by rw[←hs];exact Array.length_toList.symm
 have hp:0<s.size:=by
  rw[hsz];unfold intS
  split
  · simp
  · exact List.length_pos_iff.2 (decS_ne _)
 obtain⟨b,hb⟩:=oQ (s[0].toNat);obtain⟨n,hn⟩:=oQ (z.natAbs);unfold DsP;rw[hn] at hl⊢;have HL:=hZ hl
 have key:∃t:ByteArray,t.data.toList=decS n∧((z<0∧b=45∧s.extract 1 s.size=t)∨(¬z<0∧b≠45∧t=s)):=by
  by_cases hneg:z<0
  · refine⟨s.extract 1 s.size,?_,.inl ⟨hneg,?_,rfl⟩⟩
    · have h:=hs
      unfold intS at h;rw[if_pos hneg,hn] at h;rw[Lib.extract_data,h];(have hsl:s.size=(decS n).length+1:=by rw[←List.length_cons (a:=(45:UInt8)),←h];exact Array.length_toList.symm);rw[hsl];simp
    · have h:=at_list hs hp
      unfold intS at h;rw[if_pos hneg] at h;simp at h;rw[←hb,←h];rfl
  · have h:=hs
    unfold intS at h;rw[if_neg hneg,hn] at h;refine⟨s,h,.inr ⟨hneg,fun e=> ?_,rfl⟩⟩;have h2:=at_list h hp;have h3:=decS_dig n _ (List.mem_of_getElem? h2);unfold dig10 at h3;rw[hb,e] at h3;simp at h3
 obtain⟨t,HT,key⟩:=key;have HT:=hZ HT;obtain⟨k,hk⟩:=oQ (t.size);have hkl:k=(decS n).length:=by rw[←hk,←HT.out];exact Array.length_toList.symm
 have hkm:=decS_len_dg n;have HK:Hid (k≤200∧1≤k∧k=max 1 (dg n).length):=hZ ⟨by omega,by omega,by omega⟩;obtain⟨u,hu⟩:=oQ (IntKind.i64.wrap ((k:Int)-1));have huu:u=(k:Int)-1:=by have:=HK.out;rw[←hu,IntKind.wrap_i64];omega
 have HU:=hZ huu
 have hg:(t.toList==[48])=decide (n=0):=by
  rw[ByteArray.toList_eq,HT.out];rcases Nat.eq_zero_or_pos n with rfl|h
  · rw[decS_lt (by decide)];rfl
  · rw[decide_eq_false (by omega),beq_eq_false_iff_ne]
    intro e;exact decS_head h 48 (by rw[e];rfl) rfl
 have HB0:=hZ (Below.refl w.heap.size w);clear hkl hkm huu hl hs hsz;rcases key with⟨hneg,hb45,hx⟩|⟨hneg,hb45,rfl⟩
 · subst hb45
   rw[decide_eq_true hneg];clear hneg
   go_enter Tryz.func217,Tryz.ntmps217
   go_wp2_with fail;clear hx hb hp
   · go_loopw [5,6] (fun v iv wr=> ∃(vv:Value) (m:Nat),vv=v∧iv=.int .i64 ((k:Int)-1-(m:Int))∧m≤k∧Hid (n=0→m=0)∧Hid (IntL wr w.heap.size vv ((dg n).take m))∧Hid (Below w.heap.size w wr)) (fun _ i _=>(intOf i+1).toNat)
     case atStart=>exact⟨_,0,rfl,by rw[HU.out];simp,Nat.zero_le _,hZ fun _=>rfl,hZ OL.nil,HB0⟩
     case round=>
      obtain⟨vv,m,rfl,rfl,hm,H0,HO,HB⟩:=hrel
      have hend:m=k∨n=0→(dg n).take m=dg n:=fun h=>by
       rcases Nat.eq_zero_or_pos n with rfl|hp
       · rw[dg_zero];simp
       · have:1≤(dg n).length:=by rw[dg_pos hp];simp
         have:=HK.out;rw[List.take_of_length_le (by omega)]
      have HEND:=hZ hend;clear hend;rcases Nat.lt_or_ge m k with hlt|hge
      · obtain⟨p,hp2⟩:=oQ (k-1-m)
        (have e1:(k:Int)-1-(m:Int)=(p:Int):=by omega);rw[e1];(have d1:decide ((0:Int)≤(p:Int))=true:=by simp);rcases Nat.eq_zero_or_pos n with rfl|hn0
        · have hg2:(t.toList==[48])=true:=by rw[hg];rfl
          have HV:=hZ (HEND.out (.inr rfl));clear hg;go_wp2_with fail
          go_ret2
          exact⟨_,rfl,by have:=HO.out;rw[HV.out] at this;exact LsAt.of_ol this,HO.out.fresh,HB.out⟩
        · have hg2:(t.toList==[48])=false:=by rw[hg];exact decide_eq_false (by omega)
          (have hkn:k=(dg n).length:=by have:=HK.out;have:1≤(dg n).length:=(by rw[dg_pos hn0];simp);omega);(have hmn:m<(dg n).length:=by omega);obtain⟨d,hd⟩:=oQ ((dg n)[m]);have HX:Hid ((dg n)[m]?=some d):=hZ (by rw[←hd];exact List.getElem?_eq_getElem hmn);have hd9:d<10:=dg_dgs n d (List.mem_of_getElem? HX.out);(have hpt:p<t.size:=by rw[hk];omega);obtain⟨c,hc⟩:=oQ (t[p].toNat)
          have hcd:c=48+d:=by
           have h0:=dig_at hn0 hmn;rw[show(dg n).length-1-m=p by omega,HX.out] at h0;have h1:=at_list HT.out hpt;rw[h0] at h1;simp only[Option.map_some,Option.some.injEq] at h1;rw[←hc,←h1];exact toNat_dig hd9
          (have y1:(0:Int)≤(p:Int):=by omega);(have y2:(p:Int)<(k:Int):=by omega);(have w5:IntKind.u8.wrap ((c:Int)-48)=(d:Int):=by rw[IntKind.wrap_u8];omega);(have w6:IntKind.i64.wrap (d:Int)=(d:Int):=by rw[IntKind.wrap_i64];omega);obtain⟨z',hz'⟩:=oQ (IntKind.i64.wrap ((p:Int)-1));(have hzz:z'=(k:Int)-1-((m+1:Nat):Int):=by have:=HK.out;rw[←hz',IntKind.wrap_i64];omega);have HZ':=hZ hzz;have HP2:=hZ hp2;have HLT:=hZ hlt;have HNE:=hZ hn0;have HST:Hid ((dg n).take m++[d]=(dg n).take (m+1)):=hZ (by rw[List.take_add_one,HX.out];rfl);have HLN:Hid (((dg n).take m).length=m):=hZ (by rw[List.length_take];omega);have HBs:=hZ HB.out.size;have HM:Hid (m≤200):=hZ (by have:=HK.out;omega);clear hg hd hd9 hcd hzz hp2 hlt hn0 hkn hmn e1 hm
          go_wp2_with (first
           |(at_builtin;refine wpList_app rfl (.tmp 24) (.tmp 30) 23 rfl elemInt _ _ m HLN.out rfl (HO.out.alloc _) d wr.heap.size #[.int .i64 d] rfl ?hc rfl rfl (by simp[one,nv,Value.oneCell']) (by have:=HLN.out;have:=HM.out;unfold maxLen;omega) (by have:=HLN.out;have:=HM.out;omega) (by have:=HBs.out;simp;omega) ?_;(case hc=>exact World.alloc_heap_new _ _);intro g3 c3 w3 h3 _ _ _ hb3;have HO3:=hZ h3;have HB3:=hZ ((HB.out.alloc HBs.out _).trans hb3);clear h3 hb3)
           |fail)
          go_roundw
          case rel=>exact⟨_,m+1,rfl,by rw[HZ'.out],HLT.out,hZ (fun e=>by have:=HNE.out;omega),hZ (by have:=HO3.out;rwa[HST.out] at this),HB3⟩
          case measure=>rw[HZ'.out];simp[intOf];have:=HP2.out;have:=HLT.out;omega
      · obtain rfl:m=k:=by omega
        (have e1:(m:Int)-1-(m:Int)=-1:=by omega);rw[e1];have HV:=hZ (HEND.out (.inl rfl));clear hg;go_wp2_with fail
        go_ret2
        exact⟨_,rfl,by have:=HO.out;rw[HV.out] at this;exact LsAt.of_ol this,HO.out.fresh,HB.out⟩
 · rw [decide_eq_false hneg]
   clear hneg;have d0:((b:Int)==45)=false:=by simp;omega
   go_enter Tryz.func217,Tryz.ntmps217
   go_wp2_with fail;clear d0 hb45 hb hp
   · go_loopw [5,6] (fun v iv wr=> ∃(vv:Value) (m:Nat),vv=v∧iv=.int .i64 ((k:Int)-1-(m:Int))∧m≤k∧Hid (n=0→m=0)∧Hid (IntL wr w.heap.size vv ((dg n).take m))∧Hid (Below w.heap.size w wr)) (fun _ i _=>(intOf i+1).toNat)
     case atStart=>exact⟨_,0,rfl,by rw[HU.out];simp,Nat.zero_le _,hZ fun _=>rfl,hZ OL.nil,HB0⟩
     case round=>
      obtain⟨vv,m,rfl,rfl,hm,H0,HO,HB⟩:=hrel
      have hend:m=k∨n=0→(dg n).take m=dg n:=fun h=>by
       rcases Nat.eq_zero_or_pos n with rfl|hp
       · rw[dg_zero];simp
       · have:1≤(dg n).length:=by rw[dg_pos hp];simp
         have:=HK.out;rw[List.take_of_length_le (by omega)]
      have HEND:=hZ hend;clear hend;rcases Nat.lt_or_ge m k with hlt|hge
      · obtain⟨p,hp2⟩:=oQ (k-1-m)
        (have e1:(k:Int)-1-(m:Int)=(p:Int):=by omega);rw[e1];(have d1:decide ((0:Int)≤(p:Int))=true:=by simp);rcases Nat.eq_zero_or_pos n with rfl|hn0
        · have hg2:(t.toList==[48])=true:=by rw[hg];rfl
          have HV:=hZ (HEND.out (.inr rfl));clear hg;go_wp2_with fail
          go_ret2
          exact⟨_,rfl,by have:=HO.out;rw[HV.out] at this;exact LsAt.of_ol this,HO.out.fresh,HB.out⟩
        · have hg2:(t.toList==[48])=false:=by rw[hg];exact decide_eq_false (by omega)
          (have hkn:k=(dg n).length:=by have:=HK.out;have:1≤(dg n).length:=(by rw[dg_pos hn0];simp);omega);(have hmn:m<(dg n).length:=by omega);obtain⟨d,hd⟩:=oQ ((dg n)[m]);have HX:Hid ((dg n)[m]?=some d):=hZ (by rw[←hd];exact List.getElem?_eq_getElem hmn);have hd9:d<10:=dg_dgs n d (List.mem_of_getElem? HX.out);(have hpt:p<t.size:=by rw[hk];omega);obtain⟨c,hc⟩:=oQ (t[p].toNat)
          have hcd:c=48+d:=by
           have h0:=dig_at hn0 hmn;rw[show(dg n).length-1-m=p by omega,HX.out] at h0;have h1:=at_list HT.out hpt;rw[h0] at h1;simp only[Option.map_some,Option.some.injEq] at h1;rw[←hc,←h1];exact toNat_dig hd9
          (have y1:(0:Int)≤(p:Int):=by omega);(have y2:(p:Int)<(k:Int):=by omega);(have w5:IntKind.u8.wrap ((c:Int)-48)=(d:Int):=by rw[IntKind.wrap_u8];omega);(have w6:IntKind.i64.wrap (d:Int)=(d:Int):=by rw[IntKind.wrap_i64];omega);obtain⟨z',hz'⟩:=oQ (IntKind.i64.wrap ((p:Int)-1));(have hzz:z'=(k:Int)-1-((m+1:Nat):Int):=by have:=HK.out;rw[←hz',IntKind.wrap_i64];omega);have HZ':=hZ hzz;have HP2:=hZ hp2;have HLT:=hZ hlt;have HNE:=hZ hn0;have HST:Hid ((dg n).take m++[d]=(dg n).take (m+1)):=hZ (by rw[List.take_add_one,HX.out];rfl);have HLN:Hid (((dg n).take m).length=m):=hZ (by rw[List.length_take];omega);have HBs:=hZ HB.out.size;have HM:Hid (m≤200):=hZ (by have:=HK.out;omega);clear hg hd hd9 hcd hzz hp2 hlt hn0 hkn hmn e1 hm
          go_wp2_with (first
           |(at_builtin;refine wpList_app rfl (.tmp 24) (.tmp 30) 23 rfl elemInt _ _ m HLN.out rfl (HO.out.alloc _) d wr.heap.size #[.int .i64 d] rfl ?hc rfl rfl (by simp[one,nv,Value.oneCell']) (by have:=HLN.out;have:=HM.out;unfold maxLen;omega) (by have:=HLN.out;have:=HM.out;omega) (by have:=HBs.out;simp;omega) ?_;(case hc=>exact World.alloc_heap_new _ _);intro g3 c3 w3 h3 _ _ _ hb3;have HO3:=hZ h3;have HB3:=hZ ((HB.out.alloc HBs.out _).trans hb3);clear h3 hb3)
           |fail)
          go_roundw
          case rel=>exact⟨_,m+1,rfl,by rw[HZ'.out],HLT.out,hZ (fun e=>by have:=HNE.out;omega),hZ (by have:=HO3.out;rwa[HST.out] at this),HB3⟩
          case measure=>rw[HZ'.out];simp[intOf];have:=HP2.out;have:=HLT.out;omega
      · obtain rfl:m=k:=by omega
        (have e1:(m:Int)-1-(m:Int)=-1:=by omega);rw[e1];have HV:=hZ (HEND.out (.inl rfl));clear hg;go_wp2_with fail
        go_ret2
        exact⟨_,rfl,by have:=HO.out;rw[HV.out] at this;exact LsAt.of_ol this,HO.out.fresh,HB.out⟩
def restV (t:List UInt8):Bool:=decide (t≠[])&&decide (t.length≤200)&&t.all dig10&&(decide (t=[48])||decide (t.head?≠some 48))
theorem validI_rest {l t:List UInt8} (h:stripM l=t) (hc:l=t∨(l=45::t∧t≠[48])):validI l=restV t:=by
 unfold validI restV;rw[h];rcases hc with rfl|⟨rfl,h0⟩
 · rfl
 · rw[decide_eq_false (show ¬(45::t)=[48] by simp),decide_eq_false h0]
theorem validI_m0:validI [45,48]=false:=by decide
theorem restV_bad {t:List UInt8} {j:Nat} {c:UInt8} (h:t[j]?=some c) (hd:dig10 c=false):restV t=false:=by
 have:t.all dig10=false:=by
  rw[List.all_eq_false];exact⟨c,List.mem_of_getElem? h,by rw[hd];simp⟩
 unfold restV;rw[this];simp
theorem restV_end {t:List UInt8} (h:t.all dig10=true):restV t=(decide (t≠[])&&decide (t.length≤200)&&(decide (t=[48])||decide (t.head?≠some 48))):=by unfold restV;rw[h];simp
theorem rvalid3_walk (s:ByteArray) (hs:s.size≤1000000) (w:World):Calls Tryz.prog 150 #[.string s] w (ValP w (validI s.data.toList)):=by
 obtain⟨l,hl⟩:=oQ (s.data.toList);have hll:s.size=l.length:=by rw[←hl];exact Array.length_toList.symm
 have key:∃t:ByteArray,(∃b,s.size≠0∧b=45∧(∀h:0<s.size,s[0].toNat=b)∧s.extract 1 s.size=t∧l=45::t.data.toList)∨(t=s∧stripM l=l∧(s.size=0∨∃b,b≠45∧(∀h:0<s.size,s[0].toNat=b)∧s.size≠0)):=by
  cases hl2:l with
  |nil=>exact⟨s,.inr ⟨rfl,rfl,.inl (by rw[hll,hl2];rfl)⟩⟩
  | cons c l'=>
    have hp:0<s.size:=by rw[hll,hl2];simp
    have h0:s[0]=c:=by
     have:=at_list hl hp;rw[hl2] at this;simpa using this.symm
    by_cases hc:c=45
    · subst hc
      refine⟨s.extract 1 s.size,.inl ⟨45,by omega,rfl,fun h=>by rw[h0];rfl,rfl,?_⟩⟩;rw[Lib.extract_data,hl,hl2,hll,hl2];simp
    · refine⟨s,.inr ⟨rfl,by rw[strip_cons,if_neg hc],.inr ⟨c.toNat,fun e=>hc (UInt8.toNat_inj.1 e),fun h=>by rw[h0],by omega⟩⟩⟩
 obtain⟨t,key⟩:=key;obtain⟨k,hk⟩:=oQ (t.size);obtain⟨tl,htl⟩:=oQ (t.data.toList);have hkl:tl.length=k:=by rw[←htl,←hk];exact Array.length_toList
 have HKL:=hZ hkl;have HT:=hZ htl;have hg:(t.toList==[48])=decide (tl=[48]):=by rw[ByteArray.toList_eq,htl];by_cases h:tl=[48]<;>simp[h]
 have hk1:k≤1000000:=by
  rcases key with⟨b,h1,h2,h3,h4,h5⟩|⟨h1,h2,h3⟩
  · rw[h5,htl,List.length_cons] at hll;omega
  · rw[←hk,h1];exact hs
 have HK1:=hZ hk1;rw[hl];clear hkl hk1;obtain⟨e48,he48⟩:=oQ (decide (tl=[48]));rw[he48] at hg;have HE48:=hZ he48;rcases key with⟨b,hs0,rfl,hb,hx,hlt⟩|⟨rfl,hst,hb⟩
 · have hp : 0 <s.size:=by omega
   have hb0:=hb hp;rw[htl] at hlt;have d1:decide ((0:Int)<(s.size:Int))=true:=by simp;omega
   by_cases h48:tl=[48]
   · have hg2:(t.toList==[48])=true:=by rw[hg,←he48,h48];rfl
     (have hv:validI l=false:=by rw[hlt,h48];exact validI_m0);rw[hv];clear hg hb hlt hv h48 htl hll hl hs hs0 he48
     go_enter Tryz.func150,Tryz.ntmps150
     go_wp2_with fail;go_ret;exact⟨rfl,Below.refl _ _⟩
   · obtain rfl:e48=false:=by rw[←he48];exact decide_eq_false h48
     have hv:validI l=restV tl:=validI_rest (by rw[hlt];rfl) (.inr ⟨hlt,h48⟩);rw[hv];clear hb hlt hv h48 htl hll hl hs hs0 he48
     go_enter Tryz.func150,Tryz.ntmps150
     go_wp2_with fail;obtain⟨e48,hee⟩:∃e,e=false:=⟨_,rfl⟩;rw[←hee] at HE48 hg;clear hx hb0 hp d1 hee
     go_loop [3] (fun iv=> ∃j:Nat,j≤k∧iv=.int .i64 (j:Int)∧Hid ((tl.take j).all dig10=true)) (fun iv=>match iv with|.int _ x=>k-x.toNat|_=>0)
     case atStart=>exact⟨0,Nat.zero_le _,rfl,hZ rfl⟩
     case round=>
      obtain⟨j,hj,rfl,HA⟩:=hrel;rcases Nat.lt_or_ge j k with hlt|hge
      · have d1:decide (j<k)=true:=by simp[hlt]
        (have hpt:j<t.size:=by rw[hk];exact hlt);obtain⟨ch,hch⟩:=oQ (t[j]);have hX:=at_list HT.out hpt;rw[hch] at hX;have HX:=hZ hX;obtain⟨c,hc⟩:=oQ (ch.toNat);have HC:=hZ hc;(have y1:(0:Int)≤(j:Int):=by omega);(have y2:(j:Int)<(k:Int):=by omega);(have w1:IntKind.i64.wrap ((j:Int)+1)=((j+1:Nat):Int):=by have:=HK1.out;rw[IntKind.wrap_i64];omega);clear hX
        by_cases h1:c<48
        · have b1:decide ((c:Int)<48)=true:=by simp;omega
          rw[restV_bad HX.out (by unfold dig10;rw[HC.out];simp;omega)];go_wp2_with fail;go_ret;exact⟨rfl,Below.refl _ _⟩
        · have b1:decide ((c:Int)<48)=false:=by simp;omega
          by_cases h2:57<c
          · have b2:decide (57<(c:Int))=true:=by simp;omega
            rw[restV_bad HX.out (by unfold dig10;rw[HC.out];simp;omega)];go_wp2_with fail;go_ret;exact⟨rfl,Below.refl _ _⟩
          · have b2:decide (57<(c:Int))=false:=by simp;omega
            have HN:Hid ((tl.take (j+1)).all dig10=true):=hZ (by
             rw[List.take_add_one,HX.out,List.all_append,HA.out]
             simp[dig10];rw[HC.out];omega)
            go_wp2_with fail
            go_round
            case rel=>exact⟨j+1,by omega,rfl,HN⟩
            case measure=>simp;omega
      · obtain rfl:j=k:=by omega
        (have d1:decide (j<j)=false:=by simp);have hall:=HA.out;rw[List.take_of_length_le (by rw[HKL.out];omega)] at hall;have hv:=restV_end hall;rw[HKL.out] at hv;clear hall;rcases Nat.eq_zero_or_pos j with rfl|hj0
        · have e1:decide ((0:Int)<((0:Nat):Int))=false:=by decide
          have hnil:tl=[]:=List.length_eq_zero_iff.1 HKL.out;have HV:Hid (restV tl=false):=hZ (by rw[hv,hnil];rfl);clear hnil hv;go_wp2_with fail;go_ret;exact⟨(by rw[HV.out];rfl),Below.refl _ _⟩
        · have e1:decide ((0:Int)<(j:Int))=true:=by simp;omega
          (have hne:decide (tl≠[])=true:=by have:=HKL.out;refine decide_eq_true (fun e=> ?_);rw[e] at this;simp at this;omega);rw[hne] at hv;clear hne
          by_cases h200:j≤200
          · have e2:decide ((j:Int)≤200)=true:=by simp;omega
            rw[decide_eq_true h200,HE48.out] at hv;(have hpt:0<t.size:=by rw[hk];exact hj0);obtain⟨ch,hch⟩:=oQ (t[0]);have hX:=at_list HT.out hpt;rw[hch] at hX;obtain⟨c,hc⟩:=oQ (ch.toNat);obtain⟨g,hgg⟩:=oQ (((c:Int) !=48))
            have hh:decide (tl.head?≠some 48)=g:=by
             rw[List.head?_eq_getElem?,hX,←hgg]
             by_cases h:c=48
             · have:ch=48:=UInt8.toNat_inj.1 (by rw[hc,h];rfl)
               rw[this,h];rfl
             · have:ch≠48:=fun e=>h (by rw[←hc,e];rfl)
               rw[decide_eq_true (by simpa using this)];simp;omega
            rw[hh] at hv;have HV:=hZ hv;clear hX hh hv;cases e48
            · go_wp2_with fail
              go_ret;exact⟨(by rw[HV.out];simp),Below.refl _ _⟩
            · go_wp2_with fail
              go_ret;exact⟨(by rw[HV.out];rfl),Below.refl _ _⟩
          · have e2:decide ((j:Int)≤200)=false:=by simp;omega
            rw[decide_eq_false h200] at hv;have HV:=hZ hv;clear hv;go_wp2_with fail;go_ret;exact⟨(by rw[HV.out];rfl),Below.refl _ _⟩
 · have hv : validI l=restV tl:=validI_rest (by rw[hst,←hl,htl]) (.inl (by rw[←hl,htl]))
   rw[hv];clear hv hst htl hll hl hs he48;rcases hb with h0|⟨b,hb45,hb,hb1⟩
   · have hk0 :k=0:=by rw[←hk];exact h0
     (have d0:decide (0<k)=false:=by rw[hk0];decide);clear h0 hk0
     go_enter Tryz.func150,Tryz.ntmps150
     go_wp2_with fail;clear d0
     go_loop [3] (fun iv=> ∃j:Nat,j≤k∧iv=.int .i64 (j:Int)∧Hid ((tl.take j).all dig10=true)) (fun iv=>match iv with|.int _ x=>k-x.toNat|_=>0)
     case atStart=>exact⟨0,Nat.zero_le _,rfl,hZ rfl⟩
     case round=>
      obtain⟨j,hj,rfl,HA⟩:=hrel;rcases Nat.lt_or_ge j k with hlt|hge
      · have d1:decide (j<k)=true:=by simp[hlt]
        (have hpt:j<t.size:=by rw[hk];exact hlt);obtain⟨ch,hch⟩:=oQ (t[j]);have hX:=at_list HT.out hpt;rw[hch] at hX;have HX:=hZ hX;obtain⟨c,hc⟩:=oQ (ch.toNat);have HC:=hZ hc;(have y1:(0:Int)≤(j:Int):=by omega);(have y2:(j:Int)<(k:Int):=by omega);(have w1:IntKind.i64.wrap ((j:Int)+1)=((j+1:Nat):Int):=by have:=HK1.out;rw[IntKind.wrap_i64];omega);clear hX
        by_cases h1:c<48
        · have b1:decide ((c:Int)<48)=true:=by simp;omega
          rw[restV_bad HX.out (by unfold dig10;rw[HC.out];simp;omega)];go_wp2_with fail;go_ret;exact⟨rfl,Below.refl _ _⟩
        · have b1:decide ((c:Int)<48)=false:=by simp;omega
          by_cases h2:57<c
          · have b2:decide (57<(c:Int))=true:=by simp;omega
            rw[restV_bad HX.out (by unfold dig10;rw[HC.out];simp;omega)];go_wp2_with fail;go_ret;exact⟨rfl,Below.refl _ _⟩
          · have b2:decide (57<(c:Int))=false:=by simp;omega
            have HN:Hid ((tl.take (j+1)).all dig10=true):=hZ (by
             rw[List.take_add_one,HX.out,List.all_append,HA.out]
             simp[dig10];rw[HC.out];omega)
            go_wp2_with fail
            go_round
            case rel=>exact⟨j+1,by omega,rfl,HN⟩
            case measure=>simp;omega
      · obtain rfl:j=k:=by omega
        (have d1:decide (j<j)=false:=by simp);have hall:=HA.out;rw[List.take_of_length_le (by rw[HKL.out];omega)] at hall;have hv:=restV_end hall;rw[HKL.out] at hv;clear hall;rcases Nat.eq_zero_or_pos j with rfl|hj0
        · have e1:decide ((0:Int)<((0:Nat):Int))=false:=by decide
          have hnil:tl=[]:=List.length_eq_zero_iff.1 HKL.out;have HV:Hid (restV tl=false):=hZ (by rw[hv,hnil];rfl);clear hnil hv;go_wp2_with fail;go_ret;exact⟨(by rw[HV.out];rfl),Below.refl _ _⟩
        · have e1:decide ((0:Int)<(j:Int))=true:=by simp;omega
          (have hne:decide (tl≠[])=true:=by have:=HKL.out;refine decide_eq_true (fun e=> ?_);rw[e] at this;simp at this;omega);rw[hne] at hv;clear hne
          by_cases h200:j≤200
          · have e2:decide ((j:Int)≤200)=true:=by simp;omega
            rw[decide_eq_true h200,HE48.out] at hv;(have hpt:0<t.size:=by rw[hk];exact hj0);obtain⟨ch,hch⟩:=oQ (t[0]);have hX:=at_list HT.out hpt;rw[hch] at hX;obtain⟨c,hc⟩:=oQ (ch.toNat);obtain⟨g,hgg⟩:=oQ (((c:Int) !=48))
            have hh:decide (tl.head?≠some 48)=g:=by
             rw[List.head?_eq_getElem?,hX,←hgg]
             by_cases h:c=48
             · have:ch=48:=UInt8.toNat_inj.1 (by rw[hc,h];rfl)
               rw[this,h];rfl
             · have:ch≠48:=fun e=>h (by rw[←hc,e];rfl)
               rw[decide_eq_true (by simpa using this)];simp;omega
            rw[hh] at hv;have HV:=hZ hv;clear hX hh hv;cases e48
            · go_wp2_with fail
              go_ret;exact⟨(by rw[HV.out];simp),Below.refl _ _⟩
            · go_wp2_with fail
              go_ret;exact⟨(by rw[HV.out];rfl),Below.refl _ _⟩
          · have e2:decide ((j:Int)≤200)=false:=by simp;omega
            rw[decide_eq_false h200] at hv;have HV:=hZ hv;clear hv;go_wp2_with fail;go_ret;exact⟨(by rw[HV.out];rfl),Below.refl _ _⟩
   · have hp : 0<t.size:=by omega
     have hb0:=hb hp;(have d0:decide (0<k)=true:=by simp;omega);(have d2:((b:Int)==45)=false:=by simp;omega);clear hb hb1 hb45
     go_enter Tryz.func150,Tryz.ntmps150
     go_wp2_with fail;clear d0 d2 hb0 hp
     go_loop [3] (fun iv=> ∃j:Nat,j≤k∧iv=.int .i64 (j:Int)∧Hid ((tl.take j).all dig10=true)) (fun iv=>match iv with|.int _ x=>k-x.toNat|_=>0)
     case atStart=>exact⟨0,Nat.zero_le _,rfl,hZ rfl⟩
     case round=>
      obtain⟨j,hj,rfl,HA⟩:=hrel;rcases Nat.lt_or_ge j k with hlt|hge
      · have d1:decide (j<k)=true:=by simp[hlt]
        (have hpt:j<t.size:=by rw[hk];exact hlt);obtain⟨ch,hch⟩:=oQ (t[j]);have hX:=at_list HT.out hpt;rw[hch] at hX;have HX:=hZ hX;obtain⟨c,hc⟩:=oQ (ch.toNat);have HC:=hZ hc;(have y1:(0:Int)≤(j:Int):=by omega);(have y2:(j:Int)<(k:Int):=by omega);(have w1:IntKind.i64.wrap ((j:Int)+1)=((j+1:Nat):Int):=by have:=HK1.out;rw[IntKind.wrap_i64];omega);clear hX
        by_cases h1:c<48
        · have b1:decide ((c:Int)<48)=true:=by simp;omega
          rw[restV_bad HX.out (by unfold dig10;rw[HC.out];simp;omega)];go_wp2_with fail;go_ret;exact⟨rfl,Below.refl _ _⟩
        · have b1:decide ((c:Int)<48)=false:=by simp;omega
          by_cases h2:57<c
          · have b2:decide (57<(c:Int))=true:=by simp;omega
            rw[restV_bad HX.out (by unfold dig10;rw[HC.out];simp;omega)];go_wp2_with fail;go_ret;exact⟨rfl,Below.refl _ _⟩
          · have b2:decide (57<(c:Int))=false:=by simp;omega
            have HN:Hid ((tl.take (j+1)).all dig10=true):=hZ (by
             rw[List.take_add_one,HX.out,List.all_append,HA.out]
             simp[dig10];rw[HC.out];omega)
            go_wp2_with fail
            go_round
            case rel=>exact⟨j+1,by omega,rfl,HN⟩
            case measure=>simp;omega
      · obtain rfl:j=k:=by omega
        (have d1:decide (j<j)=false:=by simp);have hall:=HA.out;rw[List.take_of_length_le (by rw[HKL.out];omega)] at hall;have hv:=restV_end hall;rw[HKL.out] at hv;clear hall;rcases Nat.eq_zero_or_pos j with rfl|hj0
        · have e1:decide ((0:Int)<((0:Nat):Int))=false:=by decide
          have hnil:tl=[]:=List.length_eq_zero_iff.1 HKL.out;have HV:Hid (restV tl=false):=hZ (by rw[hv,hnil];rfl);clear hnil hv;go_wp2_with fail;go_ret;exact⟨(by rw[HV.out];rfl),Below.refl _ _⟩
        · have e1:decide ((0:Int)<(j:Int))=true:=by simp;omega
          (have hne:decide (tl≠[])=true:=by have:=HKL.out;refine decide_eq_true (fun e=> ?_);rw[e] at this;simp at this;omega);rw[hne] at hv;clear hne
          by_cases h200:j≤200
          · have e2:decide ((j:Int)≤200)=true:=by simp;omega
            rw[decide_eq_true h200,HE48.out] at hv;(have hpt:0<t.size:=by rw[hk];exact hj0);obtain⟨ch,hch⟩:=oQ (t[0]);have hX:=at_list HT.out hpt;rw[hch] at hX;obtain⟨c,hc⟩:=oQ (ch.toNat);obtain⟨g,hgg⟩:=oQ (((c:Int) !=48))
            have hh:decide (tl.head?≠some 48)=g:=by
             rw[List.head?_eq_getElem?,hX,←hgg]
             by_cases h:c=48
             · have:ch=48:=UInt8.toNat_inj.1 (by rw[hc,h];rfl)
               rw[this,h];rfl
             · have:ch≠48:=fun e=>h (by rw[←hc,e];rfl)
               rw[decide_eq_true (by simpa using this)];simp;omega
            rw[hh] at hv;have HV:=hZ hv;clear hX hh hv;cases e48
            · go_wp2_with fail
              go_ret;exact⟨(by rw[HV.out];simp),Below.refl _ _⟩
            · go_wp2_with fail
              go_ret;exact⟨(by rw[HV.out];rfl),Below.refl _ _⟩
          · have e2:decide ((j:Int)≤200)=false:=by simp;omega
            rw[decide_eq_false h200] at hv;have HV:=hZ hv;clear hv;go_wp2_with fail;go_ret;exact⟨(by rw[HV.out];rfl),Below.refl _ _⟩
def zB (z:Int):ByteArray:=⟨(intS z).toArray⟩
theorem zB_data (z:Int):(zB z).data.toList=intS z:=rfl
theorem zB_size (z:Int):(zB z).size=(intS z).length:=rfl
theorem intS_len (z:Int):(intS z).length≤(decS z.natAbs).length+1:=by unfold intS;split<;>simp
theorem dec_of_dg {z:Int} (h:(dg z.natAbs).length≤200):(decS z.natAbs).length≤200:=by rw[decS_len_dg];omega
theorem zB_valid {z:Int} (h:(dg z.natAbs).length≤200):validI (zB z).data.toList=true:=(text_valid (dec_of_dg h)).1
theorem valid_z {z:Int} (h:(dg z.natAbs).length≤200) (w:World):Calls Tryz.prog 150 #[.string (zB z)] w (ValP w true):=by
 have:=rvalid3_walk (zB z) (by have:=intS_len z;have:=dec_of_dg h;rw[zB_size];omega) w;rw[zB_valid h] at this;exact this
def ordI (x y:Int):Int:=if x<y then -1 else if y<x then 1 else 0
theorem ordI_nat (a b:Nat):ordZ a b=ordI (a:Int) (b:Int):=by unfold ordZ ordI;simp only[Int.ofNat_lt]
theorem ordI_abs {x y:Int} (hx:0≤x) (hy:0≤y):ordZ x.natAbs y.natAbs=ordI x y:=by rw[ordI_nat];congr 1<;>omega
theorem ordI_neg {x y:Int} (hx:x<0) (hy:y<0):ordZ y.natAbs x.natAbs=ordI x y:=by
 unfold ordZ ordI
 split<;>split<;>first|rfl|omega|(split<;>first|rfl|omega|(split<;>first|rfl|omega))
theorem rcompare3_walk (x y:Int) (hx:(dg x.natAbs).length≤200) (hy:(dg y.natAbs).length≤200) (w:World):Calls Tryz.prog 151 #[.string (zB x),.string (zB y)] w (IntV w (ordI x y)):=by
 have V1:=hZ (fun w=>valid_z hx w);have V2:=hZ (fun w=>valid_z hy w);have D1:=hZ (fun w=>rdigits_walk x (zB x) rfl hx w);have D2:=hZ (fun w=>rdigits_walk y (zB y) rfl hy w);obtain⟨s,hs⟩:=oQ (zB x);obtain⟨t,ht⟩:=oQ (zB y);rw[hs] at V1 D1⊢;rw[ht] at V2 D2⊢;unfold DsP at D1 D2;clear hx hy hs ht
 by_cases q1:x<0<;>by_cases q2:y<0
 · rw[decide_eq_true q1] at D1
   rw[decide_eq_true q2] at D2;(have HR:Hid (∀v1 v2 W,LsAt W v1 (dg x.natAbs)→LsAt W v2 (dg y.natAbs)→Calls Tryz.prog 218 #[v2,v1] W (IntV W (ordI x y))):=hZ fun v1 v2 W h1 h2=>by rw[←ordI_neg q1 q2];exact rorder_walk _ _ v2 v1 W h2 h1);clear q1 q2
   go_enter Tryz.func151,Tryz.ntmps151
   go_wp2_with (first
    |(go_at_call 150;refine(V1.out w).mono ?_;rintro e w1 ⟨rfl,hb⟩;have HW1:=hZ hb;clear hb V1)
    |(go_at_call 150;refine(V2.out w1).mono ?_;rintro e w2 ⟨rfl,hb⟩;have HW2:=bTr HW1 hb;clear hb V2 HW1)
    |(go_at_call 217;refine(D1.out w2).mono ?_;rintro e w3 ⟨v1,rfl,hv,-,hb⟩;have HV1:=hZ hv;have HW3:=bTr HW2 hb;clear hb hv D1 HW2)
    |(go_at_call 217;refine(D2.out w3).mono ?_;rintro e w4 ⟨v2,rfl,hv,-,hb⟩;have HV2:=hZ hv;have HV1:=hZ (HV1.out.below hb);have HW4:=bTr HW3 hb;clear hb hv D2 HW3)
    |(go_at_call 218;refine(HR.out v1 v2 w4 HV1.out HV2.out).mono ?_;rintro e w5 ⟨rfl,hb⟩;have HW5:=bTr HW4 hb;clear hb)
    |fail)
   go_ret;exact⟨rfl,HW5.out⟩
 · rw[decide_eq_true q1] at D1
   rw[decide_eq_false q2] at D2;rw[show ordI x y=-1 from by unfold ordI;rw[if_pos (show x<y by omega)]];clear q1 q2
   go_enter Tryz.func151,Tryz.ntmps151
   go_wp2_with (first
    |(go_at_call 150;refine(V1.out w).mono ?_;rintro e w1 ⟨rfl,hb⟩;have HW1:=hZ hb;clear hb V1)
    |(go_at_call 150;refine(V2.out w1).mono ?_;rintro e w2 ⟨rfl,hb⟩;have HW2:=bTr HW1 hb;clear hb V2 HW1)
    |(go_at_call 217;refine(D1.out w2).mono ?_;rintro e w3 ⟨v1,rfl,hv,-,hb⟩;have HV1:=hZ hv;have HW3:=bTr HW2 hb;clear hb hv D1 HW2)
    |(go_at_call 217;refine(D2.out w3).mono ?_;rintro e w4 ⟨v2,rfl,hv,-,hb⟩;have HV2:=hZ hv;have HV1:=hZ (HV1.out.below hb);have HW4:=bTr HW3 hb;clear hb hv D2 HW3)
    |fail)
   go_ret;exact⟨rfl,HW4.out⟩
 · rw[decide_eq_false q1] at D1
   rw[decide_eq_true q2] at D2;rw[show ordI x y=1 from by unfold ordI;rw[if_neg (show ¬x<y by omega),if_pos (show y<x by omega)]];clear q1 q2
   go_enter Tryz.func151,Tryz.ntmps151
   go_wp2_with (first
    |(go_at_call 150;refine(V1.out w).mono ?_;rintro e w1 ⟨rfl,hb⟩;have HW1:=hZ hb;clear hb V1)
    |(go_at_call 150;refine(V2.out w1).mono ?_;rintro e w2 ⟨rfl,hb⟩;have HW2:=bTr HW1 hb;clear hb V2 HW1)
    |(go_at_call 217;refine(D1.out w2).mono ?_;rintro e w3 ⟨v1,rfl,hv,-,hb⟩;have HV1:=hZ hv;have HW3:=bTr HW2 hb;clear hb hv D1 HW2)
    |(go_at_call 217;refine(D2.out w3).mono ?_;rintro e w4 ⟨v2,rfl,hv,-,hb⟩;have HV2:=hZ hv;have HV1:=hZ (HV1.out.below hb);have HW4:=bTr HW3 hb;clear hb hv D2 HW3)
    |fail)
   go_ret;exact⟨rfl,HW4.out⟩
 · rw[decide_eq_false q1] at D1
   rw[decide_eq_false q2] at D2;(have HR:Hid (∀v1 v2 W,LsAt W v1 (dg x.natAbs)→LsAt W v2 (dg y.natAbs)→Calls Tryz.prog 218 #[v1,v2] W (IntV W (ordI x y))):=hZ fun v1 v2 W h1 h2=>by rw[←ordI_abs (by omega) (by omega)];exact rorder_walk _ _ v1 v2 W h1 h2);clear q1 q2
   go_enter Tryz.func151,Tryz.ntmps151
   go_wp2_with (first
    |(go_at_call 150;refine(V1.out w).mono ?_;rintro e w1 ⟨rfl,hb⟩;have HW1:=hZ hb;clear hb V1)
    |(go_at_call 150;refine(V2.out w1).mono ?_;rintro e w2 ⟨rfl,hb⟩;have HW2:=bTr HW1 hb;clear hb V2 HW1)
    |(go_at_call 217;refine(D1.out w2).mono ?_;rintro e w3 ⟨v1,rfl,hv,-,hb⟩;have HV1:=hZ hv;have HW3:=bTr HW2 hb;clear hb hv D1 HW2)
    |(go_at_call 217;refine(D2.out w3).mono ?_;rintro e w4 ⟨v2,rfl,hv,-,hb⟩;have HV2:=hZ hv;have HV1:=hZ (HV1.out.below hb);have HW4:=bTr HW3 hb;clear hb hv D2 HW3)
    |(go_at_call 218;refine(HR.out v1 v2 w4 HV1.out HV2.out).mono ?_;rintro e w5 ⟨rfl,hb⟩;have HW5:=bTr HW4 hb;clear hb)
    |fail)
   go_ret;exact⟨rfl,HW5.out⟩
end Go.Proofs.YteeifhlhpiimoaaGreatDoor
end
section
namespace Go.Proofs.YteeifhlhpiimoaaGreatDoor
open Go Go.RowKit Go.Shelf
attribute [local go_sem] Oper.semAt_some
theorem LsAt.uniqD {w:World} {v:Value} {a b:Nat} (h:LsAt w v (dg a)) (k:LsAt w v (dg b)):a=b:=by
 obtain⟨A,c,rfl,-,-,-,h4⟩:=h;obtain⟨A',c',e,-,-,-,k4⟩:=k;injection e with e1 e2 e3;subst e1;rw[←dv_dg a,h4.uniq k4 e2,dv_dg]
open Classical in
noncomputable def digOf (v:Value) (w:World):Nat:=if h:∃b,LsAt w v (dg b) then h.choose else 0
theorem digOf_eq {v:Value} {w:World} {b:Nat} (h:LsAt w v (dg b)):digOf v w=b:=by
 have hx:∃b,LsAt w v (dg b):=⟨b,h⟩;rw[digOf,dif_pos hx];exact hx.choose_spec.uniqD h
theorem dg_nil {n:Nat}:(dg n).length=0↔n=0:=by
 rcases Nat.eq_zero_or_pos n with rfl|h
 · rw[dg_zero];simp
 · rw[dg_pos h];simp;omega
theorem zB_not0 {y:Nat} (h:0<y):((zB (y:Int)).toList==[48])=false:=by
 rw[ByteArray.toList_eq,zB_data,beq_eq_false_iff_ne];unfold intS;rw[if_neg (by omega)];intro e;exact decS_head (n:=((y:Int)).natAbs) (by omega) 48 (by rw[e];rfl) rfl
theorem rgcd3_walk (x y:Int) (hx:(dg x.natAbs).length≤200) (hy:(dg y.natAbs).length≤200) (w:World):Calls Tryz.prog 153 #[.string (zB x),.string (zB y)] w (ErP w (txtB false (Nat.gcd x.natAbs y.natAbs))):=by
 have V1:=hZ (fun w=>valid_z hx w);have V2:=hZ (fun w=>valid_z hy w);have D1:=hZ (fun w=>rdigits_walk x (zB x) rfl hx w);have D2:=hZ (fun w=>rdigits_walk y (zB y) rfl hy w);obtain⟨g,hg⟩:=oQ (Nat.gcd x.natAbs y.natAbs);have HG:=hZ hg;have HX:=hZ hx;have HY:=hZ hy;rw[hg];obtain⟨s,hs⟩:=oQ (zB x);obtain⟨t,ht⟩:=oQ (zB y);rw[hs] at V1 D1⊢;rw[ht] at V2 D2⊢;unfold DsP at D1 D2;clear hx hy hs ht hg
 go_enter Tryz.func153,Tryz.ntmps153
 go_wp2_with (first
  |(go_at_call 150;refine(V1.out w).mono ?_;rintro e w1 ⟨rfl,hb⟩;have HW1:=hZ (hb);clear hb V1)
  |(go_at_call 150;refine(V2.out w1).mono ?_;rintro e w2 ⟨rfl,hb⟩;have HW2:=bTr HW1 hb;clear hb V2 HW1)
  |(go_at_call 217;refine(D1.out w2).mono ?_;rintro e w3 ⟨v1,rfl,hv,-,hb⟩;have HV1:=hZ hv;have HW3:=bTr HW2 hb;clear hb hv D1 HW2)
  |(go_at_call 217;refine(D2.out w3).mono ?_;rintro e w4 ⟨v2,rfl,hv,-,hb⟩;have HV2:=hZ hv;have HV1:=hZ (HV1.out.below hb);have HW4:=bTr HW3 hb;clear hb hv D2 HW3)
  |fail)
 go_loopw [7,9] (fun va vb wr=> ∃(a b:Nat),LsAt wr va (dg a)∧LsAt wr vb (dg b)∧Hid (Nat.gcd a b=g)∧Hid ((dg a).length≤200∧(dg b).length≤200)∧Below w.heap.size w wr) (fun _ vb wr=>digOf vb wr)
 case atStart=>exact⟨x.natAbs,y.natAbs,HV1.out,HV2.out,HG,hZ ⟨HX.out,HY.out⟩,HW4.out⟩
 case round=>
  obtain⟨a,b,ha,hb,HG,HL,hB⟩:=hrel;have HA:=hZ ha;have HB:=hZ hb;have HBW:=hZ hB;obtain⟨A3,c3,rfl,-⟩:=ha;obtain⟨A4,c4,rfl,-⟩:=hb;obtain⟨n3,hn3⟩:=oQ ((dg a).length);obtain⟨n4,hn4⟩:=oQ ((dg b).length);rw[hn3] at HA⊢;rw[hn4] at HB⊢;have HN:=hZ (And.intro hn3 hn4);have hbz:n4=0↔b=0:=by rw[←hn4];exact dg_nil
  have HBZ:=hZ hbz;clear hB hn3 hn4 hbz
  by_cases h0:0<n4
  · have d1:decide (0<n4)=true:=by simp[h0]
    have hb0:0<b:=by
     rcases Nat.eq_zero_or_pos b with e|e
     · have:=HBZ.out.2 e;omega
     · exact e
    have HM:=hZ (digOf_eq HB.out);have HO:=hZ (rdivided_walk a b hb0 _ _ wr HA.out HB.out (by have:=HL.out;omega) (by have:=HL.out;omega));have HB0:=hZ hb0;clear hb0
    go_wp2_with (first
     |(go_at_call 220;(with_reducible refine HO.out.mono ?_);rintro e w2 ⟨vq,vr,rfl,hq,hr,-,-,hb2⟩;have HR:=hZ hr;have HB2:=hZ hb2;clear hq hr hb2)
     |fail)
    refine⟨⟨b,a%b,HB.out.below HB2.out,HR.out,hZ ?_,hZ ⟨HL.out.2,?_⟩,HBW.out.trans (HB2.out.mono HBW.out.size)⟩,?_⟩
    · rw[←HG.out,Nat.gcd_comm a b,Nat.gcd_rec b a,Nat.gcd_comm]
    · exact Nat.le_trans (dg_len_mono (Nat.le_of_lt (Nat.mod_lt _ HB0.out))) HL.out.2
    · have e1:=digOf_eq HR.out
      have e2:=HM.out;have:=Nat.mod_lt a HB0.out;omega
  · obtain rfl:n4=0:=by omega
    obtain rfl:b=0:=HBZ.out.1 rfl;(have hga:a=g:=by have:=HG.out;rwa[Nat.gcd_zero_right] at this);subst hga;(have d1:decide (0<0)=false:=by decide);have HT:=hZ (rchecked_walk false a _ wr HA.out HL.out.1)
    go_wp2_with (first
     |(go_at_call 221;(with_reducible refine HT.out.mono ?_);rintro e w2 ⟨rfl,hb2⟩;have HB2:=hZ hb2;clear hb2)
     |fail)
    go_ret2
    exact⟨rfl,HBW.out.trans (HB2.out.mono HBW.out.size)⟩
theorem rdiv3_walk (x:Int) (y:Nat) (h0:0<y) (hd:y∣x.natAbs) (hx:(dg x.natAbs).length≤200) (hy:(dg y).length≤200) (w:World):Calls Tryz.prog 154 #[.string (zB x),.string (zB (y:Int))] w (fun e w'=>e=.returned (.tuple #[.string (txtB (decide (x<0)) (x.natAbs/y)),.string (txtB false 0),.int .i64 0])∧Below w.heap.size w w'):=by
 have hy':(dg (y:Int).natAbs).length≤200:=hy;have V1:=hZ (fun w=>valid_z hx w);have V2:=hZ (fun w=>valid_z hy' w);have D1:=hZ (fun w=>rdigits_walk x (zB x) rfl hx w);have D2:=hZ (fun w=>rdigits_walk (y:Int) (zB (y:Int)) rfl hy' w);have h48:=zB_not0 h0;have hq:(dg (x.natAbs/y)).length≤200:=Nat.le_trans (dg_len_mono (Nat.div_le_self _ _)) hx;have HQ:=hZ hq;have hr:x.natAbs%y=0:=Nat.mod_eq_zero_of_dvd hd
 have HO:=hZ (fun v1 v2 W (h1:LsAt W v1 (dg x.natAbs)) (h2:LsAt W v2 (dg y))=>by
  have:=rdivided_walk x.natAbs y h0 v1 v2 W h1 h2 (by omega) (by omega);rw[hr] at this
  exact this)
 obtain⟨s,hs⟩:=oQ (zB x);obtain⟨t,ht⟩:=oQ (zB (y:Int));rw[hs] at V1 D1⊢;rw[ht] at V2 D2 h48⊢;unfold DsP at D1 D2;rw[decide_eq_false (show ¬(y:Int)<0 by omega)] at D2;have HT0:=hZ (fun c W=>rtext_walk false 0 (.slice none 0 c) W);clear hx hy hy' hs ht hq hr hd h0 HT0
 by_cases q1:x<0
 · rw[decide_eq_true q1] at D1⊢
   clear q1
   go_enter Tryz.func154,Tryz.ntmps154
   go_wp2_with (first
    |(go_at_call 150;refine(V1.out w).mono ?_;rintro e w1 ⟨rfl,hb⟩;have HW1:=hZ (hb);clear hb V1)
    |(go_at_call 150;refine(V2.out w1).mono ?_;rintro e w2 ⟨rfl,hb⟩;have HW2:=bTr HW1 hb;clear hb V2 HW1)
    |(go_at_call 217;refine(D1.out w2).mono ?_;rintro e w3 ⟨v1,rfl,hv,-,hb⟩;have HV1:=hZ hv;have HW3:=bTr HW2 hb;clear hb hv D1 HW2)
    |(go_at_call 217;refine(D2.out w3).mono ?_;rintro e w4 ⟨v2,rfl,hv,-,hb⟩;have HV2:=hZ hv;have HV1:=hZ (HV1.out.below hb);have HW4:=bTr HW3 hb;clear hb hv D2 HW3)
    |(go_at_call 220;(refine(HO.out v1 v2 w4 HV1.out HV2.out).mono ?_);rintro e w5 ⟨vq,vr,rfl,hq,hr,-,-,hb⟩;have HVQ:=hZ hq;have HVR:=hZ hr;have HW5:=bTr HW4 hb;obtain⟨Ar,cr,rfl,-⟩:=hr;clear hb hq HW4;have er:(dg 0).length=0:=dg_nil.2 rfl;rw[er] at HVR⊢)
    |(go_at_call 221;refine(rchecked_walk true _ vq w5 HVQ.out HQ.out).mono ?_;rintro e w6 ⟨rfl,hb⟩;have HVR:=hZ (HVR.out.below hb);have HW6:=bTr HW5 hb;clear hb HW5)
    |(go_at_call 155;refine(rtext_walk false 0 _ w6 HVR.out (by rw[er];omega)).mono ?_;rintro e w7 ⟨rfl,hb⟩;have HW7:=bTr HW6 hb;clear hb HW6)
    |fail)
   refine bodyPost_ret (v:=.tuple #[_,_,_]) (by simp[results]) rfl ⟨rfl,HW7.out⟩
 · rw[decide_eq_false q1] at D1⊢
   clear q1
   go_enter Tryz.func154,Tryz.ntmps154
   go_wp2_with (first
    |(go_at_call 150;refine(V1.out w).mono ?_;rintro e w1 ⟨rfl,hb⟩;have HW1:=hZ (hb);clear hb V1)
    |(go_at_call 150;refine(V2.out w1).mono ?_;rintro e w2 ⟨rfl,hb⟩;have HW2:=bTr HW1 hb;clear hb V2 HW1)
    |(go_at_call 217;refine(D1.out w2).mono ?_;rintro e w3 ⟨v1,rfl,hv,-,hb⟩;have HV1:=hZ hv;have HW3:=bTr HW2 hb;clear hb hv D1 HW2)
    |(go_at_call 217;refine(D2.out w3).mono ?_;rintro e w4 ⟨v2,rfl,hv,-,hb⟩;have HV2:=hZ hv;have HV1:=hZ (HV1.out.below hb);have HW4:=bTr HW3 hb;clear hb hv D2 HW3)
    |(go_at_call 220;(refine(HO.out v1 v2 w4 HV1.out HV2.out).mono ?_);rintro e w5 ⟨vq,vr,rfl,hq,hr,-,-,hb⟩;have HVQ:=hZ hq;have HVR:=hZ hr;have HW5:=bTr HW4 hb;obtain⟨Ar,cr,rfl,-⟩:=hr;clear hb hq HW4;have er:(dg 0).length=0:=dg_nil.2 rfl;rw[er] at HVR⊢)
    |(go_at_call 221;refine(rchecked_walk false _ vq w5 HVQ.out HQ.out).mono ?_;rintro e w6 ⟨rfl,hb⟩;have HVR:=hZ (HVR.out.below hb);have HW6:=bTr HW5 hb;clear hb HW5)
    |(go_at_call 155;refine(rtext_walk false 0 _ w6 HVR.out (by rw[er];omega)).mono ?_;rintro e w7 ⟨rfl,hb⟩;have HW7:=bTr HW6 hb;clear hb HW6)
    |fail)
   refine bodyPost_ret (v:=.tuple #[_,_,_]) (by simp[results]) rfl ⟨rfl,HW7.out⟩
end Go.Proofs.YteeifhlhpiimoaaGreatDoor
end
section
namespace Go.Proofs.YteeifhlhpiimoaaGreatDoor
open Go Go.RowKit Go.Shelf
attribute [local go_sem] Oper.semAt_some
theorem txtB_nat (n:Nat):txtB false n=zB (n:Int):=by
 have:=txt_int (n:Int);rw[decide_eq_false (show ¬(n:Int)<0 by omega)] at this;unfold txtB zB;rw[←this];rfl
theorem zB_zero:zB 0=⟨#[48]⟩:=by unfold zB intS;rw[if_neg (by omega),show(0:Int).natAbs=0 from rfl,decS_lt (by decide)];rfl
def rnB (x:Int) (y:Nat):ByteArray:=txtB (decide (x<0)) (x.natAbs/Nat.gcd x.natAbs y)
def rdB (x:Int) (y:Nat):ByteArray:=txtB false (y/Nat.gcd x.natAbs y)
def RtP (x:Int) (y:Nat) (w:World) (e:Ending) (w':World):Prop:=e=.returned (.tuple #[.agg #[.string (rnB x y),.string (rdB x y)],.int .i64 0])∧Below w.heap.size w w'
def DvP (s:ByteArray) (w:World) (e:Ending) (w':World):Prop:=e=.returned (.tuple #[.string s,.string (txtB false 0),.int .i64 0])∧Below w.heap.size w w'
theorem rmake_walk (x:Int) (y:Nat) (h0:0<y) (hx:(dg x.natAbs).length≤200) (hy:(dg y).length≤200) (w:World):Calls Tryz.prog 98 #[.string (zB x),.string (zB (y:Int))] w (RtP x y w):=by
 have hy':(dg (y:Int).natAbs).length≤200:=hy;have hg0:0<Nat.gcd x.natAbs y:=Nat.gcd_pos_of_pos_right _ h0;have hgl:(dg (Nat.gcd x.natAbs y)).length≤200:=Nat.le_trans (dg_len_mono (Nat.gcd_le_right _ h0)) hy;have C1:=hZ (fun W=>valid_z hx W);have C2:=hZ (fun W=>valid_z hy' W)
 have C3:Hid (∀W,Calls Tryz.prog 151 #[.string (zB (y:Int)),.string ⟨#[48]⟩] W (IntV W 1)):=hZ fun W=>by
  have:=rcompare3_walk (y:Int) 0 hy' (by rw[show(0:Int).natAbs=0 from rfl,dg_zero];simp) W;rw[zB_zero,show ordI (y:Int) 0=1 from by unfold ordI;rw[if_neg (by omega),if_pos (by omega)]] at this;exact this
 have C4:=hZ (fun W=>rgcd3_walk x (y:Int) hx hy' W);rw[show(y:Int).natAbs=y from rfl] at C4
 have C5:Hid (∀W,Calls Tryz.prog 154 #[.string (zB x),.string (txtB false (Nat.gcd x.natAbs y))] W (DvP (rnB x y) W)):=hZ fun W=>by
  rw[txtB_nat];exact rdiv3_walk x _ hg0 (Nat.gcd_dvd_left _ _) hx hgl W
 have C6:Hid (∀W,Calls Tryz.prog 154 #[.string (zB (y:Int)),.string (txtB false (Nat.gcd x.natAbs y))] W (DvP (rdB x y) W)):=hZ fun W=>by
  have:=rdiv3_walk (y:Int) _ hg0 (Nat.gcd_dvd_right _ _) hy' hgl W;rw[decide_eq_false (show ¬(y:Int)<0 by omega),←txtB_nat (Nat.gcd x.natAbs y)] at this;exact this
 have h48:=zB_not0 h0;unfold RtP;obtain⟨s,hs⟩:=oQ (zB x);obtain⟨t,ht⟩:=oQ (zB (y:Int));obtain⟨u,hu⟩:=oQ (txtB false (Nat.gcd x.natAbs y));obtain⟨rn,hrn⟩:=oQ (rnB x y);obtain⟨rdd,hrd⟩:=oQ (rdB x y);rw[hs] at C1 C4 C5⊢;rw[ht] at C2 C3 C4 C6 h48⊢;rw[hu] at C4 C5 C6;rw[hrn] at C5⊢;rw[hrd] at C6⊢;clear hs ht hu hrn hrd hx hy hy' hg0 hgl h0;have R0:=hZ (World.alloc_heap_new w (.cells #[.string ⟨#[]⟩,.string ⟨#[]⟩] 29));have HW0:=hZ (below_new w (.cells #[.string ⟨#[]⟩,.string ⟨#[]⟩] 29));obtain⟨b,hb⟩:=oQ (w.heap.size);obtain⟨w0,hw0⟩:=oQ (w.alloc (.cells #[.string ⟨#[]⟩,.string ⟨#[]⟩] 29));rw[hw0] at R0 HW0;rw[hb] at R0;have HB:=hZ hb
 go_enter Tryz.func98,Tryz.ntmps98
 go_wp2_with (first
  |(go_at_call 150;refine(C1.out w0).mono ?_;rintro e w1 ⟨rfl,hq⟩;have R1:=bAt hq R0;have HW1:=bTr HW0 hq;clear hq R0 HW0 C1)
  |(go_at_call 150;refine(C2.out w1).mono ?_;rintro e w2 ⟨rfl,hq⟩;have R2:=bAt hq R1;have HW2:=bTr HW1 hq;clear hq R1 HW1 C2)
  |(go_at_call 151;refine(C3.out w2).mono ?_;rintro e w3 ⟨rfl,hq⟩;have R3:=bAt hq R2;have HW3:=bTr HW2 hq;clear hq R2 HW2 C3)
  |(go_at_call 153;refine(C4.out w3).mono ?_;rintro e w4 ⟨rfl,hq⟩;have R4:=bAt hq R3;have HW4:=bTr HW3 hq;clear hq R3 HW3 C4)
  |(go_at_call 154;refine(C5.out w4).mono ?_;rintro e w5 ⟨rfl,hq⟩;have R5:=bAt hq R4;have HW5:=bTr HW4 hq;clear hq R4 HW4 C5)
  |(go_at_call 154;refine(C6.out w5).mono ?_;rintro e w6 ⟨rfl,hq⟩;have R6:=bAt hq R5;have HW6:=bTr HW5 hq;have y1:=cells_i (i:=0) R6.out rfl;have y2:=cells_i (i:=1) R6.out rfl;have f1:=cells_free R6.out 0;have f2:=cells_free R6.out 1;clear hq R5 HW5 C6)
  |fail)
 have hR:=put2 R6.out (.string rn) (.string rdd);refine bodyPost_ret (results_celltmp rfl _ _ b [.string rn,.string rdd] _ rfl (range_of hR) Tryz.underlying29 rfl (by kernel_rfl)) rfl ?_;exact⟨rfl,below_put2 HW6.out (Nat.le_of_eq HB.out) _ _⟩
theorem rof_walk (x:Int) (y:Nat) (h0:0<y) (hx:x.natAbs<10^18) (hy:y<10^18) (w:World):Calls Tryz.prog 53 #[.int .i64 x,.int .i64 (y:Int)] w (RtP x y w):=by
 have C1:Hid (∀W,Calls Tryz.prog 99 #[.int .i64 x] W (fun e w'=>e=.returned (.string (zB x))∧Below W.heap.size W w')):=hZ fun W=>rfromInt_walk x W hx;have C2:Hid (∀W,Calls Tryz.prog 99 #[.int .i64 (y:Int)] W (fun e w'=>e=.returned (.string (zB (y:Int)))∧Below W.heap.size W w')):=hZ fun W=>rfromInt_walk (y:Int) W hy;have C3:=hZ (fun W=>rmake_walk x y h0 (Nat.le_trans (dg_len_le hx) (by omega)) (Nat.le_trans (dg_len_le hy) (by omega)) W);unfold RtP at C3⊢;obtain⟨s,hs⟩:=oQ (zB x);obtain⟨t,ht⟩:=oQ (zB (y:Int));obtain⟨rn,hrn⟩:=oQ (rnB x y);obtain⟨rdd,hrd⟩:=oQ (rdB x y);rw[hs] at C1 C3;rw[ht] at C2 C3;rw[hrn,hrd] at C3⊢;clear hs ht hrn hrd hx hy h0;have R0:=hZ (World.alloc_heap_new w (.cells #[.string ⟨#[]⟩,.string ⟨#[]⟩] 29));have HW0:=hZ (below_new w (.cells #[.string ⟨#[]⟩,.string ⟨#[]⟩] 29));obtain⟨b,hb⟩:=oQ (w.heap.size);obtain⟨w0,hw0⟩:=oQ (w.alloc (.cells #[.string ⟨#[]⟩,.string ⟨#[]⟩] 29));rw[hw0] at R0 HW0;rw[hb] at R0;have HB:=hZ hb
 go_enter Tryz.func53,Tryz.ntmps53
 go_wp2_with (first
  |(go_at_call 99;refine(C1.out w0).mono ?_;rintro e w1 ⟨rfl,hq⟩;have R1:=bAt hq R0;have HW1:=bTr HW0 hq;clear hq R0 HW0 C1)
  |(go_at_call 99;refine(C2.out w1).mono ?_;rintro e w2 ⟨rfl,hq⟩;have R2:=bAt hq R1;have HW2:=bTr HW1 hq;clear hq R1 HW1 C2)
  |(go_at_call 98;refine(C3.out w2).mono ?_;rintro e w6 ⟨rfl,hq⟩;have R6:=bAt hq R2;have HW6:=bTr HW2 hq;have y1:=cells_i (i:=0) R6.out rfl;have y2:=cells_i (i:=1) R6.out rfl;have f1:=cells_free R6.out 0;have f2:=cells_free R6.out 1;clear hq R2 HW2 C3)
  |fail)
 have hR:=put2 R6.out (.string rn) (.string rdd);refine bodyPost_ret (results_celltmp rfl _ _ b [.string rn,.string rdd] _ rfl (range_of hR) Tryz.underlying29 rfl (by kernel_rfl)) rfl ?_;exact⟨rfl,below_put2 HW6.out (Nat.le_of_eq HB.out) _ _⟩
def I64 (x:Int):Prop:=-9223372036854775808≤x∧x≤9223372036854775807
theorem wrap_I64 (x:Int):I64 (IntKind.i64.wrap x):=by unfold I64;rw[IntKind.wrap_i64];omega
def letG (n:Int) (i:Nat):UInt8:=UInt8.ofNat (97+(pickZ (IntKind.i64.wrap (n+(i:Int))) 26).toNat)
def rootGL (n:Int):List UInt8:=(List.range 32).map (letG n)
def rootG (n:Int):ByteArray:=⟨(rootGL n).toArray⟩
def rootGK (n:Int) (k:Nat):List UInt8:=(List.range k).map (letG n)++List.replicate (32-k) 0
theorem rootGK_len (n:Int) (k:Nat) (h:k≤32):(rootGK n k).length=32:=by unfold rootGK;simp;omega
theorem rootGK_set (n:Int) (k:Nat) (h:k<32):(rootGK n k).set k (letG n k)=rootGK n (k+1):=by
 unfold rootGK;rw[List.set_append_right _ _ (by simp),List.range_succ,List.map_append,List.length_map,List.length_range,Nat.sub_self,show 32-k=(32-(k+1))+1 by omega,List.replicate_succ,List.set_cons_zero,List.append_assoc];rfl
theorem rootG_walk (n:Int) (w:World):Calls Tryz.prog 43 #[.int .i64 n] w fun e w'=>e=.returned (.string (rootG n))∧Below w.heap.size w w':=by
 have hmk:=mk32 w
 go_enter Tryz.func43,Tryz.ntmps43
 go_wp2;have h0:RAt (w.alloc (.cells zero32 5)) w.heap.size bv (rootGK n 0):=RAt.alloc_new w _ _ (by rw[zero32_row];rfl);obtain⟨w1,hw1⟩:=oQ (w.alloc (.cells zero32 5));have hb1:Below w.heap.size w w1:=by rw[←hw1];exact below_new _ _
 rw[hw1] at h0⊢;clear hw1 hmk
 go_loopw [4] (fun i wr=> ∃k:Nat,k≤32∧i=.int .i64 (k:Int)∧RAt wr w.heap.size bv (rootGK n k)∧Below w.heap.size w wr) (fun i _=>match i with|.int _ k=>32-k.toNat|_=>0)
 case atStart=>exact⟨0,by omega,rfl,h0,hb1⟩
 case round=>
  obtain⟨k,hk,rfl,hR,hB⟩:=hrel;have HR:=hZ hR;have HB:=hZ hB;clear h0 hb1 hR hB
  by_cases hlt:k<32
  · obtain⟨j,hj⟩:=oQ (IntKind.i64.wrap (n+(k:Int)))
    (have hj64:I64 j:=by rw[←hj];exact wrap_I64 _);obtain⟨z,hz⟩:=oQ (pickZ j 26);have hz26:=pickZ_range j (n:=26) (by omega);rw[hz] at hz26;obtain⟨m,rfl⟩:∃m:Nat,z=(m:Int):=⟨z.toNat,by omega⟩;obtain⟨c,hc⟩:=oQ (97+m);(have hm26:m<26:=by omega);(have d1:decide (k<32)=true:=by simp[hlt]);(have d2:decide ((k:Int)<32)=true:=by simp;omega);(have z1:(0:Int)≤(k:Int):=by omega);(have z2:(k:Int)<32:=by omega);(have w2':IntKind.i64.wrap ((k:Int)+1)=((k+1:Nat):Int):=by rw[IntKind.wrap_i64];omega);(have w3':IntKind.i64.wrap (97+(m:Int))=(c:Int):=by rw[IntKind.wrap_i64];omega);(have w4':IntKind.u8.wrap (c:Int)=(c:Int):=by rw[IntKind.wrap_u8];omega);have hl:=rootGK_len n k hk;have hcl:=HR.out.get (i:=k) (by omega);have hfz:=HR.out.free k (by omega);obtain⟨q,hq⟩:=oQ ((rootGK n k)[k]'(by omega));rw[hq] at hcl;have hset:=HR.out.setv k (by omega) (letG n k) (.int .u8 (c:Int)) (by unfold letG bv;rw[hj,hz,Int.toNat_natCast,hc,UInt8.toNat_ofNat'];congr 1;omega);rw[rootGK_set n k hlt] at hset;have HSET:=hZ hset;have HP:=hZ hz;have HJ1:=hZ hj64.1;have HJ2:=hZ hj64.2;clear hset hq hl hz hj64 hz26
    go_wp2_with (first|(go_at_call 51;(with_reducible refine(pick18_walk _ _ _ HJ1.out HJ2.out (by omega) (by omega)).mono ?_);rintro e2 w2 ⟨rfl,rfl⟩;rw[HP.out])|fail)
    go_round
    case rel=>exact⟨k+1,by omega,rfl,HSET.out,HB.out.setCell (p:=⟨w.heap.size,k,none⟩) (Nat.le_refl _) _⟩
    case measure=>simp;omega
  · have d1:decide (k<32)=false:=by simp;omega
    (obtain rfl:k=32:=by omega);have hcv:=HR.out.convert (P:=Tryz.prog) (cap:=32) (rootGK_len n 32 (Nat.le_refl _)) 116 9 5 Tryz.underlying116 Tryz.underlying5 Tryz.underlying9;(have hr:rootGK n 32=rootGL n:=by unfold rootGK rootGL;simp);rw[hr] at hcv;go_wp2;go_ret;exact⟨rfl,HB.out⟩
def fieldsL (k:Nat):List Nat:=match k with
 |1=>[0,1,3,4,7]|2=>[4,8]|3=>[0,1,2,4]|4=>[0,1,2,4]|5=>[0,1,2,3,9]|6=>[4,1]|7=>[0,1,2,5,6]|8=>[4,8]|9=>[0,4,5]|_=>[]
theorem lit_ls (w:World) (l:List Nat) (hl:l.length≤100) (hp:0<l.length):LsAt (w.alloc (.cells (l.map nv).toArray 3)) (.slice (some ⟨w.heap.size,0,none⟩) l.length l.length) l:=by
 refine⟨_,_,rfl,Nat.le_refl _,by unfold maxLen;omega,fun h=>(by cases h),fun i x hx=>⟨_,rfl,by simp,?_⟩⟩;have h:=World.alloc_heap_new w (.cells (l.map nv).toArray 3);rw[show(⟨w.heap.size,0,none⟩:Addr).add i=⟨w.heap.size,i,none⟩ from by simp[Addr.add];omega];exact cells_i h (by simp[hx])
theorem fields_walk (k:Nat) (h1:1≤k) (h9:k≤9) (w:World):Calls Tryz.prog 52 #[.int .i64 (k:Int)] w fun e w'=> ∃v,e=.returned v∧LsAt w' v (fieldsL k)∧Fresh w.heap.size v∧Below w.heap.size w w':=by
 have HL:=hZ (lit_ls w (fieldsL k));have HB:=hZ (fun o=>below_new w o);rcases(show k=1∨k=2∨k=3∨k=4∨k=5∨k=6∨k=7∨k=8∨k=9 by omega) with rfl|rfl|rfl|rfl|rfl|rfl|rfl|rfl|rfl
 all_goals
  clear h1 h9
  go_enter Tryz.func52,Tryz.ntmps52
  go_wp2;go_ret;exact⟨_,rfl,HL.out (by decide) (by decide),fun a n c h=>(by cases h;exact Nat.le_refl _),HB.out _⟩
theorem EntAt.setc {W:World} {b:Nat} {e e':Ent} (h:EntAt W b e) (i:Nat) (v:Value) (he:e.cells.toArray.setIfInBounds i v=e'.cells.toArray):EntAt (W.setCell ⟨b,i,none⟩ v) b e':=by
 unfold EntAt at h⊢;rw[←he];exact heap_setCell_same W b i _ _ v h
def setE (e:Ent) (f:Nat) (n:Int):Ent:=match f with
 |3=>{e with lab:=n}|4=>{e with item:=n}|5=>{e with person:=n}|6=>{e with skill:=n}|_=>e
theorem set_key {w w1:World} {b:Nat} {e:Ent} (he:EntAt w1 w.heap.size e) (hb1:Below w.heap.size w w1) (hs:w1.heap.size=w.heap.size+1) (hb:w.heap.size=b):∃w2,w1.alloc (.cells #[.int .i64 0,.int .i64 0,.int .i64 0,.int .i64 0,.bool false,.int .i64 0,.int .i64 0,.int .i64 0,.int .i64 0,.int .i64 0,.int .i64 0,.string ⟨#[]⟩,.string ⟨#[]⟩,.string ⟨#[]⟩,.string ⟨#[]⟩,.string ⟨#[]⟩,.string ⟨#[]⟩,.string ⟨#[]⟩] 33)=w2∧Hid (w1.heap.size=b+1)∧Hid (EntAt w2 b e)∧Hid (EntAt w2 (b+1) zeroE)∧Hid (Below w.heap.size w w2):=by
 subst hb;refine⟨_,rfl,hZ hs,hZ (he.below (below_new _ _)),hZ ?_,hZ (hb1.trans ((below_new _ _).mono hb1.size))⟩;rw[←hs];exact Ent.new w1 zeroE
theorem set_end {w w3:World} {b:Nat} {e:Ent} (hz:EntAt w3 (b+1) zeroE) (hb:Below w.heap.size w w3) (h:w.heap.size=b):EntAt (w3.setRow (b+1) e.cells.toArray) (b+1) e∧Below w.heap.size w (w3.setRow (b+1) e.cells.toArray):=by
 have h1:=set_ent (e:=e) hz;refine⟨h1.1,hb.trans ?_⟩;exact⟨rfl,rfl,rfl,by simp[World.setRow],fun k hk=>h1.2.block k (by have:=hb.size;omega) (by omega)⟩
theorem zero_size (e:Ent):zeroE.cells.toArray.size=e.cells.toArray.size:=rfl
theorem set_walk (e:Ent) (f:Nat) (hf:f=3∨f=4∨f=5∨f=6) (n:Int) (w:World):Calls Tryz.prog 54 #[e.val,.int .i64 (f:Int),.int .i64 n] w fun x w'=>x=.returned (setE e f n).val∧Below w.heap.size w w':=by
 obtain⟨b,hb⟩:=oQ (w.heap.size);have HB:=hZ hb;have IE:=fun e:Ent=>hZ (ientry (e:=e));have IS:=fun e:Ent=>hZ (show(Tryz.prog.info? 33).map (·.size)=some e.cells.toArray.size from ientry (e:=e));clear hb;rcases hf with rfl|rfl|rfl|rfl
 · go_enter Tryz.func54,Tryz.ntmps54
   go_wp2_with (first
    | ((with_reducible refine box_ent rfl (.tmp 0) rfl e ?hx ?_);(case hx=>rfl);intro w1 he1 hb1 hs1
       obtain⟨w2,q2,q3,E2,Z2,B2⟩:=set_key he1 hb1 hs1 HB.out;have E3:=hZ (E2.out.setc (e':=setE e 3 n) 7 (.int .i64 n) rfl);have x1:=E2.out.cell (i:=7) rfl;have x2:=E2.out.free 7;have Z3:Hid (EntAt (w2.setCell ⟨b,7,none⟩ (.int .i64 n)) (b+1) zeroE):=hZ ((Below.heap_setCell _ _ _ _ (by simp)).trans Z2.out);have B3:=hZ (B2.out.setCell (p:=⟨b,7,none⟩) (Nat.le_of_eq HB.out) (.int .i64 n));have hb:=HB.out;have hs:=q3.out;clear he1 hb1 hs1 E2 Z2 B2;obtain⟨w3,hw3⟩:=oQ (w2.setCell ⟨b,7,none⟩ (.int .i64 n));rw[hw3] at E3 Z3 B3;have ZR:Hid (w3.heap[b+1]?=some (.cells zeroE.cells.toArray 33 (0,0))):=Z3
       have HRG:=hZ (range_of (cs:=(setE e 3 n).cells) E3.out))
    |((with_reducible refine wpList_load_mid rfl 33 (.tmp 3) rfl b 0 ?hx (setE e 3 n).cells _ HRG.out Tryz.underlying33 rfl (IE _).out ?_);(case hx=>rfl))
    |((with_reducible refine wpList_store_rowTo rfl 33 (.tmp 6) (.tmp 36) rfl rfl (b+1) (setE e 3 n).cells.toArray ?hx ?hy 33 _ ZR.out (IS _).out (zero_size _) (one_cells _) ?_);(case hx=>rfl);(case hy=>rfl))
    |fail)
   obtain⟨hR,hB⟩:=set_end (e:=setE e 3 n) Z3.out B3.out HB.out;refine bodyPost_ret (results_cell_mid rfl _ _ (b+1) (setE e 3 n).cells _ rfl (range_of hR) Tryz.underlying33 rfl (IE _).out) rfl ⟨rfl,hB⟩
 · go_enter Tryz.func54,Tryz.ntmps54
   go_wp2_with (first
    | ((with_reducible refine box_ent rfl (.tmp 0) rfl e ?hx ?_);(case hx=>rfl);intro w1 he1 hb1 hs1
       obtain⟨w2,q2,q3,E2,Z2,B2⟩:=set_key he1 hb1 hs1 HB.out;have E3:=hZ (E2.out.setc (e':=setE e 4 n) 8 (.int .i64 n) rfl);have x1:=E2.out.cell (i:=8) rfl;have x2:=E2.out.free 8;have Z3:Hid (EntAt (w2.setCell ⟨b,8,none⟩ (.int .i64 n)) (b+1) zeroE):=hZ ((Below.heap_setCell _ _ _ _ (by simp)).trans Z2.out);have B3:=hZ (B2.out.setCell (p:=⟨b,8,none⟩) (Nat.le_of_eq HB.out) (.int .i64 n));have hb:=HB.out;have hs:=q3.out;clear he1 hb1 hs1 E2 Z2 B2;obtain⟨w3,hw3⟩:=oQ (w2.setCell ⟨b,8,none⟩ (.int .i64 n));rw[hw3] at E3 Z3 B3;have ZR:Hid (w3.heap[b+1]?=some (.cells zeroE.cells.toArray 33 (0,0))):=Z3
       have HRG:=hZ (range_of (cs:=(setE e 4 n).cells) E3.out))
    |((with_reducible refine wpList_load_mid rfl 33 (.tmp 3) rfl b 0 ?hx (setE e 4 n).cells _ HRG.out Tryz.underlying33 rfl (IE _).out ?_);(case hx=>rfl))
    |((with_reducible refine wpList_store_rowTo rfl 33 (.tmp 6) (.tmp 36) rfl rfl (b+1) (setE e 4 n).cells.toArray ?hx ?hy 33 _ ZR.out (IS _).out (zero_size _) (one_cells _) ?_);(case hx=>rfl);(case hy=>rfl))
    |fail)
   obtain⟨hR,hB⟩:=set_end (e:=setE e 4 n) Z3.out B3.out HB.out;refine bodyPost_ret (results_cell_mid rfl _ _ (b+1) (setE e 4 n).cells _ rfl (range_of hR) Tryz.underlying33 rfl (IE _).out) rfl ⟨rfl,hB⟩
 · go_enter Tryz.func54,Tryz.ntmps54
   go_wp2_with (first
    | ((with_reducible refine box_ent rfl (.tmp 0) rfl e ?hx ?_);(case hx=>rfl);intro w1 he1 hb1 hs1
       obtain⟨w2,q2,q3,E2,Z2,B2⟩:=set_key he1 hb1 hs1 HB.out;have E3:=hZ (E2.out.setc (e':=setE e 5 n) 9 (.int .i64 n) rfl);have x1:=E2.out.cell (i:=9) rfl;have x2:=E2.out.free 9;have Z3:Hid (EntAt (w2.setCell ⟨b,9,none⟩ (.int .i64 n)) (b+1) zeroE):=hZ ((Below.heap_setCell _ _ _ _ (by simp)).trans Z2.out);have B3:=hZ (B2.out.setCell (p:=⟨b,9,none⟩) (Nat.le_of_eq HB.out) (.int .i64 n));have hb:=HB.out;have hs:=q3.out;clear he1 hb1 hs1 E2 Z2 B2;obtain⟨w3,hw3⟩:=oQ (w2.setCell ⟨b,9,none⟩ (.int .i64 n));rw[hw3] at E3 Z3 B3;have ZR:Hid (w3.heap[b+1]?=some (.cells zeroE.cells.toArray 33 (0,0))):=Z3
       have HRG:=hZ (range_of (cs:=(setE e 5 n).cells) E3.out))
    |((with_reducible refine wpList_load_mid rfl 33 (.tmp 3) rfl b 0 ?hx (setE e 5 n).cells _ HRG.out Tryz.underlying33 rfl (IE _).out ?_);(case hx=>rfl))
    |((with_reducible refine wpList_store_rowTo rfl 33 (.tmp 6) (.tmp 36) rfl rfl (b+1) (setE e 5 n).cells.toArray ?hx ?hy 33 _ ZR.out (IS _).out (zero_size _) (one_cells _) ?_);(case hx=>rfl);(case hy=>rfl))
    |fail)
   obtain⟨hR,hB⟩:=set_end (e:=setE e 5 n) Z3.out B3.out HB.out;refine bodyPost_ret (results_cell_mid rfl _ _ (b+1) (setE e 5 n).cells _ rfl (range_of hR) Tryz.underlying33 rfl (IE _).out) rfl ⟨rfl,hB⟩
 · go_enter Tryz.func54,Tryz.ntmps54
   go_wp2_with (first
    | ((with_reducible refine box_ent rfl (.tmp 0) rfl e ?hx ?_);(case hx=>rfl);intro w1 he1 hb1 hs1
       obtain⟨w2,q2,q3,E2,Z2,B2⟩:=set_key he1 hb1 hs1 HB.out;have E3:=hZ (E2.out.setc (e':=setE e 6 n) 10 (.int .i64 n) rfl);have x1:=E2.out.cell (i:=10) rfl;have x2:=E2.out.free 10;have Z3:Hid (EntAt (w2.setCell ⟨b,10,none⟩ (.int .i64 n)) (b+1) zeroE):=hZ ((Below.heap_setCell _ _ _ _ (by simp)).trans Z2.out);have B3:=hZ (B2.out.setCell (p:=⟨b,10,none⟩) (Nat.le_of_eq HB.out) (.int .i64 n));have hb:=HB.out;have hs:=q3.out;clear he1 hb1 hs1 E2 Z2 B2;obtain⟨w3,hw3⟩:=oQ (w2.setCell ⟨b,10,none⟩ (.int .i64 n));rw[hw3] at E3 Z3 B3;have ZR:Hid (w3.heap[b+1]?=some (.cells zeroE.cells.toArray 33 (0,0))):=Z3
       have HRG:=hZ (range_of (cs:=(setE e 6 n).cells) E3.out))
    |((with_reducible refine wpList_load_mid rfl 33 (.tmp 3) rfl b 0 ?hx (setE e 6 n).cells _ HRG.out Tryz.underlying33 rfl (IE _).out ?_);(case hx=>rfl))
    |((with_reducible refine wpList_store_rowTo rfl 33 (.tmp 6) (.tmp 36) rfl rfl (b+1) (setE e 6 n).cells.toArray ?hx ?hy 33 _ ZR.out (IS _).out (zero_size _) (one_cells _) ?_);(case hx=>rfl);(case hy=>rfl))
    |fail)
   obtain⟨hR,hB⟩:=set_end (e:=setE e 6 n) Z3.out B3.out HB.out;refine bodyPost_ret (results_cell_mid rfl _ _ (b+1) (setE e 6 n).cells _ rfl (range_of hR) Tryz.underlying33 rfl (IE _).out) rfl ⟨rfl,hB⟩
end Go.Proofs.YteeifhlhpiimoaaGreatDoor
end
