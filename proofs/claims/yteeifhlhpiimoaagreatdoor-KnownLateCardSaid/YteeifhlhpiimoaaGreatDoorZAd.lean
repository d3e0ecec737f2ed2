/-
  Contracts of package integer's isValid, Valid, parse and both. Conditions: texts of at most 1000000 bytes. Contracts of package integer's parse and both. Conditions: the texts are valid integers (parse); at most 1000000 bytes (both). Contract of package integer's both. Conditions: the texts have at most 1000000 bytes. Contracts of package integer's Compare. Conditions: the texts have at most 1000000 bytes. A range over a function whose iterator may grow rows: the statement's own two blocks hold no cells. No condition. Contract of package integer's text. Conditions: at most 900 groups; the table of powers stands. Contract of package integer's Gcd. Conditions: the texts are valid integers of at most 1000000 bytes; the table of powers stands.
-/
import Derived.Shelf.Strings.SlTrimAscii
import Derived.Test.YteeifhlhpiimoaaGreatDoorZAc
import Derived.Lib.SmallJoins
import Derived.Test.YteeifhlhpiimoaaGreatDoorZAb
import Derived.Lib.OthersKept
import Derived.Lib.AppendIntMem
import Derived.Shelf.Strings.BuilderK
import Derived.Test.YteeifhlhpiimoaaGreatDoorZAa
set_option maxHeartbeats 8000000
set_option maxRecDepth 100000
section
namespace Go.Proofs.YteeifhlhpiimoaaGreatDoor
open Go Go.RowKit Go.Shelf
attribute [local go_sem] Oper.semAt_some
theorem trimPrefix_strip (l:List UInt8):Lib.trimPrefix l [45]=stripM l:=by
 cases l with
 |nil=>rfl
 | cons c l=>
   unfold Lib.trimPrefix Lib.hasPrefix;rw[strip_cons]
   by_cases h:c=45
   · subst h;simp
   · have:¬(45:UInt8)=c:=fun e=>h e.symm
     simp[h,this]
def digs10:List UInt8:=[48,49,50,51,52,53,54,55,56,57]
theorem digs10_mem (c:UInt8):digs10.contains c=dig10 c:=by
 have h:∀n:Fin 256,digs10.contains (UInt8.ofNat n.val)=dig10 (UInt8.ofNat n.val):=by decide+kernel
 have:=h ⟨c.toNat,c.toNat_lt⟩;simpa using this
theorem dropWhile_nil {l:List UInt8} {p:UInt8→Bool}:l.dropWhile p=[]↔l.all p=true:=by
 induction l with
 |nil=>simp
 | cons c l ih=>
   rw[List.dropWhile_cons,List.all_cons]
   by_cases h:p c=true
   · rw[if_pos h,ih,h];simp
   · rw[if_neg h];simp[h]
theorem trim_digits (l:List UInt8):(Lib.trimS l digs10=[])↔l.all dig10=true:=by
 unfold Lib.trimS Lib.trimLeftS Lib.trimRightS;have e:(fun x=>digs10.contains x)=dig10:=funext digs10_mem;rw[e,dropWhile_nil];constructor
 · intro h
   have hr:(l.reverse.dropWhile dig10)=[]:=by
    cases hq:l.reverse.dropWhile dig10 with
    |nil=>rfl
    | cons c q=>
      exfalso
      have h1:dig10 c=true:=by
       rw[hq] at h;rw[List.all_eq_true] at h;exact h c (by simp)
      have h2:=List.head?_dropWhile_not dig10 l.reverse;rw[hq] at h2;simp at h2;rw[h2] at h1;cases h1
   rw[dropWhile_nil] at hr;simpa using hr
 · intro h
   (have hr:(l.reverse.dropWhile dig10)=[]:=by rw[dropWhile_nil];simpa using h);rw[hr];rfl
theorem str_toList {d:ByteArray} {l:List UInt8} (h:d=⟨l.toArray⟩):d.toList=l:=by rw[h,ByteArray.toList_mk]
theorem valid_nil {l:List UInt8} (h:stripM l=[]):validI l=false:=by unfold validI;simp[h]
theorem valid_long {l:List UInt8} (h:200<(stripM l).length):validI l=false:=by unfold validI;simp;intro _ h2;omega
theorem valid_bad {l:List UInt8} (h:(stripM l).all dig10=false):validI l=false:=by unfold validI;rw[h];simp
theorem valid_rest {l:List UInt8} (h1:stripM l≠[]) (h2:(stripM l).length≤200) (h3:(stripM l).all dig10=true):validI l=(decide (l=[48])||decide ((stripM l).head?≠some 48)):=by
 unfold validI;rw[h3];simp[h1,h2]
def ValP (w:World) (b:Bool) (e:Ending) (w':World):Prop:=e=.returned (.bool b)∧Below w.heap.size w w'
theorem isValid_walk (s:ByteArray) (hs:s.size≤1000000) (w:World):
 Calls Tryz.prog 242 #[.string s] w (ValP w (validI s.data.toList)):=by
 obtain⟨d,hd⟩:∃d:ByteArray,d=⟨(stripM s.data.toList).toArray⟩:=⟨_,rfl⟩;have htp:=Tryz.strings_TrimPrefix s ⟨#[45]⟩ w;have e:(⟨#[45]⟩:ByteArray).data.toList=[45]:=rfl;rw[e,trimPrefix_strip,←hd] at htp;have HTP:=hZ htp;have hdl:=str_toList hd;have hds:d.size=(stripM s.data.toList).length:=by rw[hd];rfl
 have hdd:d.data.toList=stripM s.data.toList:=by rw[hd]
 have hsl:(stripM s.data.toList).length≤1000000:=by
  have:(stripM s.data.toList).length≤s.data.toList.length:=by
   cases s.data.toList with
   |nil=>exact Nat.le_refl _
   |cons c l=>rw[strip_cons];split<;>simp
  have h2:s.data.toList.length=s.size:=Array.length_toList;omega
 obtain⟨l,hl⟩:=oQ (s.data.toList);rw[hl] at hdl hds hsl hdd⊢;have HL:=hZ hl;have HDL:=hZ hdl;have HDS:=hZ hds;have HDD:=hZ hdd;clear hd htp e hl hdd
 by_cases h1:stripM l=[]
 · rw[valid_nil h1]
   rw[h1] at hdl;have b1:d.toList=[]:=hdl;clear hds h1 hdl
   go_enter Tryz.func242,Tryz.ntmps242
   go_wp2_with (first|(go_at_call 139;refine HTP.out.mono ?_;rintro e w' ⟨rfl,rfl⟩)|fail)
   go_ret;exact⟨rfl,Below.refl _ _⟩
 · have b1:d.toList.isEmpty=false:=by rw[hdl];simpa using h1
   have b1':¬d.toList=[]:=by rw[hdl];exact h1
   by_cases h2:200<(stripM l).length
   · rw[valid_long h2]
     (have b2:decide (200<(d.size:Int))=true:=by rw[hds];exact decide_eq_true (by omega));clear hds h1 hdl h2
     go_enter Tryz.func242,Tryz.ntmps242
     go_wp2_with (first|(go_at_call 139;refine HTP.out.mono ?_;rintro e w' ⟨rfl,rfl⟩)|fail)
     go_ret;exact⟨rfl,Below.refl _ _⟩
   · have b2:decide (200<(d.size:Int))=false:=by rw[hds];exact decide_eq_false (by omega)
     have htm:=Any.strings_Trim_laid Tryz.lays160 (by kernel_rfl) d ⟨#[48,49,50,51,52,53,54,55,56,57]⟩ w (by rw[hds];omega) (by decide) (ascii_of_all (by decide));rw[show(⟨#[48,49,50,51,52,53,54,55,56,57]⟩:ByteArray).data.toList=digs10 from rfl,HDD.out] at htm
     change Calls Tryz.prog 263 _ _ _ at htm
     obtain⟨t,ht⟩:∃t:ByteArray,t=⟨(Lib.trimS (stripM l) digs10).toArray⟩:=⟨_,rfl⟩;rw[←ht] at htm;have htl:=str_toList ht;have HTM:=hZ htm;clear htm ht
     by_cases h3:(stripM l).all dig10=true
     · rw [valid_rest h1 (by omega) h3]
       (have b3:t.toList=[]:=by rw[htl];exact(trim_digits _).2 h3);have b3':(!t.toList.isEmpty)=false:=by rw[b3];rfl
       by_cases h4:l=[48]
       · have b4:(s.toList==[48])=true:=by rw[ByteArray.toList_eq,HL.out,h4];rfl
         (have e4:(decide (l=[48])||decide ((stripM l).head?≠some 48))=true:=by simp[h4]);rw[e4];clear hds h1 hdl h2 htl h3 h4 e4 hsl
         go_enter Tryz.func242,Tryz.ntmps242
         go_wp2_with (first|(go_at_call 139;refine HTP.out.mono ?_;rintro e w' ⟨rfl,rfl⟩)|(go_at_call 263;refine HTM.out.mono ?_;rintro e w2 ⟨rfl,hb⟩)|fail)
         go_ret;exact⟨rfl,hb⟩
       · have b4:(s.toList==[48])=false:=by rw[ByteArray.toList_eq,HL.out];simpa using h4
         (have hd0:0<d.size:=by rw[hds];exact List.length_pos_iff.2 h1);obtain⟨c,hc⟩:=oQ (d[0]'hd0)
         have hh:(stripM l).head?=some c:=by
          (have:d.data.toList[0]?=some c:=by rw[←hc];simp[hd0];rfl);rw[HDD.out] at this;rw[List.head?_eq_getElem?];exact this
         have e4:(decide (l=[48])||decide ((stripM l).head?≠some 48))=((c.toNat:Int) !=48):=by
          rw[hh]
          by_cases q:c=48
          · subst q;simp[h4]
          · have:(c.toNat:Int)≠48:=fun e=>q (UInt8.toNat_inj.1 (by show c.toNat=48;omega))
            simp[h4,q,this]
         rw[e4];obtain⟨x,hx⟩:=oQ (c.toNat);(have hci:(d[0]'hd0).toNat=x:=by rw[hc];exact hx);rw[hx];clear hds h1 hdl h2 htl h3 h4 e4 hsl hc hh hx
         go_enter Tryz.func242,Tryz.ntmps242
         go_wp2_with (first|(go_at_call 139;refine HTP.out.mono ?_;rintro e w' ⟨rfl,rfl⟩)|(go_at_call 263;refine HTM.out.mono ?_;rintro e w2 ⟨rfl,hb⟩)|fail)
         go_ret;exact⟨rfl,hb⟩
     · have b3:(!t.toList.isEmpty)=true:=by
        (have:t.toList≠[]:=by rw[htl];exact fun e=>h3 ((trim_digits _).1 e));simpa using this
       rw[valid_bad (by simpa using h3)];clear hds h1 hdl h2 htl h3 hsl
       go_enter Tryz.func242,Tryz.ntmps242
       go_wp2_with (first|(go_at_call 139;refine HTP.out.mono ?_;rintro e w' ⟨rfl,rfl⟩)|(go_at_call 263;refine HTM.out.mono ?_;rintro e w2 ⟨rfl,hb⟩)|fail)
       go_ret;exact⟨rfl,hb⟩
theorem valid_walk (s:ByteArray) (hs:s.size≤1000000) (w:World):
 Calls Tryz.prog 200 #[.string s] w (ValP w (validI s.data.toList)):=by
 have HV:=hZ (isValid_walk s hs w);obtain⟨b,hb⟩:=oQ (validI s.data.toList);rw[hb] at HV⊢;clear hb
 go_enter Tryz.func200,Tryz.ntmps200
 go_wp2_with (first|(go_at_call 242;refine HV.out.mono ?_;rintro e w' ⟨rfl,hb⟩)|fail)
 go_ret;exact⟨rfl,hb⟩
theorem digitVal_dig {c:UInt8} (h:dig10 c=true):Lib.digitVal c=some (digN c):=by
 have key:∀n:Fin 256,dig10 (UInt8.ofNat n.val)=true→Lib.digitVal (UInt8.ofNat n.val)=some (digN (UInt8.ofNat n.val)):=by decide+kernel
 have:=key ⟨c.toNat,c.toNat_lt⟩;simpa using this (by simpa using h)
theorem decFrom_digits:∀(l:List UInt8) (a:Nat),(∀c∈l,dig10 c=true)→Lib.decFrom a l=some (decV a l):=by
 intro l
 induction l with
 |nil=>intro a _;rfl
 | cons c l ih=>
   intro a h;rw[Lib.decFrom,digitVal_dig (h c (by simp)),decV];exact ih _ fun x hx=>h x (by simp[hx])
theorem atoi_digits {l:List UInt8} (hn:l≠[]) (h:∀c∈l,dig10 c=true):Lib.atoi l=some ((decV 0 l:Nat):Int):=by
 cases l with
 |nil=>exact(hn rfl).elim
 | cons c l=>
   have hc:=h c (by simp)
   have h1:(c==45)=false:=by
    rw[beq_eq_false_iff_ne];rintro rfl;revert hc;decide
   have h2:(c==43)=false:=by
    rw[beq_eq_false_iff_ne];rintro rfl;revert hc;decide
   rw[Lib.atoi,h1,h2];simp only[Bool.false_eq_true,if_false];unfold Lib.decNat;rw[decFrom_digits _ _ h];rfl
theorem cells_set1 {W:World} {b:Nat} {x y z:Value} {T:TypeId} {fr:Nat×Nat} (h:W.heap[b]?=some (.cells #[x,y] T fr)):(W.setCell ⟨b,1,none⟩ z).heap[b]?=some (.cells #[x,z] T fr):=by
 simp only[World.setCell,Array.getElem?_modify,h];simp
theorem cells_set0 {W:World} {b:Nat} {x y z:Value} {T:TypeId} {fr:Nat×Nat} (h:W.heap[b]?=some (.cells #[x,y] T fr)):(W.setCell ⟨b,0,none⟩ z).heap[b]?=some (.cells #[z,y] T fr):=by
 simp only[World.setCell,Array.getElem?_modify,h];simp
theorem cells_at0 {W:World} {b:Nat} {x y:Value} {T:TypeId} {fr:Nat×Nat} (h:W.heap[b]?=some (.cells #[x,y] T fr)):W.cell? ⟨b,0,none⟩=some x:=by simp[World.cell?,h]
theorem cells_at1 {W:World} {b:Nat} {x y:Value} {T:TypeId} {fr:Nat×Nat} (h:W.heap[b]?=some (.cells #[x,y] T fr)):W.cell? ⟨b,1,none⟩=some y:=by simp[World.cell?,h]
theorem cells_free {W:World} {b:Nat} {cs:Array Value} {T:TypeId} (h:W.heap[b]?=some (.cells cs T (0,0))) (i:Nat):W.frozen? ⟨b,i,none⟩=false:=by simp[World.frozen?,h]
theorem cells_lt {W:World} {b:Nat} {o:Obj} (h:W.heap[b]?=some o):b<W.heap.size:=(Array.getElem?_eq_some_iff.1 h).1
theorem grp4_cons {l:List UInt8} (h:0<l.length):grp4 l=decV 0 (l.drop (l.length-4))::grp4 (l.take (l.length-4)):=by rw[grp4,if_neg (by omega)]
def ParseP (w:World) (neg:Bool) (n:Nat) (e:Ending) (w':World):Prop:=∃u,e=.returned (.agg #[.bool neg,u])∧LsAt w' u (ofN n)∧Below w.heap.size w w'
theorem parse_walk (s:ByteArray) (hs:s.size≤1000000) (ds:List UInt8) (hds:stripM s.data.toList=ds) (hdig:∀c∈ds,dig10 c=true) (w:World):
 Calls Tryz.prog 243 #[.string s] w (ParseP w (decide (ds.length<s.size)) (decV 0 ds)):=by
 obtain⟨d0,hd0⟩:∃d:ByteArray,d=⟨ds.toArray⟩:=⟨_,rfl⟩;have htp:=fun W=>Tryz.strings_TrimPrefix s ⟨#[45]⟩ W;rw[show(⟨#[45]⟩:ByteArray).data.toList=[45] from rfl,trimPrefix_strip,hds,←hd0] at htp;have HTP:=hZ htp;have HD0:Hid (d0.data.toList=ds):=hZ (by rw[hd0]);have hsz:d0.size=ds.length:=by rw[hd0];rfl
 have hlen:ds.length≤s.size:=by
  rw[←hds]
  have:(stripM s.data.toList).length≤s.data.toList.length:=by
   cases s.data.toList with
   |nil=>exact Nat.le_refl _
   |cons c l=>rw[strip_cons];split<;>simp
  have h2:s.data.toList.length=s.size:=Array.length_toList;omega
 have HDG:=hZ hdig;obtain⟨neg,hneg⟩:=oQ (decide (ds.length<s.size));have hneg':decide (d0.size<s.size)=neg:=by rw[hsz];exact hneg
 have hneg2:(d0.size<s.size)↔neg=true:=by rw[←hneg'];simp
 rw[hneg];have HSZ:=hZ hsz;have HFIN:=hZ (grp4_of hdig);have HLEN:=hZ hlen;clear hd0 htp hds hdig hneg hsz hneg2
 go_enter Tryz.func243,Tryz.ntmps243
 go_wp2_with (first|(go_at_call 139;refine(HTP.out _).mono ?_;rintro e w' ⟨rfl,rfl⟩)|fail)
 obtain⟨b2,hb2⟩:=oQ (w.heap.size);rw[hb2];obtain⟨b4,hb4⟩:=oQ (b2+1);rw[hb4];obtain⟨W0,hW0⟩:=oQ ((w.alloc (.cells #[.bool false,.slice none 0 0] 232)).alloc (.cells #[.bool neg,.slice none 0 0] 232))
 have hI0:W0.heap[b2]?=some (.cells #[.bool false,.slice none 0 0] 232 (0,0))∧W0.heap[b4]?=some (.cells #[.bool neg,.slice none 0 0] 232 (0,0))∧W0.heap.size=b4+1∧Below w.heap.size w W0:=by
  rw[←hW0];refine⟨?_,?_,by rw[World.size_alloc,World.size_alloc];omega,((Below.refl _ _).alloc (Nat.le_refl _) _).alloc (by simp) _⟩
  · rw[Below.heap_alloc _ _ _ (by rw[World.size_alloc];omega),←hb2];exact World.alloc_heap_new w _
  · have:=World.alloc_heap_new (w.alloc (.cells #[.bool false,.slice none 0 0] 232)) (.cells #[.bool neg,.slice none 0 0] 232)
    rw[World.size_alloc,hb2,hb4] at this;exact this
 obtain⟨x2,x4,xs,xb⟩:=hI0;have HB24:=hZ (And.intro hb2 hb4);rw[hW0];clear hW0 hb2 hb4
 go_loopw [3,5,6,7] (fun v3 _ _ _ wr=> ∃(dg:ByteArray) (out:List Nat) (v:Value),v3=.string dg∧Hid (grp4 ds=out++grp4 dg.data.toList)∧Hid (∀c∈dg.data.toList,dig10 c=true)∧Hid (dg.size≤ds.length∧out.length+dg.size≤ds.length)∧IntL wr (b4+1) v out∧
  wr.heap[b2]?=some (.cells #[.bool false,.slice none 0 0] 232 (0,0))∧wr.heap[b4]?=some (.cells #[.bool neg,v] 232 (0,0))∧Below w.heap.size w wr∧b4<wr.heap.size) (fun v _ _ _ _=>match v with|.string d=>d.size|_=>0)
 case atStart=>exact⟨d0,[],_,rfl,hZ (by rw[HD0.out];rfl),hZ (by rw[HD0.out];exact HDG.out),hZ (by rw[HSZ.out];exact⟨Nat.le_refl _,by simp⟩),OL.nil,x2,x4,xb,by omega⟩
 case round=>
  obtain⟨dg,out,v,rfl,HG,HDD,HLE,hol,y2,y4,hB,hlt⟩:=hrel;obtain⟨r,hr⟩:=oQ (dg.size);have hrb:r≤1000000∧out.length+r≤1000000:=by have:=HLE.out;have:=HLEN.out;omega
  obtain⟨ol,hol0⟩:=oQ (out.length);have HOLN:=hZ hol0;rw[hol0] at hrb;clear x2 x4 xs xb hol0
  by_cases h0:0<r
  · obtain⟨f,hf⟩:=oQ (r-4)
    obtain⟨t1,ht1⟩:=oQ (dg.extract f r);obtain⟨t2,ht2⟩:=oQ (dg.extract 0 f);have hdl:dg.data.toList.length=r:=by rw[←hr];exact Array.length_toList
    have e1:t1.data.toList=dg.data.toList.drop f:=by
     rw[←ht1];simp only[ByteArray.data_extract,Array.toList_extract,List.extract_eq_take_drop];exact List.take_of_length_le (by rw[List.length_drop,hdl];exact Nat.le_refl _)
    have e2:t2.data.toList=dg.data.toList.take f:=by rw[←ht2];simp
    have s1:t1.size=r-f:=by
     have:t1.data.toList.length=t1.size:=Array.length_toList;rw[←this,e1,List.length_drop,hdl]
    have s2:t2.size=f:=by
     have:t2.data.toList.length=t2.size:=Array.length_toList;rw[←this,e2,List.length_take,hdl];omega
    obtain⟨k,hk⟩:=oQ (decV 0 t1.data.toList)
    have hne1:t1.data.toList≠[]:=by
     intro e;have:t1.data.toList.length=t1.size:=Array.length_toList;rw[e,s1] at this;simp at this;omega
    have hat:=Tryz.strconv_Atoi t1 (k:Int) (by omega) (by rw[←hk];exact atoi_digits hne1 (fun c hc=>HDD.out c (by rw[e1] at hc;exact List.mem_of_mem_drop hc)));have HAT:=hZ hat
    have hg:grp4 ds=(out++[k])++grp4 t2.data.toList:=by
     rw[HG.out,grp4_cons (by rw[hdl];exact h0),hdl,hf,←e1,←e2,hk,List.append_assoc];rfl
    have HG2:=hZ hg;have HDD2:Hid (∀c∈t2.data.toList,dig10 c=true):=hZ (fun c hc=>HDD.out c (by rw[e2] at hc;exact List.mem_of_mem_take hc));have HS2:=hZ (And.intro s1 s2);(have hfr:f≤r:=by omega);have HOL:=hZ hol;have HB:=hZ hB;have HY2:=hZ y2;have HY4:=hZ y4;(have mx:max (0:Int) ((r:Int)-4)=(f:Int):=by omega);(have z1:(0:Int)≤(f:Int):=by omega);(have z2:(f:Int)≤(r:Int):=by omega);(have d1:decide (0<r)=true:=by simp[h0]);have hB24:=HB24.out;have hfx:∀W1,Below wr.heap.size wr W1→W1.cell? ⟨b4,1,none⟩=some v:=fun W1 hb=>(hb.cell (p:=⟨b4,1,none⟩) hlt).trans (cells_at1 y4);have HFX:=hZ hfx;clear e1 e2 s1 s2 hk hne1 hat hg hdl hol hB y2 y4 hf hfx hB24
    go_wp2_with (first
     | (go_at_call 264;refine(HAT.out _).mono ?_;rintro e w1 ⟨rfl,tt,hw1⟩;have hb1:Below wr.heap.size wr w1:=by rw[hw1];exact Go.Joins.below_bytesWorld _ _ _ _ (Nat.le_refl _)
        have cx:=HFX.out w1 hb1;have HB1:=hZ hb1
        clear hw1 hb1)
     | (at_builtin;refine wpList_app rfl (.tmp 31) (.tmp 33) 230 rfl elemNum _ _ ol HOLN.out rfl ((HOL.out.below HB1.out (Nat.le_refl _)).alloc _) k w1.heap.size #[.int .i64 k] rfl ?hc rfl rfl (by simp[one,nv,Value.oneCell']) (by have:=HOLN.out;unfold maxLen;omega) (by have:=HOLN.out;omega) (by have:=HB1.out.size;simp;omega) ?_;(case hc=>exact World.alloc_heap_new _ _);intro g3 c3 w3 h3 _ _ _ hb3
        have hy:∀b,b<b4+1→w3.heap[b]?=wr.heap[b]?:=fun b hb=>(hb3.block b hb).trans ((Below.heap_alloc _ _ _ (by have:=HB1.out.size;omega)).trans (HB1.out.block b (by omega)));have y4:=(hy b4 (by omega)).trans HY4.out;have y2:=hZ ((hy b2 (by have:=HB24.out;omega)).trans HY2.out);have cz:=cells_at1 y4;have fz:=cells_free y4 1;have HY4b:=hZ y4;have HB3:Hid (Below w.heap.size w w3):=hZ (((HB.out.trans (HB1.out.mono HB.out.size)).alloc (by have:=HB.out.size;have:=HB1.out.size;omega) _).trans (hb3.mono (by have:=HB24.out;omega)));have HH3:=hZ h3;have HZ3:Hid (b4<w3.heap.size):=hZ (cells_lt y4)
        clear hy y4 hb3 h3)
     |fail)
    refine⟨⟨t2,out++[k],_,rfl,HG2,HDD2,hZ ?_,HH3.out.keep (fun q hq=>Below.heap_setCell _ _ _ _ ?_),(Below.heap_setCell _ _ _ _ ?_).trans y2.out,cells_set1 HY4b.out,HB3.out.setCell ?_ _,by rw[show(w3.setCell ⟨b4,1,none⟩ _).heap.size=w3.heap.size by simp[World.setCell]];exact HZ3.out⟩,?_⟩
    · have h1:=HLE.out;have h2:=HS2.out;rw[hr,HOLN.out] at h1;rw[List.length_append,HOLN.out,h2.2];simp;omega
    · have:=(HH3.out.lt q hq).1;show q≠b4;omega
    · have:=HB24.out;show b2≠b4;omega
    · have:=HB24.out;show w.heap.size≤b4;omega
    · simp;rw[HS2.out.2];omega
  · obtain rfl:r=0:=by omega
    have hgn:dg.data.toList=[]:=by
     have:dg.data.toList.length=dg.size:=Array.length_toList;exact List.length_eq_zero_iff.1 (by omega)
    (have hgd:grp4 ds=out:=by rw[HG.out,hgn,show grp4 []=[] by(rw[grp4];rfl),List.append_nil]);have c1:=cells_at1 y4;have c0:=cells_at0 y4;have f1:=cells_free y4 1;have f20:=cells_free y2 0;have f21:=cells_free y2 1;have z20:=cells_at0 y2;have z21:=cells_at1 y2;obtain⟨A,cc,rfl,q1,q2,q3,q4⟩:=LsAt.of_ol hol;have HTR:=hZ (trimmed_walk A cc out ol HOLN.out (by have:=HOLN.out;omega) q2 q3 wr q4 (by omega));rw[←hgd,HFIN.out] at HTR;rw[HOLN.out] at c1 y4;have HFR:Hid (Fresh (b4+1) (.slice A ol cc)):=hZ hol.fresh.cut;have hb24:=HB24.out;(have hne:b2≠b4:=by omega);(have hne2:b4≠b2:=by omega);(have d1:decide (0<0)=false:=by decide);have HB:=hZ hB;have HY4:=hZ y4;have HY2:=hZ y2;clear hol q1 q2 q3 q4 hgd hgn hB y2 y4 hb24
    go_wp2_with (first
     | (go_at_call 245;refine HTR.out.mono ?_;rintro e w9 ⟨⟨v5,rfl,hv5,hf5⟩,rfl⟩
        have HF5:=hZ (hf5 (b4+1) HFR.out);have HV5:=hZ hv5;obtain⟨A5,c5,hv5e,-⟩:=hv5;obtain⟨n5,hn5⟩:=oQ ((ofN (decV 0 ds)).length);rw[hn5] at hv5e;subst hv5e
        clear hn5 hf5)
     |fail)
    have e4:(w9.setCell ⟨b4,1,none⟩ (.slice A5 n5 c5)).heap[b2]?=some (.cells #[.bool false,.slice none 0 0] 232 (0,0)):=(Below.heap_setCell _ _ _ _ hne).trans HY2.out;have e5:=cells_set1 (z:=.slice A5 n5 c5) (cells_set0 (z:=.bool neg) e4);have hb24:=HB24.out;refine bodyPost_ret (results_cell_mid rfl _ _ b2 [.bool neg,.slice A5 n5 c5] _ rfl (fun i v hv=> ?_) Tryz.underlying232 rfl (by kernel_rfl)) rfl ⟨_,rfl,?_,?_⟩
    · match i,hv with
      |0,hv=>cases hv;exact cells_at0 e5
      |1,hv=>cases hv;exact cells_at1 e5
    · exact((HV5.out.set HF5.out ⟨b4,1,none⟩ (by show b4<b4+1;omega) _).set HF5.out ⟨b2,0,none⟩ (by show b2<b4+1;omega) _).set HF5.out ⟨b2,1,none⟩ (by show b2<b4+1;omega) _
    · exact((HB.out.setCell (p:=⟨b4,1,none⟩) (by show w.heap.size≤b4;omega) _).setCell (p:=⟨b2,0,none⟩) (by show w.heap.size≤b2;omega) _).setCell (p:=⟨b2,1,none⟩) (by show w.heap.size≤b2;omega) _
theorem neg_val {l:List UInt8} (h:validI l=true):decide ((stripM l).length<l.length)=decide (valI l<0)∧(valI l).natAbs=decV 0 (stripM l):=by
 have h2:=h;unfold validI at h2;simp only[Bool.and_eq_true,Bool.or_eq_true,decide_eq_true_eq,List.all_eq_true] at h2;obtain⟨⟨⟨h1,h2⟩,h3⟩,h4⟩:=h2;unfold valI
 cases l with
 |nil=>exact(h1 rfl).elim
 | cons c l=>
   rw[strip_cons] at h1 h3 h4⊢
   by_cases hc:c=45
   · subst hc
     rw[if_pos rfl] at h1 h3 h4⊢;have hp:0<decV 0 l:=decV_pos h1 h3 (by rcases h4 with h4|h4;(cases h4);exact h4);rw[if_pos (by rfl)];refine⟨?_,by omega⟩;rw[decide_eq_true (by simp),decide_eq_true (by omega)]
   · rw[if_neg hc]
     rw[if_neg (by intro e;injection e with e;exact hc e)];refine⟨?_,by omega⟩;rw[decide_eq_false (by simp),decide_eq_false (by omega)]
theorem val_len {l:List UInt8} (h:validI l=true):(ofN (valI l).natAbs).length≤50:=by
 have h2:=h;unfold validI at h2;simp only[Bool.and_eq_true,Bool.or_eq_true,decide_eq_true_eq,List.all_eq_true] at h2;obtain⟨⟨⟨h1,h2⟩,h3⟩,h4⟩:=h2;rw[(neg_val h).2];apply ofN_len_pow;have hl:=decV_lt (stripM l) h3;have e:(10000:Nat)^50=10^200:=by rw[show(10000:Nat)=10^4 by rfl,←Nat.pow_mul]
 rw[e];exact Nat.lt_of_lt_of_le hl (Nat.pow_le_pow_right (by decide) h2)
def SgP (w:World) (z:Int) (e:Ending) (w':World):Prop:=∃u,e=.returned (.agg #[.bool (decide (z<0)),u])∧LsAt w' u (ofN z.natAbs)∧Below w.heap.size w w'
theorem parse_valid (s:ByteArray) (hs:s.size≤1000000) (h:validI s.data.toList=true) (w:World):
 Calls Tryz.prog 243 #[.string s] w (SgP w (valI s.data.toList)):=by
 have h2:=h;unfold validI at h2;simp only[Bool.and_eq_true,Bool.or_eq_true,decide_eq_true_eq,List.all_eq_true] at h2;obtain⟨n1,n2⟩:=neg_val h;refine(parse_walk s hs _ rfl h2.1.2 w).mono ?_;rintro e w' ⟨u,rfl,hu,hb⟩;refine⟨u,?_,by rw[n2];exact hu,hb⟩;rw[←n1,show s.size=s.data.toList.length from Array.length_toList.symm]
def BothNo (w:World) (e:Ending) (w':World):Prop:=e=.returned (.tuple #[.agg #[.bool false,.slice none 0 0],.agg #[.bool false,.slice none 0 0],.bool false])∧Below w.heap.size w w'
def BothYes (w:World) (x y:Int) (e:Ending) (w':World):Prop:=∃u v,e=.returned (.tuple #[.agg #[.bool (decide (x<0)),u],.agg #[.bool (decide (y<0)),v],.bool true])∧LsAt w' u (ofN x.natAbs)∧LsAt w' v (ofN y.natAbs)∧Below w.heap.size w w'
theorem two_boxes (w:World) (c1 c2:Array Value) (T1 T2:TypeId):((w.alloc (.cells c1 T1)).alloc (.cells c2 T2)).heap[w.heap.size]?=some (.cells c1 T1 (0,0))∧((w.alloc (.cells c1 T1)).alloc (.cells c2 T2)).heap[w.heap.size+1]?=some (.cells c2 T2 (0,0))∧
 ((w.alloc (.cells c1 T1)).alloc (.cells c2 T2)).heap.size=w.heap.size+2∧Below w.heap.size w ((w.alloc (.cells c1 T1)).alloc (.cells c2 T2)):=by
 refine⟨?_,?_,by rw[World.size_alloc,World.size_alloc],((Below.refl _ _).alloc (Nat.le_refl _) _).alloc (by simp) _⟩
 · rw[Below.heap_alloc _ _ _ (by rw[World.size_alloc];omega)];exact World.alloc_heap_new w _
 · have:=World.alloc_heap_new (w.alloc (.cells c1 T1)) (.cells c2 T2)
   rw[World.size_alloc] at this;exact this
def TwoV (b:Nat) (T1 T2:TypeId) (x0 x1 y0 y1:Value) (W:World):Prop:=W.heap[b]?=some (.cells #[x0,x1] T1 (0,0))∧W.heap[b+1]?=some (.cells #[y0,y1] T2 (0,0))
theorem TwoV.below {b:Nat} {T1 T2:TypeId} {x0 x1 y0 y1:Value} {W W':World} (h:TwoV b T1 T2 x0 x1 y0 y1 W) (hb:Below W.heap.size W W'):TwoV b T1 T2 x0 x1 y0 y1 W':=
 ⟨(hb.block _ (cells_lt h.1)).trans h.1,(hb.block _ (cells_lt h.2)).trans h.2⟩
theorem TwoV.facts {b:Nat} {T1 T2:TypeId} {x0 x1 y0 y1:Value} {W:World} (h:TwoV b T1 T2 x0 x1 y0 y1 W):
 (W.cell? ⟨b,0,none⟩=some x0∧W.cell? ⟨b,1,none⟩=some x1∧W.cell? ⟨b+1,0,none⟩=some y0∧W.cell? ⟨b+1,1,none⟩=some y1)∧
 (W.frozen? ⟨b,0,none⟩=false∧W.frozen? ⟨b,1,none⟩=false∧W.frozen? ⟨b+1,0,none⟩=false∧W.frozen? ⟨b+1,1,none⟩=false):=
 ⟨⟨cells_at0 h.1,cells_at1 h.1,cells_at0 h.2,cells_at1 h.2⟩,⟨cells_free h.1 0,cells_free h.1 1,cells_free h.2 0,cells_free h.2 1⟩⟩
theorem TwoV.put {b:Nat} {T1 T2:TypeId} {x0 x1 y0 y1:Value} {W:World} (h:TwoV b T1 T2 x0 x1 y0 y1 W) (u0 u1 v0 v1:Value):
 TwoV b T1 T2 u0 u1 v0 v1 ((((W.setCell ⟨b,0,none⟩ u0).setCell ⟨b,1,none⟩ u1).setCell ⟨b+1,0,none⟩ v0).setCell ⟨b+1,1,none⟩ v1):=by
 have h1:=cells_set1 (z:=u1) (cells_set0 (z:=u0) h.1);have h2:((W.setCell ⟨b,0,none⟩ u0).setCell ⟨b,1,none⟩ u1).heap[b+1]?=some (.cells #[y0,y1] T2 (0,0)):=(Below.heap_setCell _ _ _ _ (by simp)).trans ((Below.heap_setCell _ _ _ _ (by simp)).trans h.2);exact⟨(Below.heap_setCell _ _ _ _ (by simp)).trans ((Below.heap_setCell _ _ _ _ (by simp)).trans h1),cells_set1 (cells_set0 h2)⟩
theorem results_two {P:Program} {fn:Func} {p q t:Tmp} {ty:TypeId} (h:fn.results=#[.cell p ty,.cell q ty,.tmp t]) (tmps:Array Value) (w:World) (b c:Nat) (cs ds:List Value) (d:TypeDesc)
 (hp:tmps.getD p undef=.pointer (some ⟨b,0,none⟩)) (hq:tmps.getD q undef=.pointer (some ⟨c,0,none⟩)) (hc:w.rangeAt b 0 cs) (hd:w.rangeAt c 0 ds) (hu:P.underlying ty=some d) (hr:d.isRow=true)
 (hi:(P.info? ty).map (·.size)=some cs.length) (hl:ds.length=cs.length):
 (results fn tmps).run P w=.ok (.tuple #[.agg cs.toArray,.agg ds.toArray,tmps.getD t undef]) w:=by
 have hp':tmps[p]?.getD undef=.pointer (some ⟨b,0,none⟩):=by simpa using hp
 have hq':tmps[q]?.getD undef=.pointer (some ⟨c,0,none⟩):=by simpa using hq
 simp[results,h,hp',hq',asAddr,run_loadVar_mid w b 0 ty cs d hc hu hr hi,run_loadVar_mid w c 0 ty ds d hd hu hr (by rw[hl];exact hi)]
theorem range2 {W:World} {b:Nat} {x y:Value} (h0:W.cell? ⟨b,0,none⟩=some x) (h1:W.cell? ⟨b,1,none⟩=some y):W.rangeAt b 0 [x,y]:=fun i v hv=>by
 match i,hv with
 |0,hv=>cases hv;exact h0
 |1,hv=>cases hv;exact h1
theorem both_no (s t:ByteArray) (hs:s.size≤1000000) (ht:t.size≤1000000) (h:(validI s.data.toList&&validI t.data.toList)=false) (w:World):
 Calls Tryz.prog 203 #[.string s,.string t] w (BothNo w):=by
 have H1:=hZ (fun w=>isValid_walk s hs w);have H2:=hZ (fun w=>isValid_walk t ht w);obtain⟨b1,hb1⟩:=oQ (validI s.data.toList);obtain⟨b2,hb2⟩:=oQ (validI t.data.toList);rw[hb1] at H1 h;rw[hb2] at H2 h;obtain⟨k1,k2,k3,k4⟩:=two_boxes w #[.bool false,.slice none 0 0] #[.bool false,.slice none 0 0] 232 232;have HK:=hZ (show TwoV w.heap.size 232 232 (.bool false) (.slice none 0 0) (.bool false) (.slice none 0 0) _ from⟨k1,k2⟩);have HK3:=hZ k3;have HK4:=hZ k4;clear hb1 hb2 k1 k2 k3 k4;cases b1
 · clear h
   go_enter Tryz.func203,Tryz.ntmps203
   go_wp2_with (first
    |(go_at_call 242;(with_reducible refine(H1.out _).mono ?_);rintro e w1 ⟨rfl,hb1⟩;have HT:=hZ (HK.out.below hb1);have HB:=hZ (HK4.out.trans (hb1.mono (by rw[HK3.out];omega)));obtain⟨⟨c1,c2,c3,c4⟩,⟨f1,f2,f3,f4⟩⟩:=HT.out.facts;clear hb1)|fail)
   obtain⟨⟨e1,e2,e3,e4⟩,-⟩:=(HT.out.put (.bool false) (.slice none 0 0) (.bool false) (.slice none 0 0)).facts;refine bodyPost_ret (results_two rfl _ _ w.heap.size (w.heap.size+1) [.bool false,.slice none 0 0] [.bool false,.slice none 0 0] _ rfl rfl (range2 e1 e2) (range2 e3 e4) Tryz.underlying232 rfl (by kernel_rfl) rfl) rfl ⟨rfl,?_⟩;exact(((HB.out.setCell (p:=⟨w.heap.size,0,none⟩) (Nat.le_refl _) _).setCell (p:=⟨w.heap.size,1,none⟩) (Nat.le_refl _) _).setCell (p:=⟨w.heap.size+1,0,none⟩) (by simp) _).setCell (p:=⟨w.heap.size+1,1,none⟩) (by simp) _
 · obtain rfl:b2=false:=by simpa using h
   clear h
   go_enter Tryz.func203,Tryz.ntmps203
   go_wp2_with (first
    |(go_at_call 242;(with_reducible refine(H1.out _).mono ?_);rintro e w1 ⟨rfl,hb1⟩;have HT1:=hZ (HK.out.below hb1);have HB1:=hZ (HK4.out.trans (hb1.mono (by rw[HK3.out];omega)));clear hb1)
    |(go_at_call 242;(with_reducible refine(H2.out _).mono ?_);rintro e w2 ⟨rfl,hb2⟩;have HT:=hZ (HT1.out.below hb2);have HB:=bTr HB1 hb2;obtain⟨⟨c1,c2,c3,c4⟩,⟨f1,f2,f3,f4⟩⟩:=HT.out.facts;clear hb2)|fail)
   obtain⟨⟨e1,e2,e3,e4⟩,-⟩:=(HT.out.put (.bool false) (.slice none 0 0) (.bool false) (.slice none 0 0)).facts;refine bodyPost_ret (results_two rfl _ _ w.heap.size (w.heap.size+1) [.bool false,.slice none 0 0] [.bool false,.slice none 0 0] _ rfl rfl (range2 e1 e2) (range2 e3 e4) Tryz.underlying232 rfl (by kernel_rfl) rfl) rfl ⟨rfl,?_⟩;exact(((HB.out.setCell (p:=⟨w.heap.size,0,none⟩) (Nat.le_refl _) _).setCell (p:=⟨w.heap.size,1,none⟩) (Nat.le_refl _) _).setCell (p:=⟨w.heap.size+1,0,none⟩) (by simp) _).setCell (p:=⟨w.heap.size+1,1,none⟩) (by simp) _
theorem LsAt.setOld {W:World} {v:Value} {l:List Nat} (h:LsAt W v l) {b:Nat} {x y:Value} {T:TypeId} (hx:W.heap[b]?=some (.cells #[x,y] T (0,0))) (hb:(∀k n,x≠.int k n)∧(∀k n,y≠.int k n)) (i:Nat) (u:Value):LsAt (W.setCell ⟨b,i,none⟩ u) v l:=by
 obtain⟨A,c,rfl,h1,h2,h3,h4⟩:=h;refine⟨A,c,rfl,h1,h2,h3,fun j z hz=> ?_⟩;obtain⟨a,rfl,hl,hc⟩:=h4 j z hz;refine⟨a,rfl,by simpa[World.setCell] using hl,?_⟩
 have hne:(a.add j).block≠b:=fun e=>by
  unfold World.cell? at hc;rw[e,hx] at hc;simp only at hc
  split at hc
  · cases hc
  · unfold nv at hc
    match (a.add j).off,hc with
    |0,hc=>exact hb.1 _ _ (by simpa using hc)
    |1,hc=>exact hb.2 _ _ (by simpa using hc)
    |n+2,hc=>simp at hc
 rw[World.cell?_setCell_other _ _ _ _ (fun e=>hne (by rw[←e]))];exact hc
theorem old4 {b:Nat} {T1 T2:TypeId} {p q:Bool} {W:World} {k m:Option Addr} {i1 i2 i3 i4:Nat} (h:TwoV b T1 T2 (.bool p) (.slice k i1 i2) (.bool q) (.slice m i3 i4) W) {v:Value} {l:List Nat} (hv:LsAt W v l) {p' q':Bool} {k' m':Option Addr} {j1 j2 j3 j4:Nat}:
 LsAt ((((W.setCell ⟨b,0,none⟩ (.bool p')).setCell ⟨b,1,none⟩ (.slice k' j1 j2)).setCell ⟨b+1,0,none⟩ (.bool q')).setCell ⟨b+1,1,none⟩ (.slice m' j3 j4)) v l:=by
 have no:∀(r:Bool) (a:Option Addr) (i j:Nat),(∀k n,Value.bool r≠.int k n)∧(∀k n,Value.slice a i j≠.int k n):=fun _ _ _ _=>⟨fun _ _=>by simp,fun _ _=>by simp⟩;have h1:=cells_set0 (z:=.bool p') h.1;have h2:=cells_set1 (z:=.slice k' j1 j2) h1;have h3:((W.setCell ⟨b,0,none⟩ (.bool p')).setCell ⟨b,1,none⟩ (.slice k' j1 j2)).heap[b+1]?=_:=(Below.heap_setCell _ _ _ _ (by simp)).trans ((Below.heap_setCell _ _ _ _ (by simp)).trans h.2);have h4:=cells_set0 (z:=.bool q') h3;exact(((hv.setOld h.1 (no _ _ _ _) 0 _).setOld h1 (no _ _ _ _) 1 _).setOld h3 (no _ _ _ _) 0 _).setOld h4 (no _ _ _ _) 1 _
theorem both_yes (s t:ByteArray) (hs:s.size≤1000000) (ht:t.size≤1000000) (h1:validI s.data.toList=true) (h2:validI t.data.toList=true) (w:World):
 Calls Tryz.prog 203 #[.string s,.string t] w (BothYes w (valI s.data.toList) (valI t.data.toList)):=by
 have H1:=hZ (fun w=>isValid_walk s hs w);have H2:=hZ (fun w=>isValid_walk t ht w);have H3:=hZ (fun w=>parse_valid s hs h1 w);have H4:=hZ (fun w=>parse_valid t ht h2 w);rw[h1] at H1;rw[h2] at H2;obtain⟨x,hx⟩:=oQ (valI s.data.toList);obtain⟨y,hy⟩:=oQ (valI t.data.toList);rw[hx] at H3⊢;rw[hy] at H4⊢;obtain⟨k1,k2,k3,k4⟩:=two_boxes w #[.bool false,.slice none 0 0] #[.bool false,.slice none 0 0] 232 232;have HK:=hZ (show TwoV w.heap.size 232 232 (.bool false) (.slice none 0 0) (.bool false) (.slice none 0 0) _ from⟨k1,k2⟩);have HK3:=hZ k3;have HK4:=hZ k4;clear hx hy k1 k2 k3 k4 h1 h2
 go_enter Tryz.func203,Tryz.ntmps203
 go_wp2_with (first
  |(go_at_call 242;(with_reducible refine(H1.out _).mono ?_);rintro e w1 ⟨rfl,hb1⟩;have HT1:=hZ (HK.out.below hb1);have HB1:=hZ (HK4.out.trans (hb1.mono (by rw[HK3.out];omega)));clear hb1)
  |(go_at_call 242;(with_reducible refine(H2.out _).mono ?_);rintro e w2 ⟨rfl,hb2⟩;have HT2:=hZ (HT1.out.below hb2);have HB2:=bTr HB1 hb2;clear hb2)
  |(go_at_call 243;(with_reducible refine(H3.out _).mono ?_);rintro e w3 ⟨u,rfl,hu,hb3⟩;have HT3:=hZ (HT2.out.below hb3);have HB3:=bTr HB2 hb3;have HU:=hZ hu;obtain⟨A1,c1,hue,-⟩:=hu;obtain⟨n1,hn1⟩:=oQ ((ofN x.natAbs).length);rw[hn1] at hue;subst hue;clear hb3 hn1)
  |(go_at_call 243;(with_reducible refine(H4.out _).mono ?_);rintro e w4 ⟨v,rfl,hv,hb4⟩;have HT:=hZ (HT3.out.below hb4);have HB:=bTr HB3 hb4;have HU4:=hZ (HU.out.below hb4);have HV:=hZ hv;obtain⟨A2,c2,hve,-⟩:=hv;obtain⟨n2,hn2⟩:=oQ ((ofN y.natAbs).length);rw[hn2] at hve;subst hve;clear hn2;obtain⟨⟨d1,d2,d3,d4⟩,⟨f1,f2,f3,f4⟩⟩:=HT.out.facts;clear hb4)|fail)
 obtain⟨⟨e1,e2,e3,e4⟩,-⟩:=(HT.out.put (.bool (decide (x<0))) (.slice A1 n1 c1) (.bool (decide (y<0))) (.slice A2 n2 c2)).facts;refine bodyPost_ret (results_two rfl _ _ w.heap.size (w.heap.size+1) [.bool (decide (x<0)),.slice A1 n1 c1] [.bool (decide (y<0)),.slice A2 n2 c2] _ rfl rfl (range2 e1 e2) (range2 e3 e4) Tryz.underlying232 rfl (by kernel_rfl) rfl) rfl ⟨_,_,rfl,?_,?_,?_⟩
 · exact old4 HT.out HU4.out
 · exact old4 HT.out HV.out
 · exact(((HB.out.setCell (p:=⟨w.heap.size,0,none⟩) (Nat.le_refl _) _).setCell (p:=⟨w.heap.size,1,none⟩) (Nat.le_refl _) _).setCell (p:=⟨w.heap.size+1,0,none⟩) (by simp) _).setCell (p:=⟨w.heap.size+1,1,none⟩) (by simp) _
def icmpS (s t:List UInt8):Int:=if validI s&&validI t then cmpZ' (valI s) (valI t) else 0
theorem cmpI_abs {x y:Int}:cmpZ' x y=if x<0 then(if y<0 then cmpI y.natAbs x.natAbs else -1) else(if y<0 then 1 else cmpI x.natAbs y.natAbs):=by
 unfold cmpZ' cmpI
 split<;>rename_i h<;>split<;>rename_i h2<;>try split
 all_goals (first|rfl|omega|(split<;>first|rfl|omega|(split<;>first|rfl|omega)))
theorem icompare_yes (s t:ByteArray) (hs:s.size≤1000000) (ht:t.size≤1000000) (h1:validI s.data.toList=true) (h2:validI t.data.toList=true) (w:World):
 Calls Tryz.prog 141 #[.string s,.string t] w fun e w'=>e=.returned (.int .i64 (cmpZ' (valI s.data.toList) (valI t.data.toList)))∧Below w.heap.size w w':=by
 have HB:=hZ (both_yes s t hs ht h1 h2 w);have hl1:=val_len h1;have hl2:=val_len h2;obtain⟨x,hx⟩:=oQ (valI s.data.toList);obtain⟨y,hy⟩:=oQ (valI t.data.toList);rw[hx] at HB hl1⊢;rw[hy] at HB hl2⊢;rw[cmpI_abs];have HL1:=hZ hl1;have HL2:=hZ hl2;clear h1 h2 hx hy hl1 hl2;unfold BothYes at HB
 by_cases hx:x<0<;>by_cases hy:y<0
 all_goals (first|rw[if_pos hx]|rw[if_neg hx])
 all_goals (first|rw[if_pos hy]|rw[if_neg hy])
 all_goals (first|rw[decide_eq_true hx] at HB|rw[decide_eq_false hx] at HB)
 all_goals (first|rw[decide_eq_true hy] at HB|rw[decide_eq_false hy] at HB)
 all_goals clear hx hy
 · go_enter Tryz.func141,Tryz.ntmps141
   go_wp2_with (first
    |(go_at_call 203;(with_reducible refine HB.out.mono ?_);rintro e w1 ⟨u,v,rfl,hu,hv,hb1⟩;have HU:=hZ hu;have HV:=hZ hv;obtain⟨A1,c1,hue,-⟩:=hu;obtain⟨n1,hn1⟩:=oQ ((ofN x.natAbs).length);rw[hn1] at hue;subst hue;clear hn1;obtain⟨A2,c2,hve,-⟩:=hv;obtain⟨n2,hn2⟩:=oQ ((ofN y.natAbs).length);rw[hn2] at hve;subst hve;clear hn2;have HB1:=hZ hb1;clear hb1)
    |(go_at_call 209;have KB:=hZ (two_boxes w1 #[.bool true,.slice A1 n1 c1] #[.bool true,.slice A2 n2 c2] 232 232).2.2.2;(with_reducible refine(compare_walk y.natAbs x.natAbs _ _ _ (HV.out.below KB.out) (HU.out.below KB.out) (Nat.le_trans HL2.out (by omega)) (Nat.le_trans HL1.out (by omega))).mono ?_);rintro e w2 ⟨rfl,hb2⟩;have HB2:=hZ (HB1.out.trans ((KB.out.mono (HB1.out.size)).trans (hb2.mono (Nat.le_trans HB1.out.size KB.out.size))));clear hb2)
    |fail)
   go_ret;exact⟨rfl,HB2.out⟩
 · go_enter Tryz.func141,Tryz.ntmps141
   go_wp2_with (first
    |(go_at_call 203;(with_reducible refine HB.out.mono ?_);rintro e w1 ⟨u,v,rfl,hu,hv,hb1⟩;have HU:=hZ hu;have HV:=hZ hv;obtain⟨A1,c1,hue,-⟩:=hu;obtain⟨n1,hn1⟩:=oQ ((ofN x.natAbs).length);rw[hn1] at hue;subst hue;clear hn1;obtain⟨A2,c2,hve,-⟩:=hv;obtain⟨n2,hn2⟩:=oQ ((ofN y.natAbs).length);rw[hn2] at hve;subst hve;clear hn2;have HB1:=hZ hb1;clear hb1)
    |fail)
   go_ret;exact⟨rfl,HB1.out.trans ((two_boxes w1 #[.bool true,.slice A1 n1 c1] #[.bool false,.slice A2 n2 c2] 232 232).2.2.2.mono HB1.out.size)⟩
 · go_enter Tryz.func141,Tryz.ntmps141
   go_wp2_with (first
    |(go_at_call 203;(with_reducible refine HB.out.mono ?_);rintro e w1 ⟨u,v,rfl,hu,hv,hb1⟩;have HU:=hZ hu;have HV:=hZ hv;obtain⟨A1,c1,hue,-⟩:=hu;obtain⟨n1,hn1⟩:=oQ ((ofN x.natAbs).length);rw[hn1] at hue;subst hue;clear hn1;obtain⟨A2,c2,hve,-⟩:=hv;obtain⟨n2,hn2⟩:=oQ ((ofN y.natAbs).length);rw[hn2] at hve;subst hve;clear hn2;have HB1:=hZ hb1;clear hb1)
    |fail)
   go_ret;exact⟨rfl,HB1.out.trans ((two_boxes w1 #[.bool false,.slice A1 n1 c1] #[.bool true,.slice A2 n2 c2] 232 232).2.2.2.mono HB1.out.size)⟩
 · go_enter Tryz.func141,Tryz.ntmps141
   go_wp2_with (first
    |(go_at_call 203;(with_reducible refine HB.out.mono ?_);rintro e w1 ⟨u,v,rfl,hu,hv,hb1⟩;have HU:=hZ hu;have HV:=hZ hv;obtain⟨A1,c1,hue,-⟩:=hu;obtain⟨n1,hn1⟩:=oQ ((ofN x.natAbs).length);rw[hn1] at hue;subst hue;clear hn1;obtain⟨A2,c2,hve,-⟩:=hv;obtain⟨n2,hn2⟩:=oQ ((ofN y.natAbs).length);rw[hn2] at hve;subst hve;clear hn2;have HB1:=hZ hb1;clear hb1)
    |(go_at_call 209;have KB:=hZ (two_boxes w1 #[.bool false,.slice A1 n1 c1] #[.bool false,.slice A2 n2 c2] 232 232).2.2.2;(with_reducible refine(compare_walk x.natAbs y.natAbs _ _ _ (HU.out.below KB.out) (HV.out.below KB.out) (Nat.le_trans HL1.out (by omega)) (Nat.le_trans HL2.out (by omega))).mono ?_);rintro e w2 ⟨rfl,hb2⟩;have HB2:=hZ (HB1.out.trans ((KB.out.mono (HB1.out.size)).trans (hb2.mono (Nat.le_trans HB1.out.size KB.out.size))));clear hb2)
    |fail)
   go_ret;exact⟨rfl,HB2.out⟩
theorem icompare_no (s t:ByteArray) (hs:s.size≤1000000) (ht:t.size≤1000000) (h:(validI s.data.toList&&validI t.data.toList)=false) (w:World):
 Calls Tryz.prog 141 #[.string s,.string t] w fun e w'=>e=.returned (.int .i64 0)∧Below w.heap.size w w':=by
 have HB:=hZ (both_no s t hs ht h w);unfold BothNo at HB;clear h
 go_enter Tryz.func141,Tryz.ntmps141
 go_wp2_with (first
  |(go_at_call 203;(with_reducible refine HB.out.mono ?_);rintro e w1 ⟨rfl,hb1⟩;have HB1:=hZ hb1;clear hb1)
  |fail)
 go_ret;exact⟨rfl,HB1.out.trans ((two_boxes w1 #[.bool false,.slice none 0 0] #[.bool false,.slice none 0 0] 232 232).2.2.2.mono HB1.out.size)⟩
theorem icompare_walk (s t:ByteArray) (hs:s.size≤1000000) (ht:t.size≤1000000) (w:World):
 Calls Tryz.prog 141 #[.string s,.string t] w fun e w'=>e=.returned (.int .i64 (icmpS s.data.toList t.data.toList))∧Below w.heap.size w w':=by
 unfold icmpS
 by_cases h1:validI s.data.toList=true
 · by_cases h2:validI t.data.toList=true
   · rw[h1,h2,Bool.and_self,if_pos rfl];exact icompare_yes s t hs ht h1 h2 w
   · have e:(validI s.data.toList&&validI t.data.toList)=false:=by simp[h1,h2]
     rw[e,if_neg (by simp)];exact icompare_no s t hs ht e w
 · have e:(validI s.data.toList&&validI t.data.toList)=false:=by simp[h1]
   rw[e,if_neg (by simp)];exact icompare_no s t hs ht e w
end Go.Proofs.YteeifhlhpiimoaaGreatDoor
end
section
namespace Go.Proofs.YteeifhlhpiimoaaGreatDoor
open Go Go.RowKit Go.Shelf
def NoCells (w A:World):Prop:=∀k cs t fz,books w k→A.heap[k]?≠some (.cells cs t fz)
theorem NoCells.self (w:World):NoCells w w:=fun k cs t fz h e=>by
 have:=(Array.getElem?_eq_some_iff.1 e).1;rcases h with h|h<;>omega
theorem NoCells.of {w A:World} {d:Option (List Deferred)} {l:Loop} (hd:A.heap[w.heap.size]?=some (.deferred d)) (hl:A.heap[w.heap.size+1]?=some (.loop l)):NoCells w A:=fun k cs t fz h e=>by
 rcases h with rfl|rfl
 · rw[hd] at e;cases e
 · rw[hl] at e;cases e
theorem wp_rangeZN {P:Program} {α:Type} {g:Operand} {ps:Array Tmp} {assign body:Code} {Q:Exit→Act→World→Prop} {a:Act} {w:World}
 {gf:Nat} {lb:Array Value} (hg:a.eval g=.func (.func gf) #[] lb) (eg:∀args w,(callFunc gf args).run P w=.ok (.enter gf args) w)
 {encs:α→Array Value} {Z:Nat→Prop} {Kp:World→World→Prop} {S Sp:List α→Prop} {N:Nat} {w0:World} (hseq:IterZ P gf lb encs Z Kp S Sp N w0) (hb0:Below w0.heap.size w0 w)
 (hZ:∀k,Z k→k<w.heap.size) (hps:∀x,(encs x).size=ps.size)
 (hKt:∀{A B C:World},Kp A B→Kp B C→Kp A C) (hKb:∀(W:World) (o:Obj),Kp W (W.putObj (w.heap.size+1) o))
 (I:List α→World→Prop) (Ix:Code→List α→World→Prop)
 (hI:∀s A B,I s A→NoCells w A→NoCells w B→Turns (fun k=>Z k∨books w k) A B→I s B) (hIx:∀c s A B,Ix c s A→Turns (fun k=>Z k∨books w k) A B→Ix c s B) (h0:I [] w) (a₁:α→Act)
 (hassign:∀(l:Nat) (x:α) (W:World) (K:Act→World→Prop),K (a₁ x) W→
   assign.wpIn (Fence.wide.inRound l) 1 P (Exit.then K (fun _ _ _=>False)) {tmps:=(ps.zip (encs x)).foldl (fun t (p,v)=>t.setIfInBounds p v) a.tmps,defers:=[]} W)
 (hbody:∀(l:Nat) (pre:List α) (x:α) (W:World),w.heap.size+2≤W.heap.size→NoCells w W→I pre W→pre.length<N→body.wpIn (Fence.wide.inRound l) 1 P (postZ w.heap.size Kp I Ix (pre++[x]) W) (a₁ x) W)
 (hdone:∀(xs:List α) (W:World),S xs→I xs W→W.heap[w.heap.size]?=some (.deferred (some []))→Q .normal {a with defers:={target:=.collected w.heap.size,args:=#[]}::a.defers} W)
 (hstop:∀(c:Code) (pre:List α) (W:World),Sp pre→Ix c pre W→W.heap[w.heap.size]?=some (.deferred (some []))→c.wpIn Fence.wide 3 P Q {a with defers:={target:=.collected w.heap.size,args:=#[]}::a.defers} W):
 (Code.rangeFunc g ps assign body).wpIn Fence.wide 3 P Q a w:=by
 refine wpIn_rangeFunc fun fn hfn=> ?_;obtain⟨rc,hrc⟩:∃rc:LoopState→Option Code→Loop,rc=fun st pe=>{state:=st,pending:=pe,fn,tmps:=a.tmps,params:=ps,assign,body,defers:=w.heap.size}:=⟨_,rfl⟩;obtain⟨W1,hW1⟩:=oQ ((w.alloc (.deferred (some []))).alloc (.loop (rc .ready none)));have hsz:W1.heap.size=w.heap.size+2:=by rw[←hW1];simp
 have hL1:W1.heap[w.heap.size+1]?=some (.loop (rc .ready none)):=by
  have:=World.alloc_heap_new (w.alloc (.deferred (some []))) (.loop (rc .ready none));rw[World.size_alloc] at this;rw[←hW1];exact this
 have hD1:W1.heap[w.heap.size]?=some (.deferred (some [])):=by
  rw[←hW1];exact(Below.heap_alloc _ _ _ (by simp)).trans (World.alloc_heap_new w _)
 have hT1:Turns (fun k=>Z k∨books w k) w W1:=by rw[←hW1];exact(Turns.alloc _ _).trans (Turns.alloc _ _)
 have hb1:Below w0.heap.size w0 W1:=by
  rw[←hW1];exact(hb0.alloc hb0.size _).alloc (by have:=hb0.size;simp;omega) _
 have hnZ0:¬Z w.heap.size:=fun e=>by have:=hZ _ e;omega
 have hnZ1:¬Z (w.heap.size+1):=fun e=>by have:=hZ _ e;omega
 refine⟨w.heap.size+1,[{target:=.collected w.heap.size,args:=#[]}],W1,{target:=.fn (.func gf) lb,args:=#[.func (.yield (w.heap.size+1)) #[] #[]]},W1,gf,
  #[.func (.yield (w.heap.size+1)) #[] #[]]++lb,W1,?_,?_,fun _ _=>trivial,?_,fun h=>by simp[Fence.wide] at h,?_⟩
 · rw[←hW1,hrc];exact run_enterLoop_outer _ _ _ _ _
 · simp only[resolve,hg]
   simp[go_sem]
 · simp[invoke,go_sem,eg]
 · refine(hseq (w.heap.size+1)
    (fun pre W=>I pre W∧w.heap.size+2≤W.heap.size∧W.heap[w.heap.size+1]?=some (.loop (rc .ready none))∧W.heap[w.heap.size]?=some (.deferred (some [])))
    (fun pre W=> ∃c,Ix c pre W∧w.heap.size+2≤W.heap.size∧W.heap[w.heap.size+1]?=some (.loop (rc .done (some c)))∧W.heap[w.heap.size]?=some (.deferred (some [])))
    W1 hb1
    (fun s A B h t=>⟨hI s A B h.1 (NoCells.of h.2.2.2 h.2.2.1) (NoCells.of ((t.block _ (by omega) hnZ0).trans h.2.2.2) ((t.block _ (by omega) hnZ1).trans h.2.2.1)) (t.mono fun _ e=>.inl e),Nat.le_trans h.2.1 t.size,(t.block _ (by omega) hnZ1).trans h.2.2.1,(t.block _ (by omega) hnZ0).trans h.2.2.2⟩)
    (fun s A B h t=>by
      obtain⟨c,hc,hs,hl,hd⟩:=h
      exact⟨c,hIx c s A B hc (t.mono fun _ e=>.inl e),Nat.le_trans hs t.size,(t.block _ (by omega) hnZ1).trans hl,(t.block _ (by omega) hnZ0).trans hd⟩)
    ?_ ⟨hI _ _ _ h0 (NoCells.self w) (NoCells.of hD1 hL1) hT1,by omega,hL1,hD1⟩).mono ?_
   · rintro pre x W ⟨hi,hs,hl,hd⟩ hlen
     have hy:=run_yield (P:=P) (args:=encs x) hl (by rw[hrc];exact hps x);rw[hrc] at hy;refine⟨fn,_,assign,body,hy,roundIn_of_wpIn hfn (hassign _ x W _ ⟨_,run_beginRound hl (by rw[hrc]),?_⟩)⟩;obtain⟨W2,hW2⟩:∃W2,W.putObj (w.heap.size+1) (.loop {rc .ready none with state:=.busy})=W2:=⟨_,rfl⟩;(have hs2:w.heap.size+2≤W2.heap.size:=by rw[←hW2];simpa using hs);(have hl2:W2.heap[w.heap.size+1]?=some (.loop {rc .ready none with state:=.busy}):=by rw[←hW2];exact World.putObj_heap_same (by omega));(have hd2:W2.heap[w.heap.size]?=some (.deferred (some [])):=by rw[←hW2];exact(World.putObj_heap_other (by omega)).trans hd);(have hi2:I pre W2:=by exact hI _ W _ hi (NoCells.of hd hl) (NoCells.of hd2 hl2) (by rw[←hW2];exact Turns.putObj _ _ _ (.inr (.inr rfl))));(have hk2:Kp W W2:=by rw[←hW2];exact hKb _ _);rw[hW2];refine wpIn_mono (hbody _ pre x W2 hs2 (NoCells.of hd2 hl2) hi2 hlen) ?_
     have fin:∀(jump:Option Code) (W3:World),KeepsFrom w.heap.size W2 W3→∃W4,W4=W3.putObj (w.heap.size+1) (.loop (rc (if jump.isNone then .ready else .done) jump))∧
      (Instr.endRound (w.heap.size+1) jump).run P W3=.ok (.bool jump.isNone) W4∧Turns (fun k=>Z k∨books w k) W3 W4∧w.heap.size+2≤W4.heap.size∧
      W4.heap[w.heap.size+1]?=some (.loop (rc (if jump.isNone then .ready else .done) jump))∧W4.heap[w.heap.size]?=some (.deferred (some [])):=by
      intro jump W3 hk;have hl3:=hk.same _ _ (by omega) hl2 rfl;have hd3:=hk.same _ _ (by omega) hd2 rfl;have hs3:=Nat.le_trans hs2 hk.size;have he:=run_endRound (P:=P) jump hl3;rw[hrc] at he⊢;exact⟨_,rfl,he,Turns.putObj _ _ _ (.inr (.inr rfl)),by simpa using hs3,World.putObj_heap_same (by omega),(World.putObj_heap_other (by omega)).trans hd3⟩
     rintro e a3 W3 hp
     cases e with
     | normal=>
       obtain⟨W4,e4,hr,ht,hs4,hl4,hd4⟩:=fin none W3 hp.1
       exact⟨_,W4,hr,.inl ⟨rfl,⟨hI _ W3 _ hp.2.2 (NoCells.of (hp.1.same _ _ (by omega) hd2 rfl) (hp.1.same _ _ (by omega) hl2 rfl)) (NoCells.of hd4 hl4) ht,hs4,hl4,hd4⟩,hKt hk2 (hKt hp.2.1 (by rw[e4];exact hKb _ _))⟩⟩
     | ret=>
       obtain⟨W4,_,hr,ht,hs4,hl4,hd4⟩:=fin (some .ret) W3 hp.1
       exact⟨_,W4,hr,.inr ⟨rfl,.ret,hIx _ _ _ _ hp.2 ht,hs4,hl4,hd4⟩⟩
     | exit id=>
       obtain⟨W4,_,hr,ht,hs4,hl4,hd4⟩:=fin (some (.exit id)) W3 hp.1
       exact⟨_,W4,hr,.inr ⟨rfl,.exit id,hIx _ _ _ _ hp.2 ht,hs4,hl4,hd4⟩⟩
     | goto t=>
       obtain⟨W4,_,hr,ht,hs4,hl4,hd4⟩:=fin (some (.goto t)) W3 hp.1
       exact⟨_,W4,hr,.inr ⟨rfl,.goto t,hIx _ _ _ _ hp.2 ht,hs4,hl4,hd4⟩⟩
     |panic ch=>exact hp.elim
     |outgrown=>exact hp.elim
   · rintro e W2 ⟨⟨v,rfl⟩,(⟨xs,hS,hi,hs,hl,hd⟩|⟨pre,hSp,c,hi,hs,hl,hd⟩)⟩
     · have he:=run_endLoop (P:=P) hl (by rw[hrc];simp)
       rw[hrc] at he;exact⟨none,_,he,hdone _ _ hS (hI _ _ _ hi (NoCells.of hd hl) (NoCells.of ((World.putObj_heap_other (by omega)).trans hd) (World.putObj_heap_same (by omega))) (Turns.putObj _ _ _ (.inr (.inr rfl)))) ((World.putObj_heap_other (by omega)).trans hd)⟩
     · have he:=run_endLoop (P:=P) hl (by rw[hrc];simp)
       rw[hrc] at he;exact⟨some c,_,he,hstop c pre _ hSp (hIx _ _ _ _ hi (Turns.putObj _ _ _ (.inr (.inr rfl)))) ((World.putObj_heap_other (by omega)).trans hd)⟩
end Go.Proofs.YteeifhlhpiimoaaGreatDoor
end
section
namespace Go.Proofs.YteeifhlhpiimoaaGreatDoor
open Go Go.RowKit Go.Shelf
attribute [local go_sem] Oper.semAt_some
def Pow10 (w:World):Prop:=Lib.TabIs Tryz.prog w "internal/strconv.uint64pow10" .u64 Lib.pow10Tab
theorem Pow10.below {w w':World} (h:Pow10 w) (hb:Below w.heap.size w w'):Pow10 w':=by
 unfold Pow10 Lib.TabIs World.var? at h⊢
 cases hg:Tryz.prog.globalNamed "internal/strconv.uint64pow10" with
 |none=>rw[hg] at h;cases h
 | some g=>
   rw[hg] at h;simp only[Option.bind_some] at h⊢
   cases e:w.heap[g]? with
   |none=>rw[e] at h;cases h
   |some o=>rw[hb.block g (cells_lt e),e];rw[e] at h;exact h
theorem itoa_nat (n:Nat):Lib.itoa (n:Int)=decS n:=by
 rw[Lib.itoa,if_neg (by omega),show(n:Int).toNat=n by omega]
 have:∀k n,n≤k→Lib.decDigits n=decS n:=by
  intro k
  induction k with
  |zero=>intro n h;rw[Lib.decDigits,decS];simp[show n<10 by omega]
  | succ k ih=>
    intro n h;rw[Lib.decDigits,decS]
    split
    · rfl
    · rw[ih _ (by omega)]
 exact this n n (Nat.le_refl _)
def BD (W:World) (B b:Nat) (l:List UInt8):Prop:=Lib.IsBuilderF 118 5 B b (Lib.byteCells l) W
theorem BD.keep {Z:Nat→Prop} {W W':World} {B b:Nat} {l:List UInt8} (h:BD W B b l) (u:Turns Z W W') (hb:¬Z b) (hz:∀k cs fz,Z k→W.heap[k]?≠some (.cells cs 5 fz)):BD W' B b l:=by
 have aux:∀p,Lib.BuilderAtF 118 5 B b p (Lib.byteCells l) W→Lib.BuilderAtF 118 5 B b p (Lib.byteCells l) W':=by
  rintro p ⟨hB,v,hbk,hown,hne⟩;refine⟨hB,v,(u.block b (cells_lt hbk) hb).trans hbk,?_,hne⟩;refine⟨hown.1,?_⟩;rcases hown.2 with hn|⟨g,cap,cur,fz,hv,hbg,hg,r⟩
  · exact .inl hn
  · exact .inr ⟨g,cap,cur,fz,hv,hbg,(u.block g (cells_lt hg) (fun q=>hz g cur fz q hg)).trans hg,r⟩
 rcases h with h|h
 · exact .inl (aux _ h)
 · exact .inr (aux _ h)
theorem BD.below {W W':World} {B b:Nat} {l:List UInt8} (h:BD W B b l) (hb:Below W.heap.size W W'):BD W' B b l:=h.keep (Turns.of_below (Z:=fun _=>False) hb) id (fun _ _ _ e=>e.elim)
theorem BD.new (W:World) {B:Nat} (hB:B≤W.heap.size):BD (W.alloc (.cells #[.pointer none,.slice none 0 0] 118)) B W.heap.size []:=by
 refine .inl ⟨hB,.slice none 0 0,World.alloc_heap_new W _,World.ownsRowF_nil _ _ _ _,by simp[Value.ownBlock]⟩
theorem bd_write {W:World} {B b:Nat} {l:List UInt8} (h:BD W B b l) (s:ByteArray) (hl:l.length+s.size≤1000000000) (hB:B≤W.heap.size):
 Calls Tryz.prog 123 #[.pointer (some ⟨b,0,none⟩),.string s] W fun e W'=>e=.returned (.tuple #[.int .i64 s.size,.nilIface])∧BD W' B b (l++s.data.toList)∧Below B W W'∧Lib.OthersKept 5 (some b) W W':=by
 refine(Any.Builder_WriteString_k {Tryz.lays105 with} Tryz.Builder_Extra_105 B b (Lib.byteCells l) s W h (by rw[Lib.byteCells_length];omega) hB).mono ?_;rintro e W' ⟨rfl,h1,h2,h3⟩;refine⟨rfl,.inr ?_,h2,h3⟩;have:Lib.byteCells l++Lib.strCells s=Lib.byteCells (l++s.data.toList):=by unfold Lib.byteCells Lib.strCells;simp
 rw[←this];exact h1
theorem bd_string {W:World} {B b:Nat} {l:List UInt8} (h:BD W B b l) (hB:B≤W.heap.size):
 Calls Tryz.prog 65 #[.pointer (some ⟨b,0,none⟩)] W fun e W'=>e=.returned (.string ⟨l.toArray⟩)∧Below B W W'∧Lib.OthersKept 5 (some b) W W':=by
 refine(Tryz.Builder_String_any_k B b l W h hB).mono ?_;rintro e W' ⟨rfl,h1,h2,h3⟩;exact⟨rfl,h2,h3⟩
theorem repeat48 (f:Nat):Lib.repeatL [48] f=List.replicate f 48:=by
 induction f with
 |zero=>rfl
 |succ f ih=>rw[Lib.repeatL,ih];rfl
theorem ofN_last {n d:Nat} (h:(ofN n).getLast?=some d):0<d:=by
 have : ∀ k n,n≤k→(ofN n).getLast?=some d→0<d:=by
  intro k
  induction k with
  | zero => intro n hn h;obtain rfl:n=0:=by omega
            rw[ofN_zero] at h;cases h
  | succ k ih=>
    intro n hn h;rcases Nat.eq_zero_or_pos n with rfl|h0
    · rw[ofN_zero] at h;cases h
    · rw[ofN_pos h0] at h
      by_cases h1:n/10000=0
      · rw[h1,ofN_zero] at h
        simp at h;omega
      · rw[List.getLast?_cons_of_ne_nil (fun e=>h1 (ofN_eq_nil.1 e))] at h
        exact ih _ (by omega) h
 exact this n n (Nat.le_refl _) h
def pieceT (l:List Nat) (i:Fin l.length):List UInt8:=if i.val+1<l.length then pad4 (l.getD i.val 0) else decS (l.getD i.val 0)
theorem piece_size {l:List Nat} (h:Grp l) (i:Fin l.length):(pieceT l i).length≤4:=by
 have:=getD_grp h i.val;have hd:=decS_len 4 (l.getD i.val 0) (by decide) (by omega);unfold pieceT pad4
 split
 · rw[List.length_append,List.length_replicate];omega
 · exact hd
theorem pieces {l:List Nat} (h:Grp l) (h0:0<l.length) (ht:∀d,l.getLast?=some d→0<d) {xs:List (Fin l.length)} (hx:xs.map Fin.val=(List.range l.length).reverse):xs.flatMap (pieceT l)=decS (valN l):=by
 have e1:xs.flatMap (pieceT l)=(xs.map Fin.val).flatMap (fun i=>if i+1<l.length then pad4 (l.getD i 0) else decS (l.getD i 0)):=by
  rw[List.flatMap_map];rfl
 obtain⟨n,hn⟩:∃n,l.length=n+1:=⟨l.length-1,by omega⟩;rw[e1,hx,hn,rev_range,List.flatMap_cons,if_neg (by omega)]
 have e2:((List.range n).reverse.flatMap (fun i=>if i+1<n+1 then pad4 (l.getD i 0) else decS (l.getD i 0)))=((List.range n).reverse.map (fun i=>l.getD i 0)).flatMap pad4:=by
  rw[List.flatMap_map,List.flatMap_def,List.flatMap_def]
  congr 1
  apply List.map_congr_left;intro i hi;rw[if_pos (by simp at hi;omega)]
 rw[e2,text_eq]
 · have e3:l.getD n 0::(List.range n).reverse.map (fun i=>l.getD i 0)=((n::(List.range n).reverse).map (fun i=>l.getD i 0)):=rfl
   rw[e3,←rev_range,←List.map_reverse,List.reverse_reverse,←hn]
   congr 2
   apply List.ext_getElem (by simp);intro i h1 h2;rw[List.getElem_map,List.getElem_range,getD_get h2]
 · refine ht _ ?_
   rw[List.getLast?_eq_getElem?,hn,getD_get (by omega)];simp
 · intro x hx
   obtain⟨i,hi,rfl⟩:=List.mem_map.1 hx;exact getD_grp h i
def TextP (w:World) (neg:Bool) (n:Nat) (e:Ending) (w':World):Prop:=
 (if 200<(decS n).length then e=.returned (.tuple #[.string ⟨#[]⟩,.int .i64 30]) else e=.returned (.tuple #[.string ⟨((if neg&&decide (n≠0) then[45] else[])++decS n).toArray⟩,.int .i64 0]))∧Below w.heap.size w w'
theorem text_walk (neg:Bool) (n:Nat) (v:Value) (w:World) (h:LsAt w v (ofN n)) (hl:(ofN n).length≤900) (hp:Pow10 w):
 Calls Tryz.prog 208 #[.agg #[.bool neg,v]] w (TextP w neg n):=by
 obtain⟨A,c,rfl,hc1,hc2,hc3,hA⟩:=h;obtain⟨k,hk⟩:=oQ ((ofN n).length);rw[hk] at hl⊢;have HA:=hZ hA;have HK:=hZ hk;have HP:=hZ hp;clear hA hk hp;rcases Nat.eq_zero_or_pos k with rfl|hk0
 · have hn0:n=0:=by
    have h:=HK.out;rw[←valN_ofN n,List.length_eq_zero_iff.1 h];rfl
   have d1:(((0:Nat):Int)==0)=true:=by decide
   go_enter Tryz.func208,Tryz.ntmps208
   go_wp2_with fail
   have hT:TextP w neg n (.returned (.tuple #[.string ⟨#[48]⟩,.int .i64 0])) (w.alloc (.cells #[.bool neg,.slice A 0 c] 232)):=by
    subst hn0;(have e:decS 0=[48]:=by rw[decS];rfl);unfold TextP;rw[e,if_neg (by simp)];refine⟨by simp,(Below.refl _ _).alloc (Nat.le_refl _) _⟩
   refine bodyPost_ret (v:=.tuple #[.string ⟨#[48]⟩,.int .i64 0]) (by simp[results]) rfl hT
 have d1:((k:Int)==0)=false:=by simp;omega
 refine(callsIn_wide (n:=3)).1 ?_;refine callsIn_of_wp_marks Tryz.func208 rfl trivial ?_ rfl;simp only[Tryz.ntmps208,List.size_toArray,List.length_cons,List.length_nil,Nat.reduceAdd,Nat.reduceSub,Array.replicate_succ,Array.replicate_zero,List.push_toArray,List.append_toArray,List.nil_append,List.cons_append];refine wpIn_wide.2 ?_
 go_wp2_with (first
  |(go_at_call 244;refine(backN_any _ _ _ _).mono ?_;rintro e w5 ⟨rfl,rfl⟩)
  |fail)
 obtain⟨b0,hb0⟩:=oQ (w.heap.size);rw[hb0];obtain⟨b1,hb1⟩:=oQ (b0+1);rw[hb1];obtain⟨b2,hb2⟩:=oQ (b1+1);rw[hb2];obtain⟨l,hl0⟩:=oQ (ofN n);obtain⟨W1,hW1⟩:=oQ ((((w.alloc (.cells #[.bool neg,.slice A k c] 232)).alloc (.cells #[.pointer none,.slice none 0 0] 118)).alloc (.cells #[.slice A k c] 230)))
 have hI1:W1.heap[b0]?=some (.cells #[.bool neg,.slice A k c] 232 (0,0))∧BD W1 b1 b1 []∧Boxed W1 b2 230 (.slice A k c)∧W1.heap.size=b2+1∧Below w.heap.size w W1:=by
  obtain⟨u1,hu1⟩:=oQ (w.alloc (.cells #[.bool neg,.slice A k c] 232));have s1:u1.heap.size=b1:=by rw[←hu1,World.size_alloc,hb0,hb1]
  have y1:u1.heap[b0]?=some (.cells #[.bool neg,.slice A k c] 232 (0,0)):=by rw[←hu1,←hb0];exact World.alloc_heap_new w _
  have c1:Below w.heap.size w u1:=by rw[←hu1];exact(Below.refl _ _).alloc (Nat.le_refl _) _
  rw[hu1] at hW1;obtain⟨u2,hu2⟩:=oQ (u1.alloc (.cells #[.pointer none,.slice none 0 0] 118));have s2:u2.heap.size=b2:=by rw[←hu2,World.size_alloc,s1,hb2]
  have y2:BD u2 b1 b1 []:=by rw[←hu2,←s1];exact BD.new u1 (Nat.le_refl _)
  have c2:Below u1.heap.size u1 u2:=by rw[←hu2];exact(Below.refl _ _).alloc (Nat.le_refl _) _
  rw[hu2] at hW1;have c3:Below u2.heap.size u2 W1:=by rw[←hW1];exact below_box _ _ _
  refine⟨(c3.block b0 (by omega)).trans ((c2.block b0 (by omega)).trans y1),y2.below c3,?_,by rw[←hW1,World.size_alloc,s2],(c1.trans (c2.mono (by omega))).trans (c3.mono (by omega))⟩;rw[←hW1,←s2];exact Boxed.new u2 _ _
 obtain⟨z0,z1,z2,hs1,hB1⟩:=hI1;obtain⟨A0,hA0,hA1⟩:=HA.out.addr;rw[HK.out] at hA0;have HA1:=hZ ((HA.out.below hB1).more hB1.size);have hgl:Grp l:=by rw[←hl0];exact ofN_grp n
 rw[hl0] at HA1 HK;have HGL:=hZ hgl;have HL:=hZ hl0;have HBL:Hid (w.heap.size=b0∧b0+1=b1∧b1+1=b2):=hZ ⟨hb0,hb1,hb2⟩;rw[hW1];clear hW1 hgl hl0;refine(wpIn_wide (n:=3)).1 ?_
 refine wp_rangeZN (gf:=265) (lb:=#[.pointer (some ⟨b2,0,none⟩)]) rfl (enters_of Tryz.func265 (by kernel_rfl) rfl)
  (backN_iter A A0 l k HK.out hA0 c b2 (by omega) W1 z2 HA1.out) (Below.refl _ _) (fun k hk=>hk.elim) (fun _=>rfl) (fun h k=>h.trans k)
  (fun W o=>KpB.put (n:=b2+1) (by omega) (fun q hq=>by have:=hA1 q hq;omega) (by omega) W o)
  (fun pre W=>W.heap[b0]?=some (.cells #[.bool neg,.slice A k c] 232 (0,0))∧Boxed W b2 230 (.slice A k c)∧BD W b1 b1 (pre.flatMap (pieceT l))∧Below w.heap.size w W)
  (fun _ _ _=>False)
  (fun s U V h n1 n2 t=>by
    have hbk:∀k,(fun _=>False) k∨books W1 k→b2<k:=fun k e=>by rcases e with e|e|e;exact(e:False).elim;all_goals omega
    refine⟨(t.block b0 (cells_lt h.1) (fun e=>by have:=hbk _ e;omega)).trans h.1,t.boxed h.2.1 (fun e=>by have:=hbk _ e;omega),h.2.2.1.keep t (fun e=>by have:=hbk _ e;omega) (fun q cs fz e=>n1 q cs _ fz (by rcases e with e|e;exact(e:False).elim;exact e)),t.below h.2.2.2 (Nat.le_refl _) (fun k e=>by have:=hbk _ e;omega)⟩)
  (fun _ _ _ _ h _=>h.elim)
  ⟨z0,z2,z1,hB1⟩ ?a1 ?assign ?body ?done ?stop
 case assign=>
  intro l x W K hK
  dsimp only[encB]
  gi_wp2
  exact hK
 case body=>
  rintro l0 pre x W hW hnc ⟨hx0,hx2,hbd,hbW⟩ hlt2;have hxl:x.val<k:=by have:=x.isLt;have:=HK.out;omega
  obtain⟨d,hd⟩:=oQ (l.getD x.val 0);have hd9:=getD_grp HGL.out x.val;have hps:=piece_size HGL.out x
  have hpre:(pre.flatMap (pieceT l)).length≤4*pre.length:=by
   clear hbd hlt2
   induction pre with
   |nil=>simp
   |cons y pre ih=>rw[List.flatMap_cons,List.length_append,List.length_cons];have:=piece_size HGL.out y;omega
  have HPL:Hid ((pre.flatMap (pieceT l)).length≤4000):=hZ (by have:=HK.out;omega)
  have hpc:pieceT l x=if x.val+1<k then pad4 d else decS d:=by
   have:=HK.out;unfold pieceT;rw[hd]
   by_cases q:x.val+1<k
   · rw[if_pos (by omega),if_pos q]
   · rw[if_neg (by omega),if_neg q]
  rw[←getD_get x.isLt];rw[hd] at hd9⊢;have hit:=Tryz.strconv_Itoa (d:Int) (by omega) (by omega) W (HP.out.below hbW);rw[itoa_nat] at hit;obtain⟨D,hD⟩:∃D:ByteArray,D=⟨(decS d).toArray⟩:=⟨_,rfl⟩;rw[←hD] at hit;have HIT:=hZ hit;have hDs:D.size=(decS d).length:=by rw[hD];rfl
  have hD4:=decS_len 4 d (by decide) (by omega);obtain⟨dz,hdz⟩:=oQ (D.size);have HDZ:=hZ hdz;have HD:=hZ hD;have hdz4:dz≤4:=by omega
  have HPC:=hZ hpc;have HPS:=hZ hps;have hx0c:=cells_at1 hx0;have HX0:=hZ hx0;have HX2:=hZ hx2;have HBD:=hZ hbd;have HBW:=hZ hbW;obtain⟨xi,hxi⟩:=oQ (x.val);rw[hxi] at hxl HPC⊢;have hsW:=hbW.size;clear hd hps hpre hpc hD hdz hit hDs hD4 hx0 hx2 hbd hbW hxi z0 z1 z2 hB1 hA0;obtain⟨k1,hk1⟩:=oQ (k-1);have w1:IntKind.i64.wrap ((k:Int)-1)=(k1:Int):=by rw[IntKind.wrap_i64];omega
  have HK1:=hZ hk1;clear hk1
  by_cases hlast:xi+1<k
  · have d2:decide (xi<k1)=true:=by have:=HK1.out;simp;omega
    (have w2:IntKind.i64.wrap ((4:Int)-(dz:Int))=((4-dz:Nat):Int):=by rw[IntKind.wrap_i64];omega);have hdz:=HDZ.out
    gi_wp2_with fail
    refine⟨trivial,CallsIn.mono (F:=Fence.wide) (n:=0) (callsIn_wide.2 (HIT.out)) ?_⟩;rintro e W2 ⟨rfl,dk,os,hW2⟩;(have hb2:Below W.heap.size W W2:=by rw[hW2];exact Lib.below_grow _ _ (Nat.le_refl _) _ _);have hx2c:=(hb2.cell (p:=⟨b0,1,none⟩) (cells_lt HX0.out)).trans hx0c;have HB2:=hZ hb2;clear hW2 hb2 hx0c
    gi_wp2_with fail
    obtain⟨f,hf⟩:=oQ (4-dz);rw[hf];have HF:=hZ hf;have hrp:=Tryz.strings_Repeat ⟨#[48]⟩ f W2 (by omega) (by have:(⟨#[48]⟩:ByteArray).size=1:=rfl;rw[this];omega);obtain⟨R,hR⟩:∃R:ByteArray,R=⟨(Lib.repeatL (⟨#[48]⟩:ByteArray).data.toList f).toArray⟩:=⟨_,rfl⟩;rw[←hR] at hrp;have HR:=hZ hR;have HRP:=hZ hrp;clear hf hR hrp w2;refine⟨trivial,CallsIn.mono (F:=Fence.wide) (n:=0) (callsIn_wide.2 (HRP.out)) ?_⟩;rintro e W3 ⟨rfl,hb3⟩;have HB3:=hZ hb3
    have hRl:R.data.toList=List.replicate f 48:=by
     rw[HR.out];exact repeat48 f
    have hno:¬9223372036854775807<R.size+dz:=by
     have h1:R.data.toList.length=R.size:=Array.length_toList;rw[hRl,List.length_replicate] at h1;have:=HF.out;omega
    have HRL:=hZ hRl;clear hb3 hx2c hRl
    gi_wp2_with fail
    have hRl:=HRL.out;have hDl:D.data.toList=decS d:=by rw[HD.out]
    have hcat:(R++D).data.toList=pad4 d:=by
     have hf:=HF.out;(have hds:(decS d).length=dz:=by rw[←hDl,←HDZ.out];exact Array.length_toList);rw[ByteArray.data_append,Array.toList_append,hRl,hDl,←hf];unfold pad4;rw[hds]
    have hbd3:=(HBD.out.below HB2.out).below HB3.out
    have hp4:(R++D).size≤4:=by
     have h1:=HPS.out;rw[HPC.out,if_pos hlast,←hcat] at h1;exact h1
    have HCAT:=hZ hcat;have hs3:=Nat.le_trans HB2.out.size HB3.out.size;refine⟨trivial,CallsIn.mono (F:=Fence.wide) (n:=0) (callsIn_wide.2 (bd_write hbd3 (R++D) (by have:=HPL.out;omega) (by have:=HBL.out;omega))) ?_⟩;rintro e W9 ⟨rfl,hbd9,hb9,ok9⟩;have HB9:=hZ hb9;have HOK:=hZ ok9;have HBD9:=hZ hbd9;clear hbd3 hbd9 hb9 ok9 hcat hRl hDl
    gi_wp2_with fail
    have szz:W.heap.size≤W9.heap.size:=Nat.le_trans hs3 HB9.out.size;have hk0:∀q o,W.heap[q]?=some o→q≠b1→(∀c fz,o≠.cells c 5 fz)→W9.heap[q]?=some o:=fun q o ho hq hc=>HOK.out q o ((HB3.out.block q (Nat.lt_of_lt_of_le (cells_lt ho) HB2.out.size)).trans ((HB2.out.block q (cells_lt ho)).trans ho)) (fun e=>hq (Option.some.inj e)) hc;have bb:=((HB2.out.mono (by have:=HBL.out;omega)).trans (HB3.out.mono (by have:=HBL.out;have:=HB2.out.size;omega))).trans HB9.out;have hA9:KpB b2 A0 W W9:=⟨(hk0 b2 _ HX2.out (by have:=HBL.out;omega) (fun c fz e=>by injection e with e1 e2 e3;exact absurd e2 (by decide))).trans HX2.out.symm,fun q hq=>bb.block _ (by have:=hA1 q hq;have:=HBL.out;omega)⟩;refine⟨⟨szz,fun q o hq ho hc=>hk0 q o ho (fun e=>by have:=HBL.out;omega) (fun c fz e=>by rw[e] at hc;cases hc)⟩,hA9,?_,hA9.1.trans HX2.out,?_,HBW.out.trans (bb.mono (by have:=HBL.out;omega))⟩
    · exact hk0 b0 _ HX0.out (by have:=HBL.out;omega) (fun c fz e=>by injection e with e1 e2 e3;exact absurd e2 (by decide))
    · rw[List.flatMap_append,List.flatMap_cons,List.flatMap_nil,List.append_nil,HPC.out]
      rw[if_pos hlast,←HCAT.out];exact HBD9.out
  · have d2:decide (xi<k1)=false:=by have:=HK1.out;simp;omega
    gi_wp2_with fail
    refine⟨trivial,CallsIn.mono (F:=Fence.wide) (n:=0) (callsIn_wide.2 (HIT.out)) ?_⟩;rintro e W2 ⟨rfl,dk,os,hW2⟩;(have hb2:Below W.heap.size W W2:=by rw[hW2];exact Lib.below_grow _ _ (Nat.le_refl _) _ _);have hx2c:=(hb2.cell (p:=⟨b0,1,none⟩) (cells_lt HX0.out)).trans hx0c;have HB2:=hZ hb2;clear hW2 hb2 hx0c
    gi_wp2_with fail
    (have hDl:D.data.toList=decS d:=by rw[HD.out]);have hbd3:=HBD.out.below HB2.out;have hs3:=HB2.out.size;refine⟨trivial,CallsIn.mono (F:=Fence.wide) (n:=0) (callsIn_wide.2 (bd_write hbd3 D (by have:=HPL.out;have:=HDZ.out;omega) (by have:=HBL.out;omega))) ?_⟩;rintro e W9 ⟨rfl,hbd9,hb9,ok9⟩;have HB9:=hZ hb9;have HOK:=hZ ok9;have HBD9:=hZ hbd9;have HDL:=hZ hDl;clear hbd3 hbd9 hb9 ok9 hDl
    gi_wp2_with fail
    have szz:W.heap.size≤W9.heap.size:=Nat.le_trans hs3 HB9.out.size;have hk0:∀q o,W.heap[q]?=some o→q≠b1→(∀c fz,o≠.cells c 5 fz)→W9.heap[q]?=some o:=fun q o ho hq hc=>HOK.out q o ((HB2.out.block q (cells_lt ho)).trans ho) (fun e=>hq (Option.some.inj e)) hc;have bb:=(HB2.out.mono (by have:=HBL.out;omega)).trans HB9.out;have hA9:KpB b2 A0 W W9:=⟨(hk0 b2 _ HX2.out (by have:=HBL.out;omega) (fun c fz e=>by injection e with e1 e2 e3;exact absurd e2 (by decide))).trans HX2.out.symm,fun q hq=>bb.block _ (by have:=hA1 q hq;have:=HBL.out;omega)⟩;refine⟨⟨szz,fun q o hq ho hc=>hk0 q o ho (fun e=>by have:=HBL.out;omega) (fun c fz e=>by rw[e] at hc;cases hc)⟩,hA9,?_,hA9.1.trans HX2.out,?_,HBW.out.trans (bb.mono (by have:=HBL.out;omega))⟩
    · exact hk0 b0 _ HX0.out (by have:=HBL.out;omega) (fun c fz e=>by injection e with e1 e2 e3;exact absurd e2 (by decide))
    · rw[List.flatMap_append,List.flatMap_cons,List.flatMap_nil,List.append_nil,HPC.out]
      rw[if_neg hlast,←HDL.out];exact HBD9.out
 case done=>
  rintro xs W hS ⟨hx0,hx2,hbd,hbW⟩ hK;have hn0:0<l.length:=by rw[HK.out];exact hk0
  have htext:=pieces HGL.out hn0 (fun d hd=>by
   rw[←HL.out] at hd
   exact ofN_last hd) hS
  have hvl:valN l=n:=by rw[←HL.out,valN_ofN]
  rw[hvl] at htext;rw[htext] at hbd;have hnz:n≠0:=fun e=>by rw[←HL.out,e,ofN_zero] at hn0;simp at hn0
  have HNZ:=hZ hnz;have x00:=cells_at0 hx0;have HX0:=hZ hx0;have HBD:=hZ hbd;have HBW:=hZ hbW;have HKK:=hZ hK;have hsW:=hbW.size;have hbs:b1<W.heap.size:=by have:=HBL.out;have:=cells_lt hx2;omega
  obtain⟨D,hD⟩:∃D:ByteArray,(⟨(decS n).toArray⟩:ByteArray)=D:=⟨_,rfl⟩;obtain⟨dz,hdz⟩:=oQ (D.size);have hdl:(decS n).length=dz:=by rw[←hdz,←hD];rfl
  have HD:=hZ (And.intro hD hdl);clear hS hn0 htext hvl hnz hx0 hx2 hbd hbW hK z0 z1 z2 hB1 hA0 hA1 HA1 HA hD hdl
  have f3 :Hid (∀(e:Ending) (W9:World),W.heap.size≤W9.heap.size→Below b1 W W9→Lib.OthersKept 5 (some b1) W W9→(if 200<dz then e=.returned (.tuple #[.string ⟨#[]⟩,.int .i64 30]) else e=.returned (.tuple #[.string (if neg then⟨#[45]⟩++D else D),.int .i64 0]))→
   W9.heap[W1.heap.size]?=some (.deferred (some []))∧TextP w neg n e (W9.putObj W1.heap.size (.deferred none))):=hZ (fun e W9 h0 hb hk he=>by
   have hd9:W9.heap[W1.heap.size]?=some (.deferred (some [])):=hk _ _ HKK.out (fun e=>by have:=HBL.out;have:=Option.some.inj e;omega) (fun c fz e=>by cases e);refine⟨hd9,?_,?_⟩
   · rw [HD.out.2]
     split at he
     · rw[if_pos (by assumption)];exact he
     · rw [if_neg (by assumption),he]
       (have hn1:decide (n≠0)=true:=by simp;exact HNZ.out);(have hds:D.data=(decS n).toArray:=by rw[←HD.out.1]);cases neg
       · rw[if_neg (by simp)];simp[←HD.out.1]
       · rw[if_pos rfl,hn1]
         have:(⟨#[45]⟩:ByteArray)++D=⟨([45]++decS n).toArray⟩:=by
          apply ByteArray.ext;rw[ByteArray.data_append,hds];simp
         simp[this]
   · exact(Turns.putObj (Z:=fun k=>k=W1.heap.size) _ _ _ rfl).below (HBW.out.trans (hb.mono (by have:=HBL.out;omega))) (Nat.le_refl _) (fun k e=>by have:=HBL.out;omega))
  have hbs2:=bd_string HBD.out (by omega);rw[HD.out.1] at hbs2;have HBS:=hZ hbs2;clear hbs2 hbs
  by_cases h200:200<dz
  · have d2:decide (200<dz)=true:=by simp[h200]
    clear x00
    go_wp2_with (first
     | (go_at_call 65;(with_reducible refine HBS.out.mono ?_);rintro e W9 ⟨rfl,hb9,ok9⟩;have x09:=And.intro hb9.size (ok9 b0 _ HX0.out (fun e=>by have:=HBL.out;have:=Option.some.inj e;omega) (fun c fz e=>by injection e with e1 e2 e3;exact absurd e2 (by decide)))
        have x00:=cells_at0 x09.2;have HB9:=hZ hb9;have HK9:=hZ ok9
        clear hb9 ok9 x09)
     |fail)
    have hf:=f3.out (.returned (.tuple #[.string ⟨#[]⟩,.int .i64 30])) W9 HB9.out.size HB9.out HK9.out (by rw[if_pos h200]);rw[hs1] at hf;refine⟨by simp,.inl ⟨_,_,rfl,run_takeDeferred hf.1,.tuple #[.string ⟨#[]⟩,.int .i64 30],?_,hf.2⟩⟩;simp[results]
  have d2:decide (200<dz)=false:=by simp[h200]
  have hno:¬9223372036854775807<1+dz:=by omega
  have h45:(⟨#[45]⟩:ByteArray).size=1:=rfl;cases neg
  · clear x00
    go_wp2_with (first
     | (go_at_call 65;(with_reducible refine HBS.out.mono ?_);rintro e W9 ⟨rfl,hb9,ok9⟩;have x09:=And.intro hb9.size (ok9 b0 _ HX0.out (fun e=>by have:=HBL.out;have:=Option.some.inj e;omega) (fun c fz e=>by injection e with e1 e2 e3;exact absurd e2 (by decide)))
        have x00:=cells_at0 x09.2;have HB9:=hZ hb9;have HK9:=hZ ok9
        clear hb9 ok9 x09)
     |fail)
    have hf:=f3.out (.returned (.tuple #[.string D,.int .i64 0])) W9 HB9.out.size HB9.out HK9.out (by rw[if_neg h200];rfl);rw[hs1] at hf;refine⟨by simp,.inl ⟨_,_,rfl,run_takeDeferred hf.1,.tuple #[.string D,.int .i64 0],?_,hf.2⟩⟩;simp[results]
  · clear x00
    go_wp2_with (first
     | (go_at_call 65;(with_reducible refine HBS.out.mono ?_);rintro e W9 ⟨rfl,hb9,ok9⟩;have x09:=And.intro hb9.size (ok9 b0 _ HX0.out (fun e=>by have:=HBL.out;have:=Option.some.inj e;omega) (fun c fz e=>by injection e with e1 e2 e3;exact absurd e2 (by decide)))
        have x00:=cells_at0 x09.2;have HB9:=hZ hb9;have HK9:=hZ ok9
        clear hb9 ok9 x09)
     |fail)
    have hf:=f3.out (.returned (.tuple #[.string (⟨#[45]⟩++D),.int .i64 0])) W9 HB9.out.size HB9.out HK9.out (by rw[if_neg h200];rfl);rw[hs1] at hf;refine⟨by simp,.inl ⟨_,_,rfl,run_takeDeferred hf.1,.tuple #[.string (⟨#[45]⟩++D),.int .i64 0],?_,hf.2⟩⟩;simp[results]
 case stop=>
  rintro cd pre W _ h;exact h.elim
end Go.Proofs.YteeifhlhpiimoaaGreatDoor
end
section
namespace Go.Proofs.YteeifhlhpiimoaaGreatDoor
open Go Go.RowKit Go.Shelf
attribute [local go_sem] Oper.semAt_some
theorem LAt.uniq {w:World} {B:Nat} {A:Option Addr} {l m:List Nat} (h:LAt w B A nv l) (k:LAt w B A nv m) (hl:l.length=m.length):l=m:=by
 apply List.ext_getElem hl;intro i h1 h2;obtain⟨a,ha,-,hc⟩:=h.get h1;obtain⟨a',ha',-,hc'⟩:=k.get h2;rw[ha] at ha';cases ha';rw[hc] at hc';unfold nv at hc';injection hc' with e;injection e with _ e;omega
theorem LsAt.uniq {w:World} {v:Value} {a b:Nat} (h:LsAt w v (ofN a)) (k:LsAt w v (ofN b)):a=b:=by
 obtain⟨A,c,rfl,-,-,-,h4⟩:=h;obtain⟨A',c',e,-,-,-,k4⟩:=k;injection e with e1 e2 e3;subst e1;rw[←valN_ofN a,h4.uniq k4 e2,valN_ofN]
open Classical in
noncomputable def numOf (v:Value) (w:World):Nat:=if h:∃b,LsAt w v (ofN b) then h.choose else 0
theorem numOf_eq {v:Value} {w:World} {b:Nat} (h:LsAt w v (ofN b)):numOf v w=b:=by
 have hx:∃b,LsAt w v (ofN b):=⟨b,h⟩;rw[numOf,dif_pos hx];exact hx.choose_spec.uniq h
def DecP (w:World) (n:Nat) (e:Ending) (w':World):Prop:=e=.returned (.tuple #[.string ⟨(decS n).toArray⟩,.int .i64 0])∧Below w.heap.size w w'
theorem text_short (neg:Bool) (n:Nat) (v:Value) (w:World) (h:LsAt w v (ofN n)) (hl:(decS n).length≤200) (hp:Pow10 w) (hneg:neg=false):
 Calls Tryz.prog 208 #[.agg #[.bool neg,v]] w (DecP w n):=by
 have h5:(ofN n).length≤50:=by
  apply ofN_len_pow;have h1:=decV_lt (decS n) (decS_dig n);rw[decV_decS] at h1;have e:(10000:Nat)^50=10^200:=by rw[show(10000:Nat)=10^4 by rfl,←Nat.pow_mul]
  rw[e];exact Nat.lt_of_lt_of_le h1 (Nat.pow_le_pow_right (by decide) hl)
 refine(text_walk neg n v w h (by omega) hp).mono ?_;rintro e w' ⟨h1,h2⟩;rw[if_neg (by omega)] at h1;subst hneg;exact⟨by simpa using h1,h2⟩
theorem dec_short {n:Nat} {l:List UInt8} (hv:validI l=true) (h:n≤(valI l).natAbs):(decS n).length≤200:=by
 have h1:=(valid_text hv).2;have h2:=decV_lt (decS (valI l).natAbs) (decS_dig _);rw[decV_decS] at h2;exact decS_len 200 n (by decide) (Nat.lt_of_le_of_lt h (Nat.lt_of_lt_of_le h2 (Nat.pow_le_pow_right (by decide) h1)))
theorem gcd_walk (s t:ByteArray) (hs:s.size≤1000000) (ht:t.size≤1000000) (h1:validI s.data.toList=true) (h2:validI t.data.toList=true) (w:World) (hp:Pow10 w):
 Calls Tryz.prog 201 #[.string s,.string t] w (DecP w (Nat.gcd (valI s.data.toList).natAbs (valI t.data.toList).natAbs)):=by
 have HB:=hZ (both_yes s t hs ht h1 h2 w);have hl1:=val_len h1;have hl2:=val_len h2
 have hsh:(decS (Nat.gcd (valI s.data.toList).natAbs (valI t.data.toList).natAbs)).length≤200:=by
  rcases Nat.eq_zero_or_pos (valI s.data.toList).natAbs with e|e
  · rw[e,Nat.gcd_zero_left];exact dec_short h2 (Nat.le_refl _)
  · exact dec_short h1 (Nat.le_of_dvd e (Nat.gcd_dvd_left _ _))
 obtain⟨x,hx⟩:=oQ (valI s.data.toList);obtain⟨y,hy⟩:=oQ (valI t.data.toList);rw[hx] at HB hl1 hsh⊢;rw[hy] at HB hl2 hsh⊢;obtain⟨g,hg⟩:=oQ (Nat.gcd x.natAbs y.natAbs);rw[hg] at hsh⊢;have HG:=hZ hg;have HL1:=hZ hl1;have HL2:=hZ hl2;have HSH:=hZ hsh;clear hg;have HP:=hZ hp;clear h1 h2 hx hy hl1 hl2 hsh hp;unfold BothYes at HB;obtain⟨p,hpx⟩:=oQ (decide (x<0));obtain⟨q,hqy⟩:=oQ (decide (y<0));rw[hpx,hqy] at HB;clear hpx hqy
 go_enter Tryz.func201,Tryz.ntmps201
 go_wp2_with (first
  |(go_at_call 203;(with_reducible refine HB.out.mono ?_);rintro e w1 ⟨u,v,rfl,hu,hv,hb1⟩;have HU:=hZ hu;have HV:=hZ hv;obtain⟨A1,c1,hue,-⟩:=hu;obtain⟨n1,hn1⟩:=oQ ((ofN x.natAbs).length);rw[hn1] at hue;subst hue;clear hn1;obtain⟨A2,c2,hve,-⟩:=hv;obtain⟨n2,hn2⟩:=oQ ((ofN y.natAbs).length);rw[hn2] at hve;subst hve;clear hn2;have HB1:=hZ hb1;clear hb1)
  |fail)
 go_quiet (fail)
 go_wp2;have kb:=(two_boxes w1 #[.bool p,.slice A1 n1 c1] #[.bool q,.slice A2 n2 c2] 232 232).2.2.2;have hU2:=HU.out.below kb;have hV2:=HV.out.below kb;have hB2:=HB1.out.trans (kb.mono HB1.out.size);obtain⟨W0,hW0⟩:=oQ ((w1.alloc (.cells #[.bool p,.slice A1 n1 c1] 232)).alloc (.cells #[.bool q,.slice A2 n2 c2] 232));rw[hW0] at hU2 hV2 hB2⊢;have HU2:=hZ hU2;have HV2:=hZ hV2;have HB2:=hZ hB2;clear hW0 hU2 hV2 hB2 kb HU HV HB1 HB
 go_loopw [9,10,11,12] (fun va vb _ _ wr=> ∃(a b:Nat),LsAt wr va (ofN a)∧LsAt wr vb (ofN b)∧Hid (Nat.gcd a b=g)∧Hid ((ofN a).length≤50∧(ofN b).length≤50)∧Below w.heap.size w wr) (fun _ vb _ _ wr=>numOf vb wr)
 case atStart=>exact⟨x.natAbs,y.natAbs,HU2.out.drewN _,HV2.out.drewN _,HG,hZ ⟨HL1.out,HL2.out⟩,HB2.out.trans (Go.Joins.below_draws _ _ _)⟩
 case round=>
  obtain⟨a,b,ha,hb,HG,HL,hB⟩:=hrel;have HA:=hZ ha;have HB:=hZ hb;have HBW:=hZ hB;obtain⟨A3,c3,rfl,-⟩:=ha;obtain⟨A4,c4,rfl,-⟩:=hb;obtain⟨n3,hn3⟩:=oQ ((ofN a).length);obtain⟨n4,hn4⟩:=oQ ((ofN b).length);rw[hn3] at HA⊢;rw[hn4] at HB⊢;have HN:=hZ (And.intro hn3 hn4);have hbz:n4=0↔b=0:=by rw[←hn4,List.length_eq_zero_iff,ofN_eq_nil]
  have HBZ:=hZ hbz;clear hB hn3 hn4 hbz
  by_cases h0:0<n4
  · have d1:decide (0<n4)=true:=by simp[h0]
    have hb0:0<b:=by
     rcases Nat.eq_zero_or_pos b with e|e
     · have:=HBZ.out.2 e;omega
     · exact e
    have HM:=hZ (numOf_eq HB.out);have HO:=hZ (over_walk a b hb0 _ _ wr HA.out HB.out (by have:=HL.out;omega) (by have:=HL.out;omega));have HB0:=hZ hb0;clear hb0
    go_wp2_with (first
     | (go_at_call 204;(with_reducible refine HO.out.mono ?_);rintro e w2 ⟨vq,vr,rfl,hq,hr,hb2⟩
        have HR:=hZ hr;have HB2:=hZ hb2
        clear hq hr hb2)
     |fail)
    refine⟨⟨b,a%b,HB.out.below HB2.out,HR.out,hZ ?_,hZ ⟨HL.out.2,?_⟩,HBW.out.trans (HB2.out.mono HBW.out.size)⟩,?_⟩
    · rw[←HG.out,Nat.gcd_comm a b,Nat.gcd_rec b a,Nat.gcd_comm]
    · exact Nat.le_trans (ofN_len_mono (Nat.le_of_lt (Nat.mod_lt _ HB0.out))) HL.out.2
    · have e1:=numOf_eq HR.out
      have e2:=HM.out;have:=Nat.mod_lt a HB0.out;omega
  · obtain rfl:n4=0:=by omega
    obtain rfl:b=0:=HBZ.out.1 rfl;(have hga:a=g:=by have:=HG.out;rwa[Nat.gcd_zero_right] at this);subst hga;(have d1:decide (0<0)=false:=by decide);have HT:=hZ (text_short false a _ wr HA.out HSH.out (HP.out.below HBW.out) rfl)
    go_wp2_with (first
     | (go_at_call 208;(with_reducible refine HT.out.mono ?_);rintro e w2 ⟨rfl,hb2⟩
        have HB2:=hZ hb2
        clear hb2)
     |fail)
    refine bodyPost_ret (v:=.tuple #[.string ⟨(decS a).toArray⟩,.int .i64 0]) (by simp[results]) rfl ⟨rfl,HBW.out.trans (HB2.out.mono HBW.out.size)⟩
end Go.Proofs.YteeifhlhpiimoaaGreatDoor
end
