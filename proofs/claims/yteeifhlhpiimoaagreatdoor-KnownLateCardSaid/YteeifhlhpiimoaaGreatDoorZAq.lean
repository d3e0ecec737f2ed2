/-
  The entries of a key are ordered by 'prevails': plainly. No condition. 'Prevails' orders the entries of a key; what is known depends on which known valid entries there are alone: plainly. No condition. What Some makes has short texts and a day from 0 to 29; the list that KnownOrder builds knows the same: plainly. No condition. Rows of entries that a call owns: one element stored, a list appended inside a drawn region. Conditions: each law's own. Contract of package integer's product of absolute values, where the second one is below 10000. Conditions: at most 800 groups. Contracts of package integer's sum of signed numbers, Add, Sub and Mul. Conditions: the texts are valid integers; results of at most 200 digits; the table of powers stands. Contracts of package integer's Add, Sub, Mul and FromInt. Conditions: the texts are valid integers; results of at most 200 digits; the table of powers stands. Fractions in lowest terms, plainly. Conditions: each law's own. Plain laws for KnownOthers: entries that integers determine have numbers from 0 to 9, so few points are known; what is asked about one number depends on the entries about it. No condition. A cell of a variable set. Condition: the variable lies there. Contracts of package rational's calculation: do, mul, quotient. Conditions: the operation's own contract. Contracts of package rational's check and reduced. Conditions: the fractions are valid; numbers far from overflowing; the table of powers stands.
-/
import Derived.Test.YteeifhlhpiimoaaGreatDoorZAk
import Derived.Test.YteeifhlhpiimoaaGreatDoorZAf
import Derived.Test.YteeifhlhpiimoaaGreatDoorZAp
import Derived.Sort.Walk0
import Derived.Deep.MidRow
import Derived.Test.YteeifhlhpiimoaaGreatDoorZAa
import Derived.Test.YteeifhlhpiimoaaGreatDoorZAe
import Derived.Test.YteeifhlhpiimoaaGreatDoorZAn
import Derived.Test.YteeifhlhpiimoaaGreatDoorZAl
import Derived.Test.YteeifhlhpiimoaaGreatDoorZAm
set_option maxHeartbeats 8000000
set_option maxRecDepth 100000
section
namespace Go.Proofs.YteeifhlhpiimoaaGreatDoor
open Go Go.RowKit Go.Shelf Wr
theorem putI_inj {a b:Int} (ha:WireI a) (hb:WireI b) {r s:List UInt8} (h:putI a++r=putI b++s):a=b∧r=s:=by
 have h1:=decI_putI (n:=a) (by unfold maxI;exact ha.1) (by unfold maxI;exact ha.2) r;have h2:=decI_putI (n:=b) (by unfold maxI;exact hb.1) (by unfold maxI;exact hb.2) s;rw[h,h2] at h1;have e:a=b:=zig_inj (by injection h1 with h1;injection h1 with h1 _;exact h1.symm);subst e;exact⟨rfl,List.append_cancel_left h⟩
theorem putS_inj {a b:ByteArray} (ha:a.size≤65536) (hb:b.size≤65536) {r s:List UInt8} (h:putS a++r=putS b++s):a=b∧r=s:=by
 unfold putS at h;rw[List.append_assoc,List.append_assoc] at h;obtain⟨h1,h2⟩:=putI_inj (by constructor<;>omega) (by constructor<;>omega) h
 have hl:a.data.toList.length=b.data.toList.length:=by
  rw[show a.data.toList.length=a.size from Array.length_toList,show b.data.toList.length=b.size from Array.length_toList];omega
 obtain⟨e1,e2⟩:=List.append_inj h2 hl;refine⟨?_,e2⟩;cases a;cases b
 congr 1
 exact Array.toList_inj.1 e1
theorem putI_end {a b:Int} (ha:WireI a) (hb:WireI b) (h:putI a=putI b):a=b:=(putI_inj (r:=[]) (s:=[]) ha hb (by rw[h])).1
theorem putS_end {a b:ByteArray} (ha:a.size≤65536) (hb:b.size≤65536) (h:putS a=putS b):a=b:=(putS_inj (r:=[]) (s:=[]) ha hb (by rw[h])).1
theorem ba_nil {a b:ByteArray} (ha:a.toList=[]) (hb:b.toList=[]):a=b:=by
 rw[ByteArray.toList_eq] at ha hb;cases a;cases b
 congr 1
 exact Array.toList_inj.1 (ha.trans hb.symm)
theorem valid_short {l:List UInt8} (h:validI l=true):l.length≤201:=by
 unfold validI at h;simp only[Bool.and_eq_true,decide_eq_true_eq] at h;have h2:=h.1.1.2
 cases l with
 |nil=>simp
 |cons c l=>rw[strip_cons] at h2;split at h2<;>simp at h2⊢ <;>omega
theorem rat_short {n d:ByteArray} (h:ratOk n.data.toList d.data.toList=true):n.size≤65536∧d.size≤65536:=by
 unfold ratOk at h;simp only[Bool.and_eq_true] at h;have h1:=valid_short h.1;have h2:=valid_short h.2.1;rw[show n.data.toList.length=n.size from Array.length_toList] at h1;rw[show d.data.toList.length=d.size from Array.length_toList] at h2;omega
theorem ent_ext {a b:Ent} (h0:a.kind=b.kind) (h1:a.id=b.id) (h2:a.ver=b.ver) (h3:a.day=b.day) (h4:a.gone=b.gone) (h5:a.frm=b.frm) (h6:a.til=b.til) (h7:a.lab=b.lab) (h8:a.item=b.item) (h9:a.person=b.person) (h10:a.skill=b.skill)
 (h11:a.ln=b.ln) (h12:a.ld=b.ld) (h13:a.hn=b.hn) (h14:a.hd=b.hd) (h15:a.rn=b.rn) (h16:a.rd=b.rd) (h17:a.text=b.text):a=b:=by
 cases a;cases b;simp only at*;subst h0 h1 h2 h3 h4 h5 h6 h7 h8 h9 h10 h11 h12 h13 h14 h15 h16 h17;rfl
theorem flagI_inj {a b:Bool} {r s:List UInt8} (h:putI (flagI a)++r=putI (flagI b)++s):a=b∧r=s:=by
 obtain⟨h1,h2⟩:=putI_inj (by unfold flagI;constructor<;>split<;>omega) (by unfold flagI;constructor<;>split<;>omega) h;refine⟨?_,h2⟩;unfold flagI at h1;cases a<;>cases b<;>simp_all
theorem enc_inj {a b:Ent} (ha:validE a=true) (hb:validE b=true) (h:encE a=encE b):a=b:=by
 unfold validE at ha hb;unfold encE headW putsI at h;simp only[List.flatMap_cons,List.flatMap_nil,List.append_nil,List.append_assoc] at h
 have k9:∀{e:Ent},(match shapeQ e.kind with|none=>false|some qs=>headQ e&&(condQ e&&checks qs e))=true→1≤e.kind∧e.kind≤9:=fun{e} he=>by
  unfold shapeQ at he;refine⟨?_,?_⟩<;>(apply Classical.byContradiction;intro hn;rw[if_neg (by omega),if_neg (by omega),if_neg (by omega),if_neg (by omega),if_neg (by omega),if_neg (by omega),if_neg (by omega),if_neg (by omega),if_neg (by omega)] at he;cases he)
 have ka:=k9 ha;have kb:=k9 hb;obtain⟨hk,h⟩:=putI_inj (by constructor<;>omega) (by constructor<;>omega) h
 have hq:∀{e:Ent},(match shapeQ e.kind with|none=>false|some qs=>headQ e&&(condQ e&&checks qs e))=true→∃qs,shapeQ e.kind=some qs∧headQ e=true∧condQ e=true∧checks qs e=true:=fun{e} he=>by
  cases hs:shapeQ e.kind with
  |none=>rw[hs] at he;cases he
  |some qs=>rw[hs] at he;simp only[Bool.and_eq_true] at he;exact⟨qs,rfl,he.1,he.2.1,he.2.2⟩
 obtain⟨qa,sa,ha1,ha2,ha3⟩:=hq ha;obtain⟨qb,sb,hb1,hb2,hb3⟩:=hq hb;rw[←hk,sa] at sb;cases sb;rw[←hk,sa] at h;simp only[Option.getD_some] at h;unfold headQ at ha1 hb1;simp only[Bool.and_eq_true,decide_eq_true_eq] at ha1 hb1;obtain⟨hv,h⟩:=putI_inj (by constructor<;>omega) (by constructor<;>omega) h;obtain⟨hd,h⟩:=putI_inj (by constructor<;>omega) (by constructor<;>omega) h;obtain⟨hg,h⟩:=flagI_inj h;clear ha hb k9 hq;unfold condQ at ha2 hb2;rw[←hk] at hb2;rcases(show a.kind=1∨a.kind=2∨a.kind=3∨a.kind=4∨a.kind=5∨a.kind=6∨a.kind=7∨a.kind=8∨a.kind=9 by omega) with e|e|e|e|e|e|e|e|e
 all_goals
  rw[e] at sa ha2 hb2;simp[shapeQ] at sa;subst sa;simp[checks,Ent.num,Ent.clr] at ha3 hb3;simp[encQ,Ent.num,putsS,Ent.str] at h
 · obtain⟨aid1,aid2,afrm1,afrm2,alab1,alab2,aitem1,aitem2,atil,aperson,askill,arn,ard,atext⟩:=ha3
   obtain⟨bid1,bid2,bfrm1,bfrm2,blab1,blab2,bitem1,bitem2,btil,bperson,bskill,brn,brd,btext⟩:=hb3;unfold Ent.valueOk encOk at ha2 hb2;simp only[if_true,Bool.and_eq_true] at ha2 hb2;have s1:=rat_short ha2.1.1;have s2:=rat_short ha2.1.2.1;have t1:=rat_short hb2.1.1;have t2:=rat_short hb2.1.2.1;obtain⟨q_id,h⟩:=putI_inj (by constructor<;>omega) (by constructor<;>omega) h;obtain⟨q_frm,h⟩:=putI_inj (by constructor<;>omega) (by constructor<;>omega) h;obtain⟨q_lab,h⟩:=putI_inj (by constructor<;>omega) (by constructor<;>omega) h;obtain⟨q_item,h⟩:=putI_inj (by constructor<;>omega) (by constructor<;>omega) h;obtain⟨q_ln,h⟩:=putS_inj (by omega) (by omega) h;obtain⟨q_ld,h⟩:=putS_inj (by omega) (by omega) h;obtain⟨q_hn,h⟩:=putS_inj (by omega) (by omega) h;have q_hd:=putS_end (by omega) (by omega) h;exact ent_ext hk q_id hv hd hg q_frm (by omega) q_lab q_item (by omega) (by omega) q_ln q_ld q_hn q_hd (ba_nil arn brn) (ba_nil ard brd) (ba_nil atext btext)
 · obtain⟨aitem1,aitem2,aid,afrm,atil,alab,aperson,askill,aln,ald,ahn,ahd,atext⟩:=ha3
   obtain⟨bitem1,bitem2,bid,bfrm,btil,blab,bperson,bskill,bln,bld,bhn,bhd,btext⟩:=hb3;unfold Ent.rateOk at ha2 hb2;simp at ha2 hb2;have s1:=rat_short ha2.1;have t1:=rat_short hb2.1;obtain⟨q_item,h⟩:=putI_inj (by constructor<;>omega) (by constructor<;>omega) h;obtain⟨q_rn,h⟩:=putS_inj (by omega) (by omega) h;have q_rd:=putS_end (by omega) (by omega) h;exact ent_ext hk (by omega) hv hd hg (by omega) (by omega) (by omega) q_item (by omega) (by omega) (ba_nil aln bln) (ba_nil ald bld) (ba_nil ahn bhn) (ba_nil ahd bhd) q_rn q_rd (ba_nil atext btext)
 · obtain⟨aid1,aid2,afrm1,afrm2,atil1,atil2,aitem1,aitem2,alab,aperson,askill,aln,ald,ahn,ahd,arn,ard,atext⟩:=ha3
   obtain⟨bid1,bid2,bfrm1,bfrm2,btil1,btil2,bitem1,bitem2,blab,bperson,bskill,bln,bld,bhn,bhd,brn,brd,btext⟩:=hb3;obtain⟨q_id,h⟩:=putI_inj (by constructor<;>omega) (by constructor<;>omega) h;obtain⟨q_frm,h⟩:=putI_inj (by constructor<;>omega) (by constructor<;>omega) h;obtain⟨q_til,h⟩:=putI_inj (by constructor<;>omega) (by constructor<;>omega) h;have q_item:=putI_end (by constructor<;>omega) (by constructor<;>omega) h;exact ent_ext hk q_id hv hd hg q_frm q_til (by omega) q_item (by omega) (by omega) (ba_nil aln bln) (ba_nil ald bld) (ba_nil ahn bhn) (ba_nil ahd bhd) (ba_nil arn brn) (ba_nil ard brd) (ba_nil atext btext)
 · obtain⟨aid1,aid2,afrm1,afrm2,atil1,atil2,aitem1,aitem2,alab,aperson,askill,aln,ald,ahn,ahd,arn,ard,atext⟩:=ha3
   obtain⟨bid1,bid2,bfrm1,bfrm2,btil1,btil2,bitem1,bitem2,blab,bperson,bskill,bln,bld,bhn,bhd,brn,brd,btext⟩:=hb3;obtain⟨q_id,h⟩:=putI_inj (by constructor<;>omega) (by constructor<;>omega) h;obtain⟨q_frm,h⟩:=putI_inj (by constructor<;>omega) (by constructor<;>omega) h;obtain⟨q_til,h⟩:=putI_inj (by constructor<;>omega) (by constructor<;>omega) h;have q_item:=putI_end (by constructor<;>omega) (by constructor<;>omega) h;exact ent_ext hk q_id hv hd hg q_frm q_til (by omega) q_item (by omega) (by omega) (ba_nil aln bln) (ba_nil ald bld) (ba_nil ahn bhn) (ba_nil ahd bhd) (ba_nil arn brn) (ba_nil ard brd) (ba_nil atext btext)
 · obtain⟨aid1,aid2,afrm1,afrm2,atil1,atil2,alab1,alab2,aitem,aperson,askill,aln,ald,ahn,ahd,arn,ard⟩:=ha3
   obtain⟨bid1,bid2,bfrm1,bfrm2,btil1,btil2,blab1,blab2,bitem,bperson,bskill,bln,bld,bhn,bhd,brn,brd⟩:=hb3;simp at ha2 hb2;obtain⟨q_id,h⟩:=putI_inj (by constructor<;>omega) (by constructor<;>omega) h;obtain⟨q_frm,h⟩:=putI_inj (by constructor<;>omega) (by constructor<;>omega) h;obtain⟨q_til,h⟩:=putI_inj (by constructor<;>omega) (by constructor<;>omega) h;obtain⟨q_lab,h⟩:=putI_inj (by constructor<;>omega) (by constructor<;>omega) h;have q_text:=putS_end (by omega) (by omega) h;exact ent_ext hk q_id hv hd hg q_frm q_til q_lab (by omega) (by omega) (by omega) (ba_nil aln bln) (ba_nil ald bld) (ba_nil ahn bhn) (ba_nil ahd bhd) (ba_nil arn brn) (ba_nil ard brd) q_text
 · obtain⟨aitem1,aitem2,afrm1,afrm2,aid,atil,alab,aperson,askill,aln,ald,ahn,ahd,arn,ard,atext⟩:=ha3
   obtain⟨bitem1,bitem2,bfrm1,bfrm2,bid,btil,blab,bperson,bskill,bln,bld,bhn,bhd,brn,brd,btext⟩:=hb3;obtain⟨q_item,h⟩:=putI_inj (by constructor<;>omega) (by constructor<;>omega) h;have q_frm:=putI_end (by constructor<;>omega) (by constructor<;>omega) h;exact ent_ext hk (by omega) hv hd hg q_frm (by omega) (by omega) q_item (by omega) (by omega) (ba_nil aln bln) (ba_nil ald bld) (ba_nil ahn bhn) (ba_nil ahd bhd) (ba_nil arn brn) (ba_nil ard brd) (ba_nil atext btext)
 · obtain⟨aid1,aid2,afrm1,afrm2,atil1,atil2,aperson1,aperson2,askill1,askill2,alab,aitem,aln,ald,ahn,ahd,arn,ard,atext⟩:=ha3
   obtain⟨bid1,bid2,bfrm1,bfrm2,btil1,btil2,bperson1,bperson2,bskill1,bskill2,blab,bitem,bln,bld,bhn,bhd,brn,brd,btext⟩:=hb3;obtain⟨q_id,h⟩:=putI_inj (by constructor<;>omega) (by constructor<;>omega) h;obtain⟨q_frm,h⟩:=putI_inj (by constructor<;>omega) (by constructor<;>omega) h;obtain⟨q_til,h⟩:=putI_inj (by constructor<;>omega) (by constructor<;>omega) h;obtain⟨q_person,h⟩:=putI_inj (by constructor<;>omega) (by constructor<;>omega) h;have q_skill:=putI_end (by constructor<;>omega) (by constructor<;>omega) h;exact ent_ext hk q_id hv hd hg q_frm q_til (by omega) (by omega) q_person q_skill (ba_nil aln bln) (ba_nil ald bld) (ba_nil ahn bhn) (ba_nil ahd bhd) (ba_nil arn brn) (ba_nil ard brd) (ba_nil atext btext)
 · obtain⟨aitem1,aitem2,aid,afrm,atil,alab,aperson,askill,aln,ald,ahn,ahd,atext⟩:=ha3
   obtain⟨bitem1,bitem2,bid,bfrm,btil,blab,bperson,bskill,bln,bld,bhn,bhd,btext⟩:=hb3;unfold Ent.rateOk at ha2 hb2;simp at ha2 hb2;have s1:=rat_short ha2.1;have t1:=rat_short hb2.1;obtain⟨q_item,h⟩:=putI_inj (by constructor<;>omega) (by constructor<;>omega) h;obtain⟨q_rn,h⟩:=putS_inj (by omega) (by omega) h;have q_rd:=putS_end (by omega) (by omega) h;exact ent_ext hk (by omega) hv hd hg (by omega) (by omega) (by omega) q_item (by omega) (by omega) (ba_nil aln bln) (ba_nil ald bld) (ba_nil ahn bhn) (ba_nil ahd bhd) q_rn q_rd (ba_nil atext btext)
 · obtain⟨aid1,aid2,aitem1,aitem2,aperson1,aperson2,afrm,atil,alab,askill,aln,ald,ahn,ahd,arn,ard,atext⟩:=ha3
   obtain⟨bid1,bid2,bitem1,bitem2,bperson1,bperson2,bfrm,btil,blab,bskill,bln,bld,bhn,bhd,brn,brd,btext⟩:=hb3;obtain⟨q_id,h⟩:=putI_inj (by constructor<;>omega) (by constructor<;>omega) h;obtain⟨q_item,h⟩:=putI_inj (by constructor<;>omega) (by constructor<;>omega) h;have q_person:=putI_end (by constructor<;>omega) (by constructor<;>omega) h;exact ent_ext hk q_id hv hd hg (by omega) (by omega) (by omega) q_item q_person (by omega) (ba_nil aln bln) (ba_nil ald bld) (ba_nil ahn bhn) (ba_nil ahd bhd) (ba_nil arn brn) (ba_nil ard brd) (ba_nil atext btext)
theorem list_tri {x y:List UInt8} (h:¬x<y) (hne:x≠y):y<x:=by
 apply Classical.byContradiction;intro h2;exact hne (List.le_antisymm h2 h)
theorem strGt_iff {x y:List UInt8}:strGt x y=true↔y<x:=by
 unfold strGt bs;rw[ByteArray.toList_eq,ByteArray.toList_eq,bytesLess_eq];simp only[Bool.not_eq_true',Bool.or_eq_false_iff,decide_eq_false_iff_not,beq_eq_false_iff_ne];constructor
 · rintro⟨h1,h2⟩;exact list_tri h1 h2
 · intro h
   refine⟨fun h2=>List.lt_irrefl x (List.lt_trans h2 h),fun e=> ?_⟩;have e':x=y:=e;subst e';exact List.lt_irrefl x h
theorem sameKey_iff {a b:Ent}:sameKey a b=true↔keyE a=keyE b:=by
 unfold sameKey bs;rw[ByteArray.toList_eq,ByteArray.toList_eq];simp
theorem okD_iff {day:Int} {e:Ent}:okD day e=true↔validE e=true∧e.day≤day:=by unfold okD;simp
theorem prev_iff {a b:Ent}:prevE a b=true↔validE a=true∧validE b=true∧keyE a=keyE b∧(b.ver<a.ver∨a.ver=b.ver∧encE b<encE a):=by
 unfold prevE;simp only[Bool.and_eq_true,Bool.or_eq_true,decide_eq_true_eq,sameKey_iff,strGt_iff]
theorem prev_ranks (day:Int):Ranks (okD day) keyE prevE where
 irr a:=by
  cases h:prevE a a with
  |false=>rfl
  | true=>
    rcases(prev_iff.1 h).2.2.2 with q|⟨_,q⟩
    · omega
    · exact(List.lt_irrefl _ q).elim
 tot a b ha hb hk hne:=by
  have va:=(okD_iff.1 ha).1;have vb:=(okD_iff.1 hb).1
  cases h:prevE a b with
  | true=>
    cases h2:prevE b a with
    |false=>rfl
    | true=>
      rcases(prev_iff.1 h).2.2.2 with q|⟨q0,q⟩<;>rcases(prev_iff.1 h2).2.2.2 with r|⟨r0,r⟩
      · omega
      · omega
      · omega
      · exact(List.lt_irrefl _ (List.lt_trans q r)).elim
  | false=>
    cases h2:prevE b a with
    |true=>rfl
    | false=>
      exfalso
      (have n1:¬(b.ver<a.ver∨a.ver=b.ver∧encE b<encE a):=fun q=>by rw[prev_iff.2 ⟨va,vb,hk,q⟩] at h;cases h);have n2:¬(a.ver<b.ver∨b.ver=a.ver∧encE a<encE b):=fun q=>by rw[prev_iff.2 ⟨vb,va,hk.symm,q⟩] at h2;cases h2
      have hv:a.ver=b.ver:=by
       apply Classical.byContradiction;intro hv;rcases Int.lt_or_gt_of_ne hv with q|q
       · exact n2 (.inl q)
       · exact n1 (.inl q)
      exact n2 (.inr ⟨hv.symm,list_tri (fun q=>n1 (.inr ⟨hv,q⟩)) (fun q=>hne (enc_inj va vb q.symm))⟩)
 tra a b c ha hb hc hab hbc h1 h2:=by
  have p1:=prev_iff.1 h1;have p2:=prev_iff.1 h2;refine prev_iff.2 ⟨p1.1,p2.2.1,hab.trans hbc,?_⟩;rcases p1.2.2.2 with q|⟨q0,q⟩<;>rcases p2.2.2.2 with r|⟨r0,r⟩
  · left;omega
  · left;omega
  · left;omega
  · right;exact⟨by omega,List.lt_trans r q⟩
theorem effD_mem {l:List Ent} {day:Int} {e:Ent}:e∈effD l day↔IsBest (okD day) keyE prevE l (keyE e) e∧e.gone=false:=by
 unfold effD;rw[List.mem_filter,effL_best (prev_ranks day)];simp
theorem effD_same {l m:List Ent} {day:Int} (h:∀x,okD day x=true→(x∈l↔x∈m)) (e:Ent):e∈effD l day↔e∈effD m day:=by
 have move:∀{l m:List Ent},(∀x,okD day x=true→(x∈l↔x∈m))→IsBest (okD day) keyE prevE l (keyE e) e→IsBest (okD day) keyE prevE m (keyE e) e:=fun h q=>
  ⟨(h _ q.2.1).1 q.1,q.2.1,q.2.2.1,fun x hx h1 h2=>q.2.2.2 x ((h x h1).2 hx) h1 h2⟩
 rw[effD_mem,effD_mem];exact⟨fun q=>⟨move h q.1,q.2⟩,fun q=>⟨move (fun x hx=>(h x hx).symm) q.1,q.2⟩⟩
theorem known_same {l m:List Ent} {day:Int} (h:∀x,okD day x=true→(x∈l↔x∈m)) (j:Nat):knownL l day j=knownL m day j:=by
 refine(known_of (l:=l) (day:=day) (j:=j) (m:=(effD m day).filter fun e=>decide (e.kind=((j+1:Nat):Int))) (m':=knownL m day j) (List.Pairwise.filter _ (effD_keyd m day)) (fun e=> ?_) ?_ ?_).symm
 · rw[List.mem_filter,←effD_same h];simp
 · exact sortB_perm _
 · exact sortB_up (byNum_weak numE) _
theorem txt_size {neg:Bool} {n:Nat} (h:n<1000000000000000000):(txtB neg n).size≤100:=by
 have h1:(txtB neg n).size=(txtL neg n).length:=rfl;have h2:(dg n).length≤18:=dg_len_le h;have h3:=decS_len_dg n;rw[h1];unfold txtL
 split
 · simp
 · rw[List.length_append]
   (have:(if neg=true then([45]:List UInt8) else[]).length≤1:=by split<;>simp);omega
theorem rn_size {x:Int} {y:Nat} (h:x.natAbs<1000000000000000000):(rnB x y).size≤100:=txt_size (Nat.lt_of_le_of_lt (Nat.div_le_self _ _) h)
theorem rd_size {x:Int} {y:Nat} (h:y<1000000000000000000):(rdB x y).size≤100:=txt_size (Nat.lt_of_le_of_lt (Nat.div_le_self _ _) h)
theorem root_size (n:Int):(rootG n).size=32:=by
 have:(rootG n).size=(rootGL n).length:=rfl;rw[this];unfold rootGL;simp
structure Texts (e:Ent):Prop where
 ln:e.ln.size≤100
 ld:e.ld.size≤100
 hn:e.hn.size≤100
 hd:e.hd.size≤100
 rn:e.rn.size≤100
 rd:e.rd.size≤100
 text:e.text.size≤100
theorem Texts.wire {e:Ent} (h:Texts e):e.Wire:=⟨by have:=h.ln;omega,by have:=h.ld;omega,by have:=h.hn;omega,by have:=h.hd;omega,by have:=h.rn;omega,by have:=h.rd;omega,by have:=h.text;omega⟩
theorem texts_zero:Texts zeroE:=⟨by decide,by decide,by decide,by decide,by decide,by decide,by decide⟩
theorem texts_step (y:Six) (k f:Nat) {e:Ent} (h:Texts e):Texts (stepE y k f e):=by
 have p41:=pickZ_range y.y2 (n:=41) (by omega);have p5:=pickZ_range y.y5 (n:=5) (by omega);have p9:=pickZ_range y.y2 (n:=9) (by omega);have p4:=pickZ_range (Int.tdiv y.y2 41) (n:=4) (by omega);have q9:=pickZ_range y.y4 (n:=9) (by omega);have hl:(loE y).natAbs<1000000000000000000:=by unfold loE;omega
 have hh:(hiE y).natAbs<1000000000000000000:=by unfold hiE;omega
 have hd:denE y<1000000000000000000:=by unfold denE;omega
 have hr:denR y<1000000000000000000:=by unfold denR;omega
 have hp:(pickZ y.y2 9).natAbs<1000000000000000000:=by omega
 unfold stepE
 split
 · exact⟨h.ln,h.ld,h.hn,h.hd,h.rn,h.rd,h.text⟩
 · exact⟨h.ln,h.ld,h.hn,h.hd,h.rn,h.rd,h.text⟩
 · exact⟨h.ln,h.ld,h.hn,h.hd,h.rn,h.rd,h.text⟩
 · exact⟨rn_size hl,rd_size hd,rn_size hh,rd_size hd,h.rn,h.rd,h.text⟩
 · exact⟨h.ln,h.ld,h.hn,h.hd,rn_size hp,rd_size hr,h.text⟩
 · exact⟨h.ln,h.ld,h.hn,h.hd,h.rn,h.rd,by show(rootG y.y2).size≤100;rw[root_size];omega⟩
 · unfold setE;split<;>exact⟨h.ln,h.ld,h.hn,h.hd,h.rn,h.rd,h.text⟩
theorem texts_fold (y:Six):∀(fs:List Nat) (k:Nat) {e:Ent},Texts e→Texts (foldE y k fs e)
 |[],_,_,h=>h
 |f::fs,k,_,h=>texts_fold y fs (k+1) (texts_step y k f h)
theorem some_texts (y:Six):Texts (someE y):=texts_fold y _ 0 ⟨texts_zero.ln,texts_zero.ld,texts_zero.hn,texts_zero.hd,texts_zero.rn,texts_zero.rd,texts_zero.text⟩
end Go.Proofs.YteeifhlhpiimoaaGreatDoor
end
section
namespace Go.Proofs.YteeifhlhpiimoaaGreatDoor
open Go Go.RowKit Go.Shelf
theorem OL.row {w:World} {B g n c i:Nat} {l:List Ent} {e:Ent} (h:OL w B 33 18 Ent.cells (.slice (some ⟨g,0,none⟩) n c) l) (he:l[i]?=some e):w.rangeAt g (i*18) e.cells:=by
 intro j v hv;have hn:=h.len.1;subst hn;have hf:∀x:Ent,x.cells.length=18:=fun _=>rfl;have hj:j<18:=(List.getElem?_eq_some_iff.1 hv).1;have hi:i<l.length:=(List.getElem?_eq_some_iff.1 he).1;have hlen:(l.flatMap Ent.cells).length=l.length*18:=flatMap_length hf;rw[World.ownsRow.cellAt h (i*18+j) (by omega),flat_at (f:=Ent.cells) (s:=18) hf l i e he j hj];exact hv
theorem OL.cats {w:World} {B n c:Nat} {A:Option Addr} {m:List Ent} (h:OL w B 33 18 Ent.cells (.slice A n c) m):∀j x,(m.flatMap Ent.cells)[j]?=some x→∃a,A=some a∧w.cell? (a.add j)=some x:=by
 intro j x hx;have hlen:(m.flatMap Ent.cells).length=m.length*18:=flatMap_length (fun _=>rfl);have hj:j<m.length*18:=by rw[←hlen];exact(List.getElem?_eq_some_iff.1 hx).1
 have hn:=h.len.1;subst hn;obtain⟨g,cap,e1,-,-,-,-⟩:=h.form (by omega);injection e1 with e1 e2 e3;subst e1 e3;refine⟨_,rfl,?_⟩;rw[show(⟨g,0,none⟩:Addr).add j=⟨g,j,none⟩ from by simp[Addr.add];omega,World.ownsRow.cellAt h j (by omega)];exact hx
end Go.Proofs.YteeifhlhpiimoaaGreatDoor
end
section
namespace Go.Proofs.YteeifhlhpiimoaaGreatDoor
open Go Go.RowKit Go.Shelf
attribute [local go_sem] Oper.semAt_some
theorem ofN_small {b:Nat} (h:b<10000):(ofN b).length≤1:=ofN_len_pow (by simpa using h)
theorem ofN_at0 {b:Nat} (h:b<10000) (h0:0<(ofN b).length):(ofN b).getD 0 0=b:=by
 rcases Nat.eq_zero_or_pos b with rfl|hb
 · rw[ofN_zero] at h0;cases h0
 · rw[ofN_pos hb];simp;omega
structure TmI (w:World) (b2 b5 D:Nat) (v1 vo:Value) (x:Nat) (W:World):Prop where
 bl:Boxed W b2 230 v1
 bo:Boxed W b5 230 vo
 rd:LsAt W vo (ofN x)
 fr:∀a n c,vo=.slice (some a) n c→D≤a.block
 below:Below w.heap.size w W
theorem times_walk (a b:Nat) (hb:b<10000) (v1 v2:Value) (w:World) (h1:LsAt w v1 (ofN a)) (h2:LsAt w v2 (ofN b)) (ha:(ofN a).length≤800):
 Calls Tryz.prog 271 #[v1,v2] w (NumP w (a*b)):=by
 obtain⟨B,d,rfl,hd1,hd2,hd3,hB⟩:=h2;obtain⟨n,hn⟩:=oQ ((ofN b).length);have hn1:n≤1:=by rw[←hn];exact ofN_small hb
 rw[hn] at hd1⊢;have H1:=hZ h1;obtain⟨Aa,ca,hva,-⟩:=h1;obtain⟨na,hna⟩:=oQ ((ofN a).length);rw[hna] at hva;subst hva;have HB:=hZ hB;have HN:=hZ hn;have HL:=hZ ha;clear hB hn ha hna;refine(callsIn_wide (n:=3)).1 ?_;refine callsIn_of_wp_marks Tryz.func271 rfl trivial ?_ rfl;simp only[Tryz.ntmps271,List.size_toArray,List.length_cons,List.length_nil,Nat.reduceAdd,Nat.reduceSub,Array.replicate_succ,Array.replicate_zero,List.push_toArray,List.append_toArray,List.nil_append,List.cons_append];refine wpIn_wide.2 ?_
 go_wp2_with (first
  |(go_at_call 244;refine(backN_any _ _ _ _).mono ?_;rintro e w5 ⟨rfl,rfl⟩)
  |fail)
 obtain⟨v1,hv1⟩:=oQ (Value.slice Aa na ca);rw[hv1] at H1⊢;clear hv1;obtain⟨b2,hb2⟩:=oQ (w.heap.size);rw[hb2];obtain⟨b5,hb5⟩:=oQ (b2+1);rw[hb5];obtain⟨b1,hb1⟩:=oQ (b5+1);rw[hb1];obtain⟨l,hl⟩:=oQ (ofN b);rw[hl] at HB HN;obtain⟨W1,hW1⟩:=oQ (((w.alloc (.cells #[v1] 230)).alloc (.cells #[.slice none 0 0] 230)).alloc (.cells #[.slice B n d] 230))
 have hI1:TmI w b2 b5 (b1+1) v1 (.slice none 0 0) 0 W1∧Boxed W1 b1 230 (.slice B n d)∧W1.heap.size=b1+1:=by
  obtain⟨u1,hu1⟩:=oQ (w.alloc (.cells #[v1] 230));have s1:u1.heap.size=b5:=by rw[←hu1,World.size_alloc,hb2,hb5]
  have y1:Boxed u1 b2 230 v1:=by rw[←hu1,←hb2];exact Boxed.new w _ _
  have c1:Below w.heap.size w u1:=by rw[←hu1];exact below_box _ _ _
  rw[hu1] at hW1;obtain⟨u2,hu2⟩:=oQ (u1.alloc (.cells #[.slice none 0 0] 230));have s2:u2.heap.size=b1:=by rw[←hu2,World.size_alloc,s1,hb1]
  have y2:Boxed u2 b5 230 (.slice none 0 0):=by rw[←hu2,←s1];exact Boxed.new u1 _ _
  have c2:Below u1.heap.size u1 u2:=by rw[←hu2];exact below_box _ _ _
  rw[hu2] at hW1;have c3:Below u2.heap.size u2 W1:=by rw[←hW1];exact below_box _ _ _
  refine⟨⟨(c3.block b2 (by omega)).trans ((c2.block b2 (by omega)).trans y1),(c3.block b5 (by omega)).trans y2,by rw[ofN_zero];exact LsAt.nil W1,fun _ _ _ e=>(by cases e),(c1.trans (c2.mono (by omega))).trans (c3.mono (by omega))⟩,?_,by rw[←hW1,World.size_alloc,s2]⟩;rw[←hW1,←s2];exact Boxed.new u2 _ _
 obtain⟨hI1,z2,hs1⟩:=hI1;obtain⟨A0,hA0,hA1⟩:=HB.out.addr;rw[HN.out] at hA0;have HA1:=hZ ((HB.out.below hI1.below).more hI1.below.size);have HI1:=hZ hI1;have HBL:Hid (w.heap.size=b2∧b2+1=b5∧b5+1=b1∧W1.heap.size=b1+1):=hZ ⟨hb2,hb5,hb1,hs1⟩;have HLB:Hid (0<l.length→l.getD 0 0=b):=hZ (by rw[←hl];exact ofN_at0 hb);have HZB:Hid (l=[]→b=0):=hZ (fun h=>by rw[h] at hl;exact ofN_eq_nil.1 hl);have HA0:=hZ hA1;rw[hW1];clear hW1 hI1 hl hd2 hd3;refine(wpIn_wide (n:=3)).1 ?_
 refine wp_rangeZ (gf:=265) (lb:=#[.pointer (some ⟨b1,0,none⟩)]) rfl (enters_of Tryz.func265 (by kernel_rfl) rfl)
  (backN_iter B A0 l n HN.out hA0 d b1 (by omega) W1 z2 HA1.out) (Below.refl _ _) (fun k hk=>hk.elim) (fun _=>rfl) (fun h k=>h.trans k)
  (fun W o=>KpB.put (n:=b1+1) (by omega) (fun q hq=>by have:=hA1 q hq;omega) (by omega) W o)
  (fun pre W=> ∃vo,TmI w b2 b5 (b1+3) v1 vo (if pre=[] then 0 else a*b) W)
  (fun _ _ _=>False)
  (fun s U V h t=>by
    obtain⟨vo,h⟩:=h;have hz:∀k,(fun _=>False) k∨books W1 k→b1<k∧k<b1+3:=fun k e=>by rcases e with e|e|e;exact(e:False).elim;all_goals omega
    exact⟨vo,t.boxed h.bl (fun e=>by have:=hz _ e;omega),t.boxed h.bo (fun e=>by have:=hz _ e;omega),h.rd.turns t h.fr (fun k e=>(hz k e).2),h.fr,t.below h.below (Nat.le_refl _) (fun k e=>by have:=hz _ e;omega)⟩)
  (fun _ _ _ _ h _=>h.elim)
  ⟨_,HI1.out.bl,HI1.out.bo,HI1.out.rd,fun _ _ _ e=>(by cases e),HI1.out.below⟩ ?a1 ?assign ?body ?done ?stop
 case assign=>
  intro l x W K hK
  dsimp only[encB]
  gi_wp2
  exact hK
 case body=>
  rintro l0 pre x W hW ⟨vo,hI⟩ hlt2;have hpre:pre=[]:=List.eq_nil_of_length_eq_zero (by have:=HN.out;omega);subst hpre;simp only[if_true] at hI;have hx0:x.val=0:=by have:=x.isLt;have:=HN.out;omega
  have hd:l.getD x.val 0=b:=by rw[hx0];exact HLB.out (by have:=x.isLt;omega)
  rw[←getD_get x.isLt,hd];obtain⟨Ao,co,hvo,-⟩:=hI.rd;rw[ofN_zero] at hvo;have hvo':vo=.slice Ao 0 co:=hvo;subst hvo';have HBY:=hZ (by_walk a b (by omega) v1 W.drew (LsAt.drewN (H1.out.below hI.below) 1) (by have:=HL.out;omega))
  have HPL:Hid (∀V v,Below W.heap.size W V→LsAt V v (ofN (a*b))→Calls Tryz.prog 205 #[.slice Ao 0 co,v] V (NumP V (0+a*b))):=hZ (fun V v hV hv=>
   plus_walk 0 (a*b) _ v V (hI.rd.below hV) hv (by rw[ofN_zero];simp) (by
    have h1:(ofN (a*b)).length≤(ofN a).length+1:=ofN_len_mul a (by omega)
    have:=HL.out;omega))
  have HSS:Hid (∀V,Below W.heap.size W V→V.cell? ⟨b5,0,none⟩=some (.slice Ao 0 co)∧V.cell? ⟨b2,0,none⟩=some v1∧V.frozen? ⟨b5,0,none⟩=false):=hZ (fun V hV=>by
   have y5:Boxed V b5 230 (.slice Ao 0 co):=(hV.block b5 hI.bo.lt).trans hI.bo;have y2:Boxed V b2 230 v1:=(hV.block b2 hI.bl.lt).trans hI.bl
   exact⟨y5.cell,y2.cell,y5.frozen⟩)
  have HSN:Hid (∀V u,Below W.heap.size W V→(V.setCell ⟨b5,0,none⟩ u).cell? ⟨b2,0,none⟩=some v1∧(V.setCell ⟨b5,0,none⟩ u).cell? ⟨b5,0,none⟩=some u):=hZ (fun V u hV=>by
   have:=HBL.out
   exact⟨(World.cell?_setCell_other _ _ _ _ (fun e=>by cases e;omega)).trans (HSS.out V hV).2.1,World.cell?_setCell_same' _ _ _ (by rw[(HSS.out V hV).1];rfl)⟩)
  have c5:=hI.bo.cell;have HI:=hZ hI;have HW:Hid (b1+1≤W.heap.size):=hZ (by have:=HBL.out;omega);clear hI hx0 hd hvo hA0 hA1 HA1 HI1 z2 HB hb2 hb5 hb1 hs1 hlt2
  gi_wp2_with fail
  refine wpIn_region_held (S:=fun V=>V.cell? ⟨b2,0,none⟩=some v1) (by kernel_rfl) (by kernel_rfl) ((HSS.out _ (Below.drew (Below.refl _ _))).2.1) (fun hHeld=> ?_);refine tk 1 ?_;refine tk 2 ?_;refine rd [0,3] ?_;refine rc (fun K hK=> ?_) ?_
  ·
   have c0:=(HSS.out _ (Below.drew (Below.refl _ _))).1;go_simp;clear c0;refine kk hK ((HSS.out _ (Below.drew (Below.refl _ _))).2.1) (fun hHeld=> ?_);clear hK K;refine rd [3] ?_;refine rcE fun K hK=> ?_;go_simp;refine HBY.out.mono ?_;rintro e w9 ⟨v3,rfl,hv3,-,hb9⟩;have hb9':Below W.heap.size W w9:=⟨hb9.os,hb9.tape,hb9.output,hb9.size,hb9.block⟩;have HB9:=hZ hb9';have HV3:=hZ hv3;clear hb9 hb9' hv3;refine kk hK ((HSS.out _ HB9.out).2.1) (fun hHeld=> ?_);clear hK K;refine rd [4] ?_;refine rcE fun K hK=> ?_;go_simp;refine(HPL.out _ _ HB9.out HV3.out).mono ?_;rintro e w10 ⟨v4,rfl,hv4,hf4,hb10⟩;have HB10:=bTr HB9 hb10;have HV4:=hZ hv4;have HF4:=hZ (hf4.base (B':=W.heap.size) HB9.out.size);obtain⟨A4,c4,hv4e,-⟩:=hv4;obtain⟨n4,hn4⟩:=oQ ((ofN (0+a*b)).length);rw[hn4] at hv4e;subst hv4e;clear hf4 hb10 hn4;refine kk hK ((HSS.out _ HB10.out).2.1) (fun hHeld=> ?_);clear hK K;refine rd [5] ?_;refine rcE fun K hK=> ?_;have c0:=(HSS.out _ HB10.out).1;have f0:=(HSS.out _ HB10.out).2.2;go_simp;clear c0 f0;refine kk hK ((HSN.out _ _ HB10.out).1) (fun hHeld=> ?_);clear hK K;refine wpAnyH_done (by kernel_rfl) ?_ _;refine Tight.normal ?_;clear hHeld
   gi_wp2_with fail
   have ht:Turns (fun k=>k=b5) W (w10.setCell ⟨b5,0,none⟩ (.slice A4 n4 c4)):=(Turns.of_below HB10.out).trans (Turns.setCell (Z:=fun k=>k=b5) w10 ⟨b5,0,none⟩ _ rfl);have hbl:=HBL.out;have hw:=HW.out;refine⟨KeepsFrom.of_turns ht (fun k e=>by omega),KpB.of_turns ht ⟨by omega,by omega⟩ (fun q hq=>by have:=HA0.out q hq;exact⟨by omega,by omega⟩),.slice A4 n4 c4,?_⟩;rw[if_neg (by simp)];refine⟨ht.boxed HI.out.bl (by omega),(show Boxed w10 b5 _ _ from(HB10.out.block b5 HI.out.bo.lt).trans HI.out.bo).set _,?_,?_,ht.below HI.out.below (Nat.le_refl _) (fun k e=>by omega)⟩
   · have h1:=HV4.out.set HF4.out ⟨b5,0,none⟩ (by show b5<W.heap.size;omega) (.slice A4 n4 c4)
     rw[Nat.zero_add] at h1;exact h1
   · intro q m k e
     have:=HF4.out q m k e;omega
  refine rcE fun K hK=> ?_;go_simp;refine HBY.out.mono ?_;rintro e w9 ⟨v3,rfl,hv3,-,hb9⟩;have hb9':Below W.heap.size W w9:=⟨hb9.os,hb9.tape,hb9.output,hb9.size,hb9.block⟩;have HB9:=hZ hb9';have HV3:=hZ hv3;clear hb9 hb9' hv3;refine kk hK ((HSS.out _ HB9.out).2.1) (fun hHeld=> ?_);clear hK K;refine rd [0] ?_;refine rcE fun K hK=> ?_;have c0:=(HSS.out _ HB9.out).1;go_simp;clear c0;refine kk hK ((HSS.out _ HB9.out).2.1) (fun hHeld=> ?_);clear hK K;refine rd [4] ?_;refine rcE fun K hK=> ?_;go_simp;refine(HPL.out _ _ HB9.out HV3.out).mono ?_;rintro e w10 ⟨v4,rfl,hv4,hf4,hb10⟩;have HB10:=bTr HB9 hb10;have HV4:=hZ hv4;have HF4:=hZ (hf4.base (B':=W.heap.size) HB9.out.size);obtain⟨A4,c4,hv4e,-⟩:=hv4;obtain⟨n4,hn4⟩:=oQ ((ofN (0+a*b)).length);rw[hn4] at hv4e;subst hv4e;clear hf4 hb10 hn4;refine kk hK ((HSS.out _ HB10.out).2.1) (fun hHeld=> ?_);clear hK K;refine rd [5] ?_;refine rcE fun K hK=> ?_;have c0:=(HSS.out _ HB10.out).1;have f0:=(HSS.out _ HB10.out).2.2;go_simp;clear c0 f0;refine kk hK ((HSN.out _ _ HB10.out).1) (fun hHeld=> ?_);clear hK K;refine wpAnyH_done (by kernel_rfl) ?_ _;refine Tight.normal ?_;clear hHeld
  gi_wp2_with fail
  have ht:Turns (fun k=>k=b5) W (w10.setCell ⟨b5,0,none⟩ (.slice A4 n4 c4)):=(Turns.of_below HB10.out).trans (Turns.setCell (Z:=fun k=>k=b5) w10 ⟨b5,0,none⟩ _ rfl);have hbl:=HBL.out;have hw:=HW.out;refine⟨KeepsFrom.of_turns ht (fun k e=>by omega),KpB.of_turns ht ⟨by omega,by omega⟩ (fun q hq=>by have:=HA0.out q hq;exact⟨by omega,by omega⟩),.slice A4 n4 c4,?_⟩;rw[if_neg (by simp)];refine⟨ht.boxed HI.out.bl (by omega),(show Boxed w10 b5 _ _ from(HB10.out.block b5 HI.out.bo.lt).trans HI.out.bo).set _,?_,?_,ht.below HI.out.below (Nat.le_refl _) (fun k e=>by omega)⟩
  · have h1:=HV4.out.set HF4.out ⟨b5,0,none⟩ (by show b5<W.heap.size;omega) (.slice A4 n4 c4)
    rw[Nat.zero_add] at h1;exact h1
  · intro q m k e
    have:=HF4.out q m k e;omega
 case done=>
  rintro xs W hS ⟨vo,hI⟩ hK
  have hx:(if xs=[] then 0 else a*b)=a*b:=by
   split
   · rename_i hxs
     subst hxs
     have h0:l=[]:=by
      (have h1:(List.range l.length).reverse=[]:=by simpa using hS.symm);(have h2:l.length=0:=by simpa using h1);exact List.eq_nil_of_length_eq_zero h2
     rw[HZB.out h0,Nat.mul_zero]
   · rfl
  rw[hx] at hI;have c5:=hI.bo.cell;have HI:=hZ hI;have HKK:=hZ hK;obtain⟨Ao,co,hvo,-⟩:=HI.out.rd;obtain⟨no,hno⟩:=oQ ((ofN (a*b)).length);rw[hno] at hvo;subst hvo;have HS1:=hZ hs1;have HBW:Hid (w.heap.size≤b1):=hZ (by omega);clear hS hI hK hx hno hb2 hb5 hb1 hs1;go_wp2_with fail;refine⟨by simp,.inl ⟨_,_,rfl,run_takeDeferred HKK.out,?_⟩⟩;refine⟨_,results_tmp rfl _ _ _,_,rfl,HI.out.rd.putObj HKK.out _,?_,?_⟩
  · intro q m k e
    have h1:=HI.out.fr q m k e;have:=HBW.out;omega
  · exact(Turns.putObj (Z:=fun k=>k=W1.heap.size) W _ _ rfl).below HI.out.below (Nat.le_refl _) (fun k hk=>by have:=HBW.out;have:=HS1.out;omega)
 case stop=>
  rintro c pre W _ h _;exact h.elim
def sgv (p:Bool) (a:Nat):Int:=if p then -(a:Int) else(a:Int)
theorem sgv_abs (p:Bool) (a:Nat):(sgv p a).natAbs=a:=by unfold sgv;cases p<;>simp
def SPlusP (w:World) (x y:Int) (e:Ending) (w':World):Prop:=∃r m v,e=.returned (.agg #[.bool r,v])∧LsAt w' v (ofN m)∧sgv r m=x+y∧Below w.heap.size w w'
theorem LsAt.rowT {W V:World} {v:Value} {l:List Nat} {b:Nat} {x:Bool} {T:TypeId} (h:LsAt W v l) (t:Turns (fun k=>k=b) W V) (hb:W.heap[b]?=some (.cells #[.bool x,.slice none 0 0] T (0,0))):LsAt V v l:=by
 obtain⟨A,c,rfl,h1,h2,h3,h4⟩:=h;refine⟨A,c,rfl,h1,h2,h3,fun i z hz=> ?_⟩;obtain⟨a,rfl,hl,hc⟩:=h4 i z hz
 have hne:(a.add i).block≠b:=fun e=>by
  unfold World.cell? at hc;rw[e,hb] at hc;simp only at hc
  split at hc
  · cases hc
  · match (a.add i).off,hc with
    |0,hc=>simp[nv] at hc
    |1,hc=>simp[nv] at hc
    |n+2,hc=>simp at hc
 exact⟨a,rfl,Nat.lt_of_lt_of_le hl t.size,(t.cell (by rw[addr_add_block];exact hl) hne).trans hc⟩
theorem splus_walk (p q:Bool) (a b:Nat) (v1 v2:Value) (w:World) (h1:LsAt w v1 (ofN a)) (h2:LsAt w v2 (ofN b)) (ha:(ofN a).length≤900) (hb:(ofN b).length≤900):
 Calls Tryz.prog 216 #[.agg #[.bool p,v1],.agg #[.bool q,v2]] w (SPlusP w (sgv p a) (sgv q b)):=by
 have H1:=hZ h1;have H2:=hZ h2;have HL:=hZ (And.intro ha hb);obtain⟨A1,c1,hv1,-⟩:=h1;obtain⟨n1,hn1⟩:=oQ ((ofN a).length);rw[hn1] at hv1;subst hv1;obtain⟨A2,c2,hv2,-⟩:=h2;obtain⟨n2,hn2⟩:=oQ ((ofN b).length);rw[hn2] at hv2;subst hv2;obtain⟨s,hs⟩:=oQ ((p==q));have HF0:=hZ (At.start w);obtain⟨b2,w1,q1,q2,q3,hf1,hs1⟩:=HF0.out.alloc2 (.cells #[.bool p,.slice A1 n1 c1] 232);obtain⟨b3,w2,r1,r2,r3,hf2,hs2⟩:=hf1.alloc2 (.cells #[.bool q,.slice A2 n2 c2] 232);obtain⟨b4,w3,t1,t2,t3,hf3,hs3⟩:=hf2.alloc2 (.cells #[.bool false,.slice none 0 0] 232);have HQ:=hZ (And.intro q1 (And.intro q2 (And.intro (hs1.symm.trans r1) (And.intro r2 (And.intro (hs2.symm.trans t1) t2)))));have HF:=hZ hf3;have HLO:=hZ (And.intro t3 (show b2≠b4∧b3≠b4 by omega))
 have HCS:Hid (∀U,At w U [(b4,.cells #[.bool false,.slice none 0 0] 232 (0,0)),(b3,.cells #[.bool q,.slice A2 n2 c2] 232 (0,0)),(b2,.cells #[.bool p,.slice A1 n1 c1] 232 (0,0))]→U.cell? ⟨b2,0,none⟩=some (.bool p)∧U.cell? ⟨b2,1,none⟩=some (.slice A1 n1 c1)∧U.cell? ⟨b3,0,none⟩=some (.bool q)∧U.cell? ⟨b3,1,none⟩=some (.slice A2 n2 c2)):=hZ fun U h=>
  ⟨h.cell (b:=b2) (cs:=#[.bool p,.slice A1 n1 c1]) (t:=232) (by simp) (i:=0) rfl,h.cell (b:=b2) (cs:=#[.bool p,.slice A1 n1 c1]) (t:=232) (by simp) (i:=1) rfl,
    h.cell (b:=b3) (cs:=#[.bool q,.slice A2 n2 c2]) (t:=232) (by simp) (i:=0) rfl,h.cell (b:=b3) (cs:=#[.bool q,.slice A2 n2 c2]) (t:=232) (by simp) (i:=1) rfl⟩
 clear HF0 q1 q2 q3 hf1 hs1 r1 r2 r3 hf2 hs2 t1 t2 t3 hf3 hs3 hn1 hn2 ha hb;have HS:=hZ hs;cases s
 · have hpq:q= !p:=by cases p<;>cases q<;>simp at hs⊢
   have HPQ:=hZ hpq;clear hpq;obtain⟨z,hz⟩:=oQ (decide (b≤a));have HZ:=hZ hz;have HCM:=hZ (fun U (h:Below w.heap.size w U)=>compare_walk a b _ _ U (H1.out.below h) (H2.out.below h) (by have:=HL.out;omega) (by have:=HL.out;omega))
   have hcz:decide (0≤cmpI a b)=z:=by
    rw[←hz];unfold cmpI;congr 1;split
    · simp;omega
    · split<;>simp<;>omega
   obtain⟨cc,hcc⟩:=oQ (cmpI a b);unfold CmpQ at HCM;rw[hcc] at HCM hcz;clear hcc hz;cases z
   · go_enter Tryz.func216,Tryz.ntmps216
     go_wp2_with (first
      |(go_at_call 209;obtain⟨q1,q2,r1,r2,t1,t2⟩:=HQ.out;(rw[q1,q2,r1,r2,t1,t2]);clear q1 q2 r1 r2 t1 t2;refine(HCM.out _ HF.out.below).mono ?_;rintro e wc ⟨rfl,hbc⟩;have HF:=hZ (HF.out.step hbc);obtain⟨x1,x2,x3,x4⟩:=HCS.out _ HF.out;clear hbc HCM)
      |fail)
     obtain⟨q1,q2,r1,r2,t1,t2⟩:=HQ.out
     (try rw[q1]);(try rw[r1]);(try rw[t1])
     clear q1 q2 r1 r2 t1 t2;have HF:=hZ HF.out.drew;refine wp_region_noPanic ?_;refine wp_region_held_drew (S:=fun U=>U.cell? ⟨b2,0,none⟩=some (.bool p)∧U.cell? ⟨b2,1,none⟩=some (.slice A1 n1 c1)∧U.cell? ⟨b3,0,none⟩=some (.bool q)∧U.cell? ⟨b3,1,none⟩=some (.slice A2 n2 c2)) (by kernel_rfl) (HCS.out _ HF.out) (fun hHeld=> ?_);obtain⟨Ud,hUd⟩:=oQ (wc.drew);rw[hUd] at HF hHeld⊢;clear hUd;refine tk 0 ?_;refine tk 1 ?_;refine tk 2 ?_;refine tk 3 ?_;refine tk 4 ?_;refine tk 5 ?_;refine rd [6] ?_;refine rcE fun K hK=> ?_;go_simp;refine(minus_walk b a (by have:=HZ.out;simp at this;omega) _ _ _ (H2.out.below HF.out.below) (H1.out.below HF.out.below) (by have:=HL.out;omega)).mono ?_;rintro e W7 ⟨v7,rfl,hv7,-,hb7⟩;have HF:=hZ (HF.out.step hb7);have HV7:=hZ hv7;obtain⟨A7,c7,hve,-⟩:=hv7;obtain⟨n7,hn7⟩:=oQ ((ofN (b-a)).length);rw[hn7] at hve;subst hve;have H4:=hZ (HF.out.has (b4,.cells #[.bool false,.slice none 0 0] 232 (0,0)) (by simp));clear hn7 hb7;refine kk hK ((HCS.out _ HF.out)) (fun hHeld=> ?_);clear hK K;refine tk 7 ?_;refine rd [8] ?_;refine rcE fun K hK=> ?_;refine step_store_row (by rfl) 232 (.tmp 4) (.tmp 41) (by rfl) (by rfl) b4 #[.bool q,.slice A7 n7 c7] #[.bool false,.slice none 0 0] (by rfl) (by rfl) (by kernel_rfl) H4.out rfl (by simp[Value.oneCell']) ?_;intro V8 h8 ht8;have H8:=hZ h8;have HT8:=hZ ht8;have HS8:Hid (V8.cell? ⟨b2,0,none⟩=some (.bool p)∧V8.cell? ⟨b2,1,none⟩=some (.slice A1 n1 c1)∧V8.cell? ⟨b3,0,none⟩=some (.bool q)∧V8.cell? ⟨b3,1,none⟩=some (.slice A2 n2 c2)):=hZ (by have hl2:=HF.out.lt (b:=b2) (o:=.cells #[.bool p,.slice A1 n1 c1] 232 (0,0)) (by simp);have hl3:=HF.out.lt (b:=b3) (o:=.cells #[.bool q,.slice A2 n2 c2] 232 (0,0)) (by simp);obtain⟨k1,k2,k3,k4⟩:=HCS.out _ HF.out;exact⟨(ht8.cell (p:=⟨b2,0,none⟩) hl2 HLO.out.2.1).trans k1,(ht8.cell (p:=⟨b2,1,none⟩) hl2 HLO.out.2.1).trans k2,(ht8.cell (p:=⟨b3,0,none⟩) hl3 HLO.out.2.2).trans k3,(ht8.cell (p:=⟨b3,1,none⟩) hl3 HLO.out.2.2).trans k4⟩)
     clear h8 ht8;refine kk hK (HS8.out) (fun hHeld=> ?_);clear hK K;refine dn ?_;clear hHeld;go_wp2_with fail;have hLS:LsAt V8 (.slice A7 n7 c7) (ofN (b-a)):=LsAt.rowT HV7.out HT8.out H4.out;have hr9:=range_of (cs:=[.bool q,.slice A7 n7 c7]) H8.out;refine bodyPost_ret (results_cellN rfl _ _ b4 [.bool q,.slice A7 n7 c7] _ rfl hr9 Tryz.underlying232 rfl (by kernel_rfl)) rfl ?_;have hab:=HZ.out;have hpq:=HPQ.out;simp at hab;exact⟨q,_,_,rfl,hLS,by subst hpq;unfold sgv;cases p<;>simp<;>omega,HT8.out.below HF.out.below (Nat.le_refl _) (fun k hk=>by have:=HLO.out.1;omega)⟩
   · go_enter Tryz.func216,Tryz.ntmps216
     go_wp2_with (first
      |(go_at_call 209;obtain⟨q1,q2,r1,r2,t1,t2⟩:=HQ.out;(rw[q1,q2,r1,r2,t1,t2]);clear q1 q2 r1 r2 t1 t2;refine(HCM.out _ HF.out.below).mono ?_;rintro e wc ⟨rfl,hbc⟩;have HF:=hZ (HF.out.step hbc);obtain⟨x1,x2,x3,x4⟩:=HCS.out _ HF.out;clear hbc HCM)
      |fail)
     obtain⟨q1,q2,r1,r2,t1,t2⟩:=HQ.out
     (try rw[q1]);(try rw[r1]);(try rw[t1])
     clear q1 q2 r1 r2 t1 t2;have HF:=hZ HF.out.drew;refine wp_region_noPanic ?_;refine wp_region_held_drew (S:=fun U=>U.cell? ⟨b2,0,none⟩=some (.bool p)∧U.cell? ⟨b2,1,none⟩=some (.slice A1 n1 c1)∧U.cell? ⟨b3,0,none⟩=some (.bool q)∧U.cell? ⟨b3,1,none⟩=some (.slice A2 n2 c2)) (by kernel_rfl) (HCS.out _ HF.out) (fun hHeld=> ?_);obtain⟨Ud,hUd⟩:=oQ (wc.drew);rw[hUd] at HF hHeld⊢;clear hUd;refine tk 0 ?_;refine tk 1 ?_;refine tk 2 ?_;refine tk 3 ?_;refine tk 4 ?_;refine tk 5 ?_;refine rd [6] ?_;refine rcE fun K hK=> ?_;go_simp;refine(minus_walk a b (by have:=HZ.out;simp at this;omega) _ _ _ (H1.out.below HF.out.below) (H2.out.below HF.out.below) (by have:=HL.out;omega)).mono ?_;rintro e W7 ⟨v7,rfl,hv7,-,hb7⟩;have HF:=hZ (HF.out.step hb7);have HV7:=hZ hv7;obtain⟨A7,c7,hve,-⟩:=hv7;obtain⟨n7,hn7⟩:=oQ ((ofN (a-b)).length);rw[hn7] at hve;subst hve;have H4:=hZ (HF.out.has (b4,.cells #[.bool false,.slice none 0 0] 232 (0,0)) (by simp));clear hn7 hb7;refine kk hK ((HCS.out _ HF.out)) (fun hHeld=> ?_);clear hK K;refine tk 7 ?_;refine rd [8] ?_;refine rcE fun K hK=> ?_;refine step_store_row (by rfl) 232 (.tmp 4) (.tmp 33) (by rfl) (by rfl) b4 #[.bool p,.slice A7 n7 c7] #[.bool false,.slice none 0 0] (by rfl) (by rfl) (by kernel_rfl) H4.out rfl (by simp[Value.oneCell']) ?_;intro V8 h8 ht8;have H8:=hZ h8;have HT8:=hZ ht8;have HS8:Hid (V8.cell? ⟨b2,0,none⟩=some (.bool p)∧V8.cell? ⟨b2,1,none⟩=some (.slice A1 n1 c1)∧V8.cell? ⟨b3,0,none⟩=some (.bool q)∧V8.cell? ⟨b3,1,none⟩=some (.slice A2 n2 c2)):=hZ (by have hl2:=HF.out.lt (b:=b2) (o:=.cells #[.bool p,.slice A1 n1 c1] 232 (0,0)) (by simp);have hl3:=HF.out.lt (b:=b3) (o:=.cells #[.bool q,.slice A2 n2 c2] 232 (0,0)) (by simp);obtain⟨k1,k2,k3,k4⟩:=HCS.out _ HF.out;exact⟨(ht8.cell (p:=⟨b2,0,none⟩) hl2 HLO.out.2.1).trans k1,(ht8.cell (p:=⟨b2,1,none⟩) hl2 HLO.out.2.1).trans k2,(ht8.cell (p:=⟨b3,0,none⟩) hl3 HLO.out.2.2).trans k3,(ht8.cell (p:=⟨b3,1,none⟩) hl3 HLO.out.2.2).trans k4⟩)
     clear h8 ht8;refine kk hK (HS8.out) (fun hHeld=> ?_);clear hK K;refine dn ?_;clear hHeld;go_wp2_with fail;have hLS:LsAt V8 (.slice A7 n7 c7) (ofN (a-b)):=LsAt.rowT HV7.out HT8.out H4.out;have hr9:=range_of (cs:=[.bool p,.slice A7 n7 c7]) H8.out;refine bodyPost_ret (results_cellN rfl _ _ b4 [.bool p,.slice A7 n7 c7] _ rfl hr9 Tryz.underlying232 rfl (by kernel_rfl)) rfl ?_;have hab:=HZ.out;have hpq:=HPQ.out;simp at hab;exact⟨p,_,_,rfl,hLS,by subst hpq;unfold sgv;cases p<;>simp<;>omega,HT8.out.below HF.out.below (Nat.le_refl _) (fun k hk=>by have:=HLO.out.1;omega)⟩
 · obtain rfl:p=q:=by simpa using hs
   clear hs
   go_enter Tryz.func216,Tryz.ntmps216
   go_wp2_with fail;obtain⟨q1,q2,r1,r2,t1,t2⟩:=HQ.out;rw[q1,q2,r1,r2,t1,t2];clear q1 q2 r1 r2 t1 t2;have HF:=hZ HF.out.drew;refine wp_region_noPanic ?_;refine wp_region_held_drew (S:=fun U=>U.cell? ⟨b2,0,none⟩=some (.bool p)∧U.cell? ⟨b2,1,none⟩=some (.slice A1 n1 c1)∧U.cell? ⟨b3,0,none⟩=some (.bool p)∧U.cell? ⟨b3,1,none⟩=some (.slice A2 n2 c2)) (by kernel_rfl) (HCS.out _ HF.out) (fun hHeld=> ?_);obtain⟨Ud,hUd⟩:=oQ (w3.drew);rw[hUd] at HF hHeld⊢;clear hUd;refine tk 0 ?_;refine tk 1 ?_;refine tk 2 ?_;refine tk 3 ?_;refine tk 4 ?_;refine tk 5 ?_;refine rd [6] ?_;refine rcE fun K hK=> ?_;go_simp;refine(plus_walk a b _ _ _ (H1.out.below HF.out.below) (H2.out.below HF.out.below) (by have:=HL.out;omega) (by have:=HL.out;omega)).mono ?_;rintro e W7 ⟨v7,rfl,hv7,-,hb7⟩;have HF:=hZ (HF.out.step hb7);have HV7:=hZ hv7;obtain⟨A7,c7,hve,-⟩:=hv7;obtain⟨n7,hn7⟩:=oQ ((ofN (a+b)).length);rw[hn7] at hve;subst hve;have H4:=hZ (HF.out.has (b4,.cells #[.bool false,.slice none 0 0] 232 (0,0)) (by simp));clear hn7 hb7;refine kk hK ((HCS.out _ HF.out)) (fun hHeld=> ?_);clear hK K;refine tk 7 ?_;refine rd [8] ?_;refine rcE fun K hK=> ?_;refine step_store_row (by rfl) 232 (.tmp 4) (.tmp 18) (by rfl) (by rfl) b4 #[.bool p,.slice A7 n7 c7] #[.bool false,.slice none 0 0] (by rfl) (by rfl) (by kernel_rfl) H4.out rfl (by simp[Value.oneCell']) ?_;intro V8 h8 ht8;have H8:=hZ h8;have HT8:=hZ ht8;have HS8:Hid (V8.cell? ⟨b2,0,none⟩=some (.bool p)∧V8.cell? ⟨b2,1,none⟩=some (.slice A1 n1 c1)∧V8.cell? ⟨b3,0,none⟩=some (.bool p)∧V8.cell? ⟨b3,1,none⟩=some (.slice A2 n2 c2)):=hZ (by have hl2:=HF.out.lt (b:=b2) (o:=.cells #[.bool p,.slice A1 n1 c1] 232 (0,0)) (by simp);have hl3:=HF.out.lt (b:=b3) (o:=.cells #[.bool p,.slice A2 n2 c2] 232 (0,0)) (by simp);obtain⟨k1,k2,k3,k4⟩:=HCS.out _ HF.out;exact⟨(ht8.cell (p:=⟨b2,0,none⟩) hl2 HLO.out.2.1).trans k1,(ht8.cell (p:=⟨b2,1,none⟩) hl2 HLO.out.2.1).trans k2,(ht8.cell (p:=⟨b3,0,none⟩) hl3 HLO.out.2.2).trans k3,(ht8.cell (p:=⟨b3,1,none⟩) hl3 HLO.out.2.2).trans k4⟩)
   clear h8 ht8;refine kk hK (HS8.out) (fun hHeld=> ?_);clear hK K;refine dn ?_;clear hHeld;go_wp2_with fail;have hLS:LsAt V8 (.slice A7 n7 c7) (ofN (a+b)):=LsAt.rowT HV7.out HT8.out H4.out;have hr9:=range_of (cs:=[.bool p,.slice A7 n7 c7]) H8.out;refine bodyPost_ret (results_cellN rfl _ _ b4 [.bool p,.slice A7 n7 c7] _ rfl hr9 Tryz.underlying232 rfl (by kernel_rfl)) rfl ?_;exact⟨p,_,_,rfl,hLS,by unfold sgv;cases p<;>simp<;>omega,HT8.out.below HF.out.below (Nat.le_refl _) (fun k hk=>by have:=HLO.out.1;omega)⟩
def iT (x:Int):ByteArray:=⟨(intS x).toArray⟩
theorem sg_text {r:Bool} {m:Nat} {z:Int} (h:sgv r m=z):sgT r m=intS z:=by rw[sgT_int,←h];rfl
theorem sg_len {r:Bool} {m:Nat} {z:Int} (h:sgv r m=z) (hl:(decS z.natAbs).length≤200):(decS m).length≤200:=by
 have:z.natAbs=m:=by rw[←h,sgv_abs]
 rwa[this] at hl
theorem sgv_of (x:Int):sgv (decide (x<0)) x.natAbs=x:=by
 unfold sgv
 by_cases h:x<0
 · rw[if_pos (by simpa using h)];omega
 · rw[if_neg (by simpa using h)];omega
theorem sgv_not (x:Int):sgv (!decide (x<0)) x.natAbs=-x:=by
 unfold sgv
 by_cases h:x<0
 · rw[if_neg (by simpa using h)];omega
 · rw[if_pos (by simpa using h)];omega
def ITxt (z:Int) (w:World) (e:Ending) (w':World):Prop:=e=.returned (.tuple #[.string (iT z),.int .i64 0])∧Below w.heap.size w w'
theorem iadd_walk (s t:ByteArray) (hs:s.size≤1000000) (ht:t.size≤1000000) (h1:validI s.data.toList=true) (h2:validI t.data.toList=true) (hl:(decS (valI s.data.toList+valI t.data.toList).natAbs).length≤200) (w:World) (hp:Pow10 w):
 Calls Tryz.prog 149 #[.string s,.string t] w (ITxt (valI s.data.toList+valI t.data.toList) w):=by
 have HB:=hZ (both_yes s t hs ht h1 h2 w);have hl1:=val_len h1;have hl2:=val_len h2;unfold BothYes at HB;have hx':=sgv_of (valI s.data.toList);have hy':=sgv_of (valI t.data.toList);obtain⟨p,hpx⟩:=oQ (decide (valI s.data.toList<0));obtain⟨q,hqx⟩:=oQ (decide (valI t.data.toList<0));obtain⟨x,hx⟩:=oQ ((valI s.data.toList).natAbs);obtain⟨y,hy⟩:=oQ ((valI t.data.toList).natAbs);obtain⟨z,hz⟩:=oQ (valI s.data.toList+valI t.data.toList);rw[hpx,hx] at hx';rw[hqx,hy] at hy';rw[hpx,hqx,hx,hy] at HB;rw[hx] at hl1;rw[hy] at hl2;rw[hz] at hl⊢;have HSP:Hid (∀u v W,LsAt W u (ofN x)→LsAt W v (ofN y)→Calls Tryz.prog 216 #[.agg #[.bool p,u],.agg #[.bool q,v]] W (SPlusP W (sgv p x) (sgv q y))):=hZ fun u v W hu hv=>splus_walk p q x y u v W hu hv (by omega) (by omega);rw[hx',hy'] at HSP;unfold SPlusP at HSP;rw[hz] at HSP;have HL:=hZ hl;have HP:=hZ hp;clear h1 h2 hx hy hpx hqx hx' hy' hz hl1 hl2 hl hp
 go_enter Tryz.func149,Tryz.ntmps149
 go_wp2_with (first
  | (go_at_call 203;(with_reducible refine HB.out.mono ?_);rintro e w1 ⟨u,v,rfl,hu,hv,hb1⟩;have HU:=hZ hu;have HV:=hZ hv;obtain⟨A1,c1,hue,-⟩:=hu;obtain⟨n1,hn1⟩:=oQ ((ofN x).length);rw[hn1] at hue;subst hue;clear hn1;obtain⟨A2,c2,hve,-⟩:=hv;obtain⟨n2,hn2⟩:=oQ ((ofN y).length);rw[hn2] at hve;subst hve
     obtain⟨k1,k2,k3,k4⟩:=two_boxes w1 #[.bool p,.slice A1 n1 c1] #[.bool q,.slice A2 n2 c2] 232 232;have HB1:=hZ (hb1.trans (k4.mono hb1.size));have HUW:=hZ (HU.out.below k4);have HVW:=hZ (HV.out.below k4)
     clear hn2 hb1 k1 k2 k3 k4)
  | (go_at_call 216;(refine(HSP.out _ _ _ HUW.out HVW.out).mono ?_);rintro e w2 ⟨r,m,v,rfl,hv,hm,hb2⟩
     have HB2:=bTr HB1 hb2;have HV2:=hZ hv;have HM:=hZ hm;obtain⟨A3,c3,hve,-⟩:=hv;obtain⟨n3,hn3⟩:=oQ ((ofN m).length);rw[hn3] at hve;subst hve
     clear hb2 hm hn3)
  | (go_at_call 208;(with_reducible refine(text_sg r m _ _ HV2.out (sg_len HM.out HL.out) (HP.out.below HB2.out)).mono ?_);rintro e w5 ⟨rfl,hb5⟩
     rw[sg_text HM.out];have HB5:=bTr HB2 hb5
     clear hb5)
  |fail)
 refine bodyPost_ret (v:=.tuple #[.string (iT z),.int .i64 0]) (by simp[results,iT]) rfl ⟨rfl,HB5.out⟩
theorem isub_walk (s t:ByteArray) (hs:s.size≤1000000) (ht:t.size≤1000000) (h1:validI s.data.toList=true) (h2:validI t.data.toList=true) (hl:(decS (valI s.data.toList-valI t.data.toList).natAbs).length≤200) (w:World) (hp:Pow10 w):
 Calls Tryz.prog 148 #[.string s,.string t] w (ITxt (valI s.data.toList-valI t.data.toList) w):=by
 have HB:=hZ (both_yes s t hs ht h1 h2 w);have hl1:=val_len h1;have hl2:=val_len h2;unfold BothYes at HB;have hx':=sgv_of (valI s.data.toList);have hy':=sgv_not (valI t.data.toList);obtain⟨p,hpx⟩:=oQ (decide (valI s.data.toList<0));obtain⟨q,hqx⟩:=oQ (decide (valI t.data.toList<0));obtain⟨x,hx⟩:=oQ ((valI s.data.toList).natAbs);obtain⟨y,hy⟩:=oQ ((valI t.data.toList).natAbs);obtain⟨z,hz⟩:=oQ (valI s.data.toList-valI t.data.toList);rw[hpx,hx] at hx';rw[hqx,hy] at hy';rw[hpx,hqx,hx,hy] at HB;rw[hx] at hl1;rw[hy] at hl2;rw[hz] at hl⊢;have HSP:Hid (∀u v W,LsAt W u (ofN x)→LsAt W v (ofN y)→Calls Tryz.prog 216 #[.agg #[.bool p,u],.agg #[.bool (!q),v]] W (SPlusP W (sgv p x) (sgv (!q) y))):=hZ fun u v W hu hv=>splus_walk p (!q) x y u v W hu hv (by omega) (by omega);rw[hx',hy'] at HSP;unfold SPlusP at HSP;rw[←Int.sub_eq_add_neg] at HSP;rw[hz] at HSP;have HL:=hZ hl;have HP:=hZ hp;clear h1 h2 hx hy hpx hqx hx' hy' hz hl1 hl2 hl hp
 go_enter Tryz.func148,Tryz.ntmps148
 go_wp2_with (first
  | (go_at_call 203;(with_reducible refine HB.out.mono ?_);rintro e w1 ⟨u,v,rfl,hu,hv,hb1⟩;have HU:=hZ hu;have HV:=hZ hv;obtain⟨A1,c1,hue,-⟩:=hu;obtain⟨n1,hn1⟩:=oQ ((ofN x).length);rw[hn1] at hue;subst hue;clear hn1;obtain⟨A2,c2,hve,-⟩:=hv;obtain⟨n2,hn2⟩:=oQ ((ofN y).length);rw[hn2] at hve;subst hve
     obtain⟨k1,k2,k3,k4⟩:=two_boxes w1 #[.bool p,.slice A1 n1 c1] #[.bool (!q),.slice A2 n2 c2] 232 232;have HB1:=hZ (hb1.trans (k4.mono hb1.size));have HUW:=hZ (HU.out.below k4);have HVW:=hZ (HV.out.below k4)
     clear hn2 hb1 k1 k2 k3 k4)
  | (go_at_call 216;(refine(HSP.out _ _ _ HUW.out HVW.out).mono ?_);rintro e w2 ⟨r,m,v,rfl,hv,hm,hb2⟩
     have HB2:=bTr HB1 hb2;have HV2:=hZ hv;have HM:=hZ hm;obtain⟨A3,c3,hve,-⟩:=hv;obtain⟨n3,hn3⟩:=oQ ((ofN m).length);rw[hn3] at hve;subst hve
     clear hb2 hm hn3)
  | (go_at_call 208;(with_reducible refine(text_sg r m _ _ HV2.out (sg_len HM.out HL.out) (HP.out.below HB2.out)).mono ?_);rintro e w5 ⟨rfl,hb5⟩
     rw[sg_text HM.out];have HB5:=bTr HB2 hb5
     clear hb5)
  |fail)
 refine bodyPost_ret (v:=.tuple #[.string (iT z),.int .i64 0]) (by simp[results,iT]) rfl ⟨rfl,HB5.out⟩
theorem imul_walk (s t:ByteArray) (hs:s.size≤1000000) (ht:t.size≤1000000) (h1:validI s.data.toList=true) (h2:validI t.data.toList=true) (hy0:(valI t.data.toList).natAbs<10000) (hl:(decS (valI s.data.toList*valI t.data.toList).natAbs).length≤200) (w:World) (hp:Pow10 w):
 Calls Tryz.prog 255 #[.string s,.string t] w (ITxt (valI s.data.toList*valI t.data.toList) w):=by
 have HB:=hZ (both_yes s t hs ht h1 h2 w);have hl1:=val_len h1;have hl2:=val_len h2;unfold BothYes at HB;have hx':=sgv_of (valI s.data.toList);have hy':=sgv_of (valI t.data.toList);obtain⟨p,hpx⟩:=oQ (decide (valI s.data.toList<0));obtain⟨q,hqx⟩:=oQ (decide (valI t.data.toList<0));obtain⟨x,hx⟩:=oQ ((valI s.data.toList).natAbs);obtain⟨y,hy⟩:=oQ ((valI t.data.toList).natAbs);obtain⟨z,hz⟩:=oQ (valI s.data.toList*valI t.data.toList);rw[hpx,hx] at hx';rw[hqx,hy] at hy';rw[hpx,hqx,hx,hy] at HB;rw[hx] at hl1;rw[hy] at hl2;rw[hz] at hl⊢;rw[hy] at hy0;obtain⟨r,hr⟩:=oQ ((!p==q))
 have HM:Hid (sgv r (x*y)=z):=hZ (by
  rw[←hz,←hx',←hy',←hr];unfold sgv
  cases p<;>cases q<;>simp[Int.neg_mul,Int.mul_neg])
 have HTM:Hid (∀u v W,LsAt W u (ofN x)→LsAt W v (ofN y)→Calls Tryz.prog 271 #[u,v] W (NumP W (x*y))):=hZ fun u v W hu hv=>times_walk x y hy0 u v W hu hv (by omega);have HL:=hZ hl;have HP:=hZ hp;clear h1 h2 hx hy hpx hqx hx' hy' hz hl1 hl2 hl hp hy0
 go_enter Tryz.func255,Tryz.ntmps255
 go_wp2_with (first
  | (go_at_call 203;(with_reducible refine HB.out.mono ?_);rintro e w1 ⟨u,v,rfl,hu,hv,hb1⟩;have HU:=hZ hu;have HV:=hZ hv;obtain⟨A1,c1,hue,-⟩:=hu;obtain⟨n1,hn1⟩:=oQ ((ofN x).length);rw[hn1] at hue;subst hue;clear hn1;obtain⟨A2,c2,hve,-⟩:=hv;obtain⟨n2,hn2⟩:=oQ ((ofN y).length);rw[hn2] at hve;subst hve
     obtain⟨k1,k2,k3,k4⟩:=two_boxes w1 #[.bool p,.slice A1 n1 c1] #[.bool q,.slice A2 n2 c2] 232 232;have HT:=hZ (show TwoV w1.heap.size 232 232 (.bool p) (.slice A1 n1 c1) (.bool q) (.slice A2 n2 c2) _ from⟨k1,k2⟩);have HB1:=hZ (hb1.trans (k4.mono hb1.size));have HUW:=hZ (HU.out.below k4);have HVW:=hZ (HV.out.below k4)
     clear hn2 hb1 k1 k2 k3 k4)
  |fail)
 obtain⟨Ud,hUd⟩:=oQ (((w1.alloc (.cells #[.bool p,.slice A1 n1 c1] 232)).alloc (.cells #[.bool q,.slice A2 n2 c2] 232)).drew);have hTd:TwoV w1.heap.size 232 232 (.bool p) (.slice A1 n1 c1) (.bool q) (.slice A2 n2 c2) Ud:=by rw[←hUd];exact HT.out
 have HBd:Hid (Below w.heap.size w Ud):=hZ (by rw[←hUd];exact Below.drew HB1.out);have HUd:Hid (LsAt Ud (.slice A1 n1 c1) (ofN x)):=hZ (by rw[←hUd];exact LsAt.drewN HUW.out 1);have HVd:Hid (LsAt Ud (.slice A2 n2 c2) (ofN y)):=hZ (by rw[←hUd];exact LsAt.drewN HVW.out 1);have HTd:=hZ hTd;clear hTd;refine wp_region_noPanic ?_;refine wp_region_held_drew (S:=fun U=>U.cell? ⟨w1.heap.size,0,none⟩=some (.bool p)∧U.cell? ⟨w1.heap.size,1,none⟩=some (.slice A1 n1 c1)∧U.cell? ⟨w1.heap.size+1,0,none⟩=some (.bool q)∧U.cell? ⟨w1.heap.size+1,1,none⟩=some (.slice A2 n2 c2)) (by kernel_rfl) (by rw[hUd];exact HTd.out.facts.1) (fun hHeld=> ?_);rw[hUd] at hHeld⊢;clear hUd;refine tk 0 ?_;refine tk 1 ?_;refine tk 2 ?_;refine tk 3 ?_;refine tk 4 ?_;refine tk 5 ?_;refine tk 6 ?_;refine tk 7 ?_;refine tk 8 ?_;refine rd [9] ?_;refine rcE fun K hK=> ?_;go_simp
 (with_reducible refine(HTM.out _ _ _ HUd.out HVd.out).mono ?_)
 rintro e W7 ⟨v7,rfl,hv7,-,hb7⟩;have HB7:=bTr HBd hb7;have HT7:=hZ (HTd.out.below hb7);have HV7:=hZ hv7;obtain⟨A7,c7,hve,-⟩:=hv7;obtain⟨n7,hn7⟩:=oQ ((ofN (x*y)).length);rw[hn7] at hve;subst hve;clear hn7 hb7;refine kk hK (HT7.out.facts.1) (fun hHeld=> ?_);clear hK K;refine tk 10 ?_;refine rd [11] ?_;refine rcE fun K hK=> ?_;go_simp
 (with_reducible refine(text_sg r (x*y) _ _ HV7.out (sg_len HM.out HL.out) (HP.out.below HB7.out)).mono ?_)
 rintro e W8 ⟨rfl,hb8⟩;rw[sg_text HM.out];have HB8:=bTr HB7 hb8;have HT8:=hZ (HT7.out.below hb8);clear hb8;refine kk hK (HT8.out.facts.1) (fun hHeld=> ?_);clear hK K;refine tk 12 ?_;refine tk 13 ?_;refine tk 14 ?_;refine tk 15 ?_;refine dn ?_;clear hHeld;go_wp2_with fail;refine bodyPost_ret (v:=.tuple #[.string (iT z),.int .i64 0]) (by simp[results,iT]) rfl ⟨rfl,HB8.out⟩
theorem fromInt_walk (n:Nat) (hn:n≤1000000000) (w:World) (hp:Pow10 w):Calls Tryz.prog 211 #[.int .i64 (n:Int)] w fun e w'=>e=.returned (.string (iT n))∧Below w.heap.size w w':=by
 have hit:=Tryz.strconv_Itoa (n:Int) (by omega) (by omega) w hp;rw[itoa_nat] at hit;have e1:(⟨(decS n).toArray⟩:ByteArray)=iT n:=by unfold iT intS;rw[if_neg (by omega)];rfl
 rw[e1] at hit;have HI:=hZ hit;clear hit e1
 go_enter Tryz.func211,Tryz.ntmps211
 go_wp2_with (first
  |(go_at_call 253;refine HI.out.mono ?_;rintro e w1 ⟨rfl,k,os,rfl⟩)
  |fail)
 go_ret;exact⟨rfl,Lib.below_grow _ _ (Nat.le_refl _) _ _⟩
end Go.Proofs.YteeifhlhpiimoaaGreatDoor
end
section
namespace Go.Proofs.YteeifhlhpiimoaaGreatDoor
open Go Go.RowKit Go.Shelf
abbrev Sml (z:Int):Prop:=z.natAbs<1000000000000000000
theorem iT_list (z:Int):(iT z).data.toList=intS z:=by simp[iT]
theorem dec18 {n:Nat} (h:n<1000000000000000000):(decS n).length≤200:=Nat.le_trans (decS_len 18 n (by decide) (by simpa using h)) (by decide)
theorem iT_valid {z:Int} (h:Sml z):validI (iT z).data.toList=true∧valI (iT z).data.toList=z:=by rw[iT_list];exact text_valid (dec18 h)
theorem iT_size {z:Int} (h:Sml z):(iT z).size≤1000000:=by
 have e:(iT z).size=(intS z).length:=by simp[iT,ByteArray.size]
 have:=dec18 h;rw[e];unfold intS
 split<;>simp<;>omega
theorem iT_nat (n:Nat):(⟨(decS n).toArray⟩:ByteArray)=iT n:=by unfold iT intS;rw[if_neg (by omega)];rfl
def nZ (x:Int) (y:Nat):Int:=x/((Nat.gcd x.natAbs y:Nat):Int)
def dZ (x:Int) (y:Nat):Nat:=y/Nat.gcd x.natAbs y
abbrev rT (x:Int) (y:Nat):Value:=.agg #[.string (iT (nZ x y)),.string (iT (dZ x y))]
theorem nZ_mul (x:Int) (y:Nat):nZ x y*((Nat.gcd x.natAbs y:Nat):Int)=x:=by
 unfold nZ;exact Int.ediv_mul_cancel (Int.natAbs_dvd_natAbs.1 (by simpa using Nat.gcd_dvd_left x.natAbs y))
theorem dZ_mul (x:Int) (y:Nat):dZ x y*Nat.gcd x.natAbs y=y:=Nat.div_mul_cancel (Nat.gcd_dvd_right _ _)
theorem gcd_pos' {x:Int} {y:Nat} (hy:0<y):0<Nat.gcd x.natAbs y:=Nat.gcd_pos_of_pos_right _ hy
theorem dZ_pos {x:Int} {y:Nat} (hy:0<y):0<dZ x y:=Nat.div_pos (Nat.le_of_dvd hy (Nat.gcd_dvd_right _ _)) (gcd_pos' hy)
theorem dZ_le (x:Int) (y:Nat):dZ x y≤y:=Nat.div_le_self _ _
theorem nZ_abs {x:Int} {y:Nat} (hy:0<y):(nZ x y).natAbs=x.natAbs/Nat.gcd x.natAbs y:=by
 have h:=congrArg Int.natAbs (nZ_mul x y);rw[Int.natAbs_mul,Int.natAbs_natCast] at h;exact(Nat.div_eq_of_eq_mul_left (gcd_pos' hy) h.symm).symm
theorem nZ_le {x:Int} {y:Nat} (hy:0<y):(nZ x y).natAbs≤x.natAbs:=by rw[nZ_abs hy];exact Nat.div_le_self _ _
theorem nZ_sgn {x:Int} {y:Nat} (hy:0<y):sgv (decide (x<0)) (x.natAbs/Nat.gcd x.natAbs y)=nZ x y:=by
 rw[←nZ_abs hy];have h1:=nZ_mul x y;have hg:(0:Int)<((Nat.gcd x.natAbs y:Nat):Int):=by have:=gcd_pos' (x:=x) hy;omega
 unfold sgv
 by_cases hx:x<0
 · have:nZ x y<0:=by
    rcases Int.lt_or_le (nZ x y) 0 with h|h
    · exact h
    · have:=Int.mul_nonneg h (Int.le_of_lt hg);omega
   simp only[hx,decide_true,if_true];omega
 · have:0≤nZ x y:=by
    rcases Int.lt_or_le (nZ x y) 0 with h|h
    · have:=Int.mul_neg_of_neg_of_pos h hg;omega
    · exact h
   simp only[hx,decide_false,Bool.false_eq_true,if_false];omega
theorem nd_coprime {x:Int} {y:Nat} (hy:0<y):Nat.gcd (nZ x y).natAbs (dZ x y)=1:=by
 rw[nZ_abs hy,dZ,Nat.gcd_div (Nat.gcd_dvd_left _ _) (Nat.gcd_dvd_right _ _)];exact Nat.div_self (gcd_pos' hy)
theorem nd_cross {x:Int} {y:Nat}:nZ x y*y=x*dZ x y:=by
 have h1:=nZ_mul x y;have h2:((dZ x y:Nat):Int)*((Nat.gcd x.natAbs y:Nat):Int)=y:=by exact_mod_cast dZ_mul x y
 calc nZ x y*y=nZ x y*(((dZ x y:Nat):Int)*((Nat.gcd x.natAbs y:Nat):Int)):=by rw[h2]
  _=(nZ x y*((Nat.gcd x.natAbs y:Nat):Int))*dZ x y:=by rw[Int.mul_comm (dZ x y:Int),Int.mul_assoc]
  _=x*dZ x y:=by rw[h1]
theorem red_unique {a c:Int} {b d:Nat} (hb:0<b) (hd:0<d) (h1:Nat.gcd a.natAbs b=1) (h2:Nat.gcd c.natAbs d=1) (h:a*d=c*b):a=c∧b=d:=by
 have h3:a.natAbs*d=c.natAbs*b:=by
  have:=congrArg Int.natAbs h
  rwa[Int.natAbs_mul,Int.natAbs_mul,Int.natAbs_natCast,Int.natAbs_natCast] at this
 have hbd:b∣d:=(Nat.Coprime.dvd_of_dvd_mul_left (k:=b) (m:=a.natAbs) (n:=d) (by rw[Nat.Coprime,Nat.gcd_comm];exact h1) ⟨c.natAbs,by rw[h3,Nat.mul_comm]⟩);have hdb:d∣b:=(Nat.Coprime.dvd_of_dvd_mul_left (k:=d) (m:=c.natAbs) (n:=b) (by rw[Nat.Coprime,Nat.gcd_comm];exact h2) ⟨a.natAbs,by rw[←h3,Nat.mul_comm]⟩);have e:=Nat.dvd_antisymm hbd hdb;subst e;exact⟨Int.eq_of_mul_eq_mul_right (by omega) h,rfl⟩
theorem nd_eq {x x':Int} {y y':Nat} (hy:0<y) (hy':0<y') (h:x*y'=x'*y):nZ x y=nZ x' y'∧dZ x y=dZ x' y':=by
 refine red_unique (dZ_pos hy) (dZ_pos hy') (nd_coprime hy) (nd_coprime hy') ?_;have h1:=nd_cross (x:=x) (y:=y);have h2:=nd_cross (x:=x') (y:=y');have hyy:(0:Int)<(y:Int)*y':=Int.mul_pos (by omega) (by omega);refine Int.eq_of_mul_eq_mul_right (a:=(y:Int)*y') (by omega) ?_
 calc nZ x y*dZ x' y'*(y*y')=(nZ x y*y)*(dZ x' y'*y'):=by rw[Int.mul_assoc,Int.mul_assoc];congr 1;rw[Int.mul_left_comm]
  _=(x*dZ x y)*(dZ x' y'*y'):=by rw[h1]
  _=(x*y')*(dZ x' y'*dZ x y):=by rw[Int.mul_assoc,Int.mul_assoc];congr 1;rw[Int.mul_comm (dZ x' y':Int) y',Int.mul_left_comm,Int.mul_comm (dZ x y:Int)]
  _=(x'*y)*(dZ x' y'*dZ x y):=by rw[h]
  _=(x'*dZ x' y')*(dZ x y*y):=by rw[Int.mul_assoc,Int.mul_assoc];congr 1;rw[Int.mul_left_comm,Int.mul_comm (y:Int)]
  _=(nZ x' y'*y')*(dZ x y*y):=by rw[h2]
  _=nZ x' y'*dZ x y*(y*y'):=by rw[Int.mul_assoc,Int.mul_assoc];congr 1;rw[Int.mul_left_comm,Int.mul_comm (y':Int)]
theorem rT_eq {x x':Int} {y y':Nat} (hy:0<y) (hy':0<y') (h:x*y'=x'*y):rT x y=rT x' y':=by
 obtain⟨h1,h2⟩:=nd_eq hy hy' h;unfold rT;rw[h1,h2]
theorem rat_ok' {x:Int} {y:Nat} (hy:0<y) (hx:Sml x) (hy2:Sml (y:Int)):ratOk (iT (nZ x y)).data.toList (iT (dZ x y)).data.toList=true:=by
 have a1:=nZ_le (x:=x) hy;have a2:=dZ_le x y;have v1:=iT_valid (z:=nZ x y) (by unfold Sml at*;omega);have v2:=iT_valid (z:=((dZ x y:Nat):Int)) (by unfold Sml at*;omega);have h3:=dZ_pos (x:=x) hy;unfold ratOk;rw[v1.1,v1.2,v2.1,v2.2,Int.natAbs_natCast];simp only[Bool.true_and,Bool.and_eq_true,decide_eq_true_eq];exact⟨by omega,nd_coprime hy⟩
end Go.Proofs.YteeifhlhpiimoaaGreatDoor
end
section
namespace Go.Proofs.YteeifhlhpiimoaaGreatDoor
theorem id_step (y:Six) (k f:Nat) {e:Ent} (h:0≤e.id∧e.id≤9):0≤(stepE y k f e).id∧(stepE y k f e).id≤9:=by
 unfold stepE
 split
 · have:=pickZ_range y.y3 (n:=9) (by omega)
   show 0≤1+pickZ y.y3 9∧1+pickZ y.y3 9≤9;omega
 all_goals first|exact h|(unfold setE;split<;>first|exact h|contradiction)
theorem id_fold (y:Six):∀(fs:List Nat) (k:Nat) (e:Ent),(0≤e.id∧e.id≤9)→0≤(foldE y k fs e).id∧(foldE y k fs e).id≤9
 |[],_,_,h=>h
 |f::fs,k,_,h=>id_fold y fs (k+1) _ (id_step y k f h)
theorem some_id (y:Six):0≤(someE y).id∧(someE y).id≤9:=id_fold y _ 0 _ ⟨by show(0:Int)≤0;omega,by show(0:Int)≤9;omega⟩
theorem asc_few:∀(l:List Int) (a n:Nat),l.Pairwise (· < ·)→(∀x∈l,(a:Int)≤x∧x<(a:Int)+n)→l.length≤n
 |[],_,_,_,_=>Nat.zero_le _
 | x::l,a,n,h,hb=>by
   obtain⟨h1,h2⟩:=List.pairwise_cons.1 h;have hx:=hb x (List.mem_cons_self ..)
   have:=asc_few l (x.toNat+1) (a+n-(x.toNat+1)) h2 fun z hz=>by
    have h3:=h1 z hz;have h4:=hb z (List.mem_cons_of_mem _ hz);omega
   rw[List.length_cons];omega
theorem known_up (l:List Ent) (d:Int) (j:Nat):(knownL l d j).Pairwise fun a b=>numE a<numE b:=by
 have ha:Apart (byNum numE) ((effD l d).filter fun e=>decide (e.kind=((j+1:Nat):Int))):=by
  refine apart_kind (k:=((j+1:Nat):Int)) (List.Pairwise.filter _ (effD_keyd l d)) fun e he=> ?_;obtain⟨h1,h2⟩:=List.mem_filter.1 he;exact⟨(effD_ok l d e h1).2.1,by simpa using h2⟩
 exact(up_strict (sortB_up (byNum_weak numE) _) (ha.perm (sortB_perm _).symm)).imp fun h=>by simpa[byNum] using h
theorem known_in {l:List Ent} {day:Int} {j:Nat} {x:Ent} (h:x∈knownL l day j):x∈effD l day∧x.kind=((j+1:Nat):Int):=by
 unfold knownL at h;rw[sortB_mem,List.mem_filter] at h;simpa using h
theorem points_few {l:List Ent} {d:Int} (m:Nat) (h:∀e∈l,0≤e.id∧e.id<(m:Int)):(knownL l d 0).length≤m:=by
 have h1:=known_up l d 0;have h2:((knownL l d 0).map numE).Pairwise (· < ·):=List.pairwise_map.2 h1
 have h3:=asc_few _ 0 m h2 fun x hx=>by
  obtain⟨e,he,rfl⟩:=List.mem_map.1 hx;obtain⟨h4,h5⟩:=known_in he;have h6:=h e (effD_ok _ _ _ h4).1;have:numE e=e.id:=by unfold numE;rw[h5];rfl
  rw[this];omega
 simpa using h3
def itemB (n:Int) (e:Ent):Bool:=decide (e.item=n)
def labB (n:Int) (e:Ent):Bool:=decide (e.lab=n)
structure Only (B C:Bas) (n:Int):Prop where
 h0:C.ls 0=(B.ls 0).filter (itemB n)
 h1:C.ls 1=(B.ls 1).filter (itemB n)
 h2:C.ls 2=(B.ls 2).filter (itemB n)
 h3:C.ls 3=(B.ls 3).filter (itemB n)
 h4:C.ls 4=(B.ls 4).filter (labB n)
 h5:C.ls 5=B.ls 5
 h7:C.ls 7=(B.ls 7).filter (itemB n)
 h8:C.ls 8=(B.ls 8).filter (itemB n)
section
variable {B C:Bas} {n:Int} (h:Only B C n)
include h
end
end Go.Proofs.YteeifhlhpiimoaaGreatDoor
end
section
namespace Go.Proofs.YteeifhlhpiimoaaGreatDoor
open Go Go.RowKit Go.Shelf
theorem heap_set {w:World} {b k:Nat} {cs:Array Value} {T:TypeId} (h:w.heap[b]?=some (.cells cs T (0,0))) (v:Value):(w.setCell ⟨b,k,none⟩ v).heap[b]?=some (.cells (cs.setIfInBounds k v) T (0,0)):=by
 simp[World.setCell,Array.getElem?_modify,h]
end Go.Proofs.YteeifhlhpiimoaaGreatDoor
end
section
namespace Go.Proofs.YteeifhlhpiimoaaGreatDoor
open Go Go.RowKit Go.Shelf
attribute [local go_sem] Oper.semAt_some
abbrev Wk (W:World) (b:Nat):Prop:=W.heap[b]?=some (.cells #[.bool false] 243 (0,0))
def DoP (z:ByteArray) (b:Nat) (W:World) (e:Ending) (W':World):Prop:=e=.returned (.string z)∧Wk W' b∧Turns (fun k=>k=b) W W'
theorem do_walk (g:Nat) (eg:∀args w,(callFunc g args).run Tryz.prog w=.ok (.enter g args) w) (x y z:ByteArray) (b:Nat) (w:World) (hw:Wk w b)
 (hg:∀W,Below w.heap.size w W→Calls Tryz.prog g #[.string x,.string y] W fun e W'=>e=.returned (.tuple #[.string z,.int .i64 0])∧Below W.heap.size W W'):
 Calls Tryz.prog 215 #[.pointer (some ⟨b,0,none⟩),.func (.func g) #[] #[],.string x,.string y] w (DoP z b w):=by
 have HG:=hZ (hg w (Below.refl _ _));have HW:=hZ hw;have x0:w.cell? ⟨b,0,none⟩=some (.bool false):=cells_i hw rfl;clear hg hw
 go_enter Tryz.func215,Tryz.ntmps215
 go_wp2_with (first|(go_at_fn g;refine HG.out.mono ?_;rintro e w2 ⟨rfl,hb2⟩;have HB2:=hZ hb2;have hw2:Wk w2 b:=(hb2.block b (cells_lt HW.out)).trans HW.out;have x2:w2.cell? ⟨b,0,none⟩=some (.bool false):=cells_i hw2 rfl;have f2:=cells_free hw2 0;have HW2:=hZ hw2;clear hb2 hw2)|fail)
 go_ret;refine⟨rfl,?_,(Turns.of_below HB2.out).trans (Turns.setCell _ _ _ rfl)⟩;exact heap_set (k:=0) HW2.out (.bool false)
theorem Wk.lt {W:World} {b:Nat} (h:Wk W b):b<W.heap.size:=cells_lt h
theorem wmul_walk (x y:Int) (b:Nat) (w:World) (hw:Wk w b) (hx:Sml x) (hy:y.natAbs<10000) (hxy:Sml (x*y)) (hp:Pow10 w):
 Calls Tryz.prog 213 #[.pointer (some ⟨b,0,none⟩),.string (iT x),.string (iT y)] w (DoP (iT (x*y)) b w):=by
 have hys:Sml y:=by unfold Sml;omega
 have v1:=iT_valid hx;have v2:=iT_valid hys
 have HD:=hZ (do_walk 255 (enters_of Tryz.func255 (by kernel_rfl) rfl) (iT x) (iT y) (iT (x*y)) b w hw (fun W hb=>by
  have h1:=imul_walk (iT x) (iT y) (iT_size hx) (iT_size hys) v1.1 v2.1 (by rw[v2.2];exact hy) (by rw[v1.2,v2.2];exact dec18 hxy) W (hp.below hb);rw[v1.2,v2.2] at h1
  exact h1))
 clear v1 v2 hw hp
 go_enter Tryz.func213,Tryz.ntmps213
 go_wp2_with (first|(go_at_call 215;refine HD.out.mono ?_;rintro e w2 ⟨rfl,h2,h3⟩)|fail)
 go_ret;exact⟨rfl,h2,h3⟩
theorem quot1_walk (x:Int) (g:Nat) (q:Int) (hg:0<g) (hq:q*g=x) (hx:Sml x) (hgs:Sml (g:Int)) (w:World) (hp:Pow10 w):
 Calls Tryz.prog 272 #[.string (iT x),.string (iT g)] w fun e w'=>e=.returned (.tuple #[.string (iT q),.int .i64 0])∧Below w.heap.size w w':=by
 have v1:=iT_valid hx;have v2:=iT_valid hgs;have hd:=div_walk (iT x) (iT g) (iT_size hx) (iT_size hgs) v1.1 v2.1 (by rw[v2.2];omega) w hp;rw[v1.2,v2.2,Int.natAbs_natCast] at hd;have hxa:x.natAbs=q.natAbs*g:=by rw[←hq,Int.natAbs_mul,Int.natAbs_natCast]
 have hm:x.natAbs%g=0:=by rw[hxa];exact Nat.mul_mod_left _ _
 have hdv:x.natAbs/g=q.natAbs:=by rw[hxa];exact Nat.mul_div_cancel _ hg
 have e1:divQ (decide (x<0)) x.natAbs g=q.natAbs:=by unfold divQ;rw[hm];simp[hdv]
 have hs:sgv (decide (x<0)) q.natAbs=q:=by
  have hg':(0:Int)<(g:Int):=by omega
  unfold sgv
  by_cases h:x<0
  · have:q<0:=by
     rcases Int.lt_or_le q 0 with k|k
     · exact k
     · have:=Int.mul_nonneg k (Int.le_of_lt hg');omega
    simp only[h,decide_true,if_true];omega
  · have:0≤q:=by
     rcases Int.lt_or_le q 0 with k|k
     · have:=Int.mul_neg_of_neg_of_pos k hg';omega
     · exact k
    simp only[h,decide_false,Bool.false_eq_true,if_false];omega
 unfold DivP at hd;rw[e1,sg_text hs] at hd;obtain⟨r,hr⟩:=oQ ((⟨(decS (divR (decide (x<0)) x.natAbs g)).toArray⟩:ByteArray));rw[hr] at hd;have HD:=hZ (show Calls Tryz.prog 140 #[.string (iT x),.string (iT g)] w fun e w'=>e=.returned (.tuple #[.string (iT q),.string r,.int .i64 0])∧Below w.heap.size w w' from hd);clear hd hr e1 hs hm hdv hxa v1 v2 hp
 go_enter Tryz.func272,Tryz.ntmps272
 go_wp2_with (first|(go_at_call 140;refine HD.out.mono ?_;rintro e w2 ⟨rfl,h2⟩)|fail)
 go_ret2
 exact⟨rfl,h2⟩
theorem wquot_walk (x:Int) (g:Nat) (q:Int) (b:Nat) (w:World) (hw:Wk w b) (hg:0<g) (hq:q*g=x) (hx:Sml x) (hgs:Sml (g:Int)) (hp:Pow10 w):
 Calls Tryz.prog 256 #[.pointer (some ⟨b,0,none⟩),.string (iT x),.string (iT g)] w (DoP (iT q) b w):=by
 have HD:=hZ (do_walk 272 (enters_of Tryz.func272 (by kernel_rfl) rfl) (iT x) (iT g) (iT q) b w hw (fun W hb=>quot1_walk x g q hg hq hx hgs W (hp.below hb)));clear hw hp
 go_enter Tryz.func256,Tryz.ntmps256
 go_wp2_with (first|(go_at_call 215;refine HD.out.mono ?_;rintro e w2 ⟨rfl,h2,h3⟩)|fail)
 go_ret;exact⟨rfl,h2,h3⟩
theorem check_walk (x1 x2:Int) (y1 y2:Nat) (b g c:Nat) (w:World) (hw:Wk w b) (h1:0<y1) (h2:0<y2) (s1:Sml x1) (s2:Sml x2) (t1:Sml (y1:Int)) (t2:Sml (y2:Int)) (hp:Pow10 w)
 (hg:w.heap[g]?=some (.cells #[.string (iT (nZ x1 y1)),.string (iT (dZ x1 y1)),.string (iT (nZ x2 y2)),.string (iT (dZ x2 y2))] 29 (0,0))):
 Calls Tryz.prog 212 #[.pointer (some ⟨b,0,none⟩),.slice (some ⟨g,0,none⟩) 2 c] w fun e W'=>e=.returned (.tuple #[])∧Wk W' b∧Turns (fun k=>k=b) w W':=by
 have hgb:g≠b:=fun e=>by rw[e,hw] at hg;injection hg with hg;injection hg with _ hg _;revert hg;decide
 have HR:Hid (∀i:Nat,i<2→∃(n d:ByteArray),n.size≤1000000∧d.size≤1000000∧ratOk n.data.toList d.data.toList=true∧w.rangeAt g (i*2) [.string n,.string d]):=hZ (by
  intro i hi
  match i,hi with
  |0,_=>exact⟨_,_,iT_size (by have:=nZ_le (x:=x1) h1;unfold Sml at*;omega),iT_size (by have:=dZ_le x1 y1;unfold Sml at*;omega),rat_ok' h1 s1 t1,fun k v hv=>by
     match k,hv with
     |0,hv=>exact cells_i hg hv
     |1,hv=>exact cells_i hg hv⟩
  |1,_=>exact⟨_,_,iT_size (by have:=nZ_le (x:=x2) h2;unfold Sml at*;omega),iT_size (by have:=dZ_le x2 y2;unfold Sml at*;omega),rat_ok' h2 s2 t2,fun k v hv=>by
     match k,hv with
     |0,hv=>exact cells_i hg hv
     |1,hv=>exact cells_i hg hv⟩)
 have HG:Hid (g<w.heap.size∧g≠b):=hZ ⟨cells_lt hg,hgb⟩;have HB:Hid (b<w.heap.size):=hZ hw.lt;have HW:=hZ hw;have HP:=hZ hp
 have HPV:Hid (∀V,Turns (fun k=>k=b) w V→Pow10 V):=hZ (fun V t=>by
  have h:=hp;unfold Pow10 Lib.TabIs World.var? at h⊢
  cases hgg:Tryz.prog.globalNamed "internal/strconv.uint64pow10" with
  |none=>rw[hgg] at h;cases h
  | some q=>
    rw[hgg] at h;simp only[Option.bind_some] at h⊢
    cases e:w.heap[q]? with
    |none=>rw[e] at h;cases h
    | some o=>
      have hqb:q≠b:=fun eq=>by
       rw[eq,hw] at e;injection e with e;subst e;rw[eq,hw] at h
       revert h
       simp;intro h;have h2:=congrArg List.length h;simp[Lib.pow10Tab] at h2
      rw[t.block q (cells_lt e) hqb,e];rw[e] at h;exact h)
 have HT0:Hid (Turns (fun k=>k=b) w w):=hZ (Turns.refl _ _);have IL:=fun n d:ByteArray=>hZ (show(Tryz.prog.info? 29).map (·.size)=some ([.string n,.string d]:List Value).length by kernel_rfl);clear hw hg hgb h1 h2 s1 s2 t1 t2 hp
 go_enter Tryz.func212,Tryz.ntmps212
 go_wp2_with fail
 go_loopw [8] (fun v wr=> ∃i:Nat,v=.int .i64 (i:Int)∧i≤2∧Hid (Wk wr b)∧Hid (Turns (fun k=>k=b) w wr)) (fun v _=>2-(intOf v).toNat)
 case atStart=>exact⟨0,rfl,by omega,HW,HT0⟩
 case round=>
  clear HW HT0;obtain⟨i,rfl,hi,HW,HT⟩:=hrel
  by_cases hlt:i<2
  · obtain⟨n,d,hns,hds,hok,hrg⟩:=HR.out i hlt
    (have d1:decide ((i:Int)<2)=true:=by simp;omega);(have z1:(0:Int)≤(i:Int):=by omega);(have z2:(i:Int)<2:=by omega);(have wk:IntKind.i64.wrap ((i:Int)+1)=((i+1:Nat):Int):=by rw[IntKind.wrap_i64];omega);have HRG:Hid (wr.rangeAt g (i*2) [.string n,.string d]):=hZ (fun k v hv=>(HT.out.cell (p:=⟨g,i*2+k,none⟩) HG.out.1 HG.out.2).trans (hrg k v hv));have HV:=hZ (fun W (h:Pow10 W)=>rvalid_walk n d hns hds W h);rw[hok] at HV;clear hns hds hok hrg
    go_wp2_with (first
     |((with_reducible refine wpList_load_mid rfl 29 (.tmp 10) rfl g (i*2) ?hx [.string n,.string d] _ HRG.out Tryz.underlying29 rfl (IL n d).out ?_);(case hx=>first|rfl|simp[Addr.add]))
     | ((with_reducible refine wpList_store_rowN rfl 29 (.tmp 5) (.tmp 11) rfl rfl _ #[.string n,.string d] #[.string ⟨#[]⟩,.string ⟨#[]⟩] ?hx ?hy ?hi (World.alloc_heap_new _ _) rfl ?h1 ?_);(case hx=>rfl);(case hy=>rfl);(case hi=>kernel_rfl);(case h1=>simp[Value.oneCell']);intro V h5 t5
        have hT5:Turns (fun k=>k=b) w V:=by
         refine HT.out.trans ⟨t5.os,t5.tape,t5.output,Nat.le_trans (by simp) t5.size,fun k hk hz=> ?_⟩;rw[t5.block k (by simp;omega) (by omega)];exact Below.heap_alloc wr _ k hk
        have hW5:Wk V b:=by
         have hb:=HW.out.lt;exact((t5.block b (by simp;omega) (by omega)).trans (Below.heap_alloc wr _ b hb)).trans HW.out
        have HT5:=hZ hT5;have HW5:=hZ hW5;have x5:V.cell? ⟨b,0,none⟩=some (.bool false):=cells_i hW5 rfl;have y5:=cells_i h5 (i:=0) rfl;have y6:=cells_i h5 (i:=1) rfl
        clear h5 t5 hT5 hW5)
     | (go_at_call 138;(refine(HV.out _ (HPV.out _ HT5.out)).mono ?_);rintro e V6 ⟨rfl,hb⟩
        have hW6:Wk V6 b:=(hb.block b (cells_lt HW5.out)).trans HW5.out;have HT6:=hZ (HT5.out.trans (Turns.of_below hb));have HW6:=hZ hW6;have x6:V6.cell? ⟨b,0,none⟩=some (.bool false):=cells_i hW6 rfl;have f6:=cells_free hW6 0
        clear hb hW6)
     |fail)
    have HW7:Hid (Wk (V6.setCell ⟨b,0,none⟩ (.bool false)) b):=hZ (heap_set (k:=0) HW6.out (.bool false));have HT7:Hid (Turns (fun k=>k=b) w (V6.setCell ⟨b,0,none⟩ (.bool false))):=hZ (HT6.out.trans (Turns.setCell _ _ _ rfl))
    go_roundw
    case rel=>exact⟨i+1,rfl,by omega,HW7,HT7⟩
    case measure=>simp[intOf];omega
  · have d1:decide ((i:Int)<2)=false:=by simp;omega
    (obtain rfl:i=2:=by omega);go_wp2_with fail
    go_end0
    exact⟨rfl,HW.out,HT.out⟩
end Go.Proofs.YteeifhlhpiimoaaGreatDoor
end
