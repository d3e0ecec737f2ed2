/-
  A calibration that becomes known late, plainly: what is known of an item with it and without it. No condition. Contracts for KnownLate: known.History at what is known, drift.At with its answer named; a list of one row of six integers; a history's variable just laid. Conditions: each contract's own.
-/
import Derived.Test.YteeifhlhpiimoaaGreatDoorZAt
import Derived.Test.YteeifhlhpiimoaaGreatDoorZAa
section
namespace Go.Proofs.YteeifhlhpiimoaaGreatDoor
open Go Go.RowKit Go.Shelf Wr
theorem valid_num {e:Ent} (h:validE e=true):(1≤e.kind∧e.kind≤9)∧1≤numE e∧numE e≤1000000:=by
 have k9:1≤e.kind∧e.kind≤9:=by
  unfold validE shapeQ at h;refine⟨?_,?_⟩<;>(apply Classical.byContradiction;intro hn;rw[if_neg (by omega),if_neg (by omega),if_neg (by omega),if_neg (by omega),if_neg (by omega),if_neg (by omega),if_neg (by omega),if_neg (by omega),if_neg (by omega)] at h;cases h)
 refine⟨k9,?_⟩;unfold validE at h;unfold numE;rcases(show e.kind=1∨e.kind=2∨e.kind=3∨e.kind=4∨e.kind=5∨e.kind=6∨e.kind=7∨e.kind=8∨e.kind=9 by omega) with q|q|q|q|q|q|q|q|q
 all_goals
  rw[q] at h⊢;simp only[shapeQ,Int.reduceEq,if_true,if_false,Bool.and_eq_true] at h;have h2:=h.2.2;unfold checks at h2;simp only[Ent.num,Bool.and_eq_true,decide_eq_true_eq] at h2;have h3:=h2.1;have h4:=h2.2.1;simp;exact⟨h3,h4⟩
theorem key_inj {a b:Ent} (ha:validE a=true) (hb:validE b=true) (h:keyE a=keyE b):a.kind=b.kind∧numE a=numE b:=by
 have va:=valid_num ha;have vb:=valid_num hb;unfold keyE at h;rw[if_pos ha,if_pos hb,←numE_key,←numE_key] at h;obtain⟨h1,h2⟩:=putI_inj (by constructor<;>omega) (by constructor<;>omega) h;exact⟨h1,putI_end (by constructor<;>omega) (by constructor<;>omega) h2⟩
section
variable {l:List Ent} {p:Ent} {day:Int}
theorem new_eff (he:okD day p=true) (hg:p.gone=false) (hk:∀x∈l,validE x=true→keyE x≠keyE p) (x:Ent):x∈effD (l++[p]) day↔x=p∨x∈effD l day:=by
 have mem:∀z,z∈l++[p]↔z∈l∨z=p:=fun z=>by simp
 rw[effD_mem,effD_mem];constructor
 · rintro⟨⟨h1,h2,_,h4⟩,hg'⟩
   rcases(mem x).1 h1 with r|r
   · exact .inr ⟨⟨r,h2,rfl,fun z hz a b=>h4 z ((mem z).2 (.inl hz)) a b⟩,hg'⟩
   · exact .inl r
 · rintro(rfl|⟨⟨h1,h2,_,h4⟩,hg'⟩)
   · refine⟨⟨(mem x).2 (.inr rfl),he,rfl,fun z hz a b=> ?_⟩,hg⟩
     rcases(mem z).1 hz with r|r
     · exact(hk z r (okD_iff.1 a).1 b).elim
     · exact .inl r
   · refine⟨⟨(mem x).2 (.inl h1),h2,rfl,fun z hz a b=> ?_⟩,hg'⟩
     rcases(mem z).1 hz with r|r
     · exact h4 z r a b
     · subst r;exact(hk x h1 (okD_iff.1 h2).1 b.symm).elim
theorem new_same (he:okD day p=true) (hg:p.gone=false) (hk:∀x∈l,validE x=true→keyE x≠keyE p) (j:Nat) (hj:p.kind≠((j+1:Nat):Int)):knownL l day j=knownL (l++[p]) day j:=by
 refine known_of (l:=l++[p]) (day:=day) (j:=j) (m:=(effD l day).filter fun e=>decide (e.kind=((j+1:Nat):Int))) (m':=knownL l day j) (List.Pairwise.filter _ (effD_keyd l day)) (fun e=> ?_) ?_ ?_
 · rw[List.mem_filter,new_eff he hg hk,decide_eq_true_eq]
   constructor
   · rintro⟨h1,h2⟩;exact⟨.inr h1,h2⟩
   · rintro⟨rfl|h1,h2⟩
     · exact(hj h2).elim
     · exact⟨h1,h2⟩
 · exact sortB_perm _
 · exact sortB_up (byNum_weak numE) _
theorem new_perm (he:okD day p=true) (hg:p.gone=false) (hk:∀x∈l,validE x=true→keyE x≠keyE p) (j:Nat) (hj:p.kind=((j+1:Nat):Int)):(knownL (l++[p]) day j).Perm (p::knownL l day j):=by
 have h:=known_of (l:=l++[p]) (day:=day) (j:=j) (m:=p::(effD l day).filter fun e=>decide (e.kind=((j+1:Nat):Int))) (m':=sortB (byNum numE) (p::(effD l day).filter fun e=>decide (e.kind=((j+1:Nat):Int)))) ?_ (fun e=> ?_) (sortB_perm _) (sortB_up (byNum_weak numE) _)
 · rw[←h]
   exact(sortB_perm _).trans (List.Perm.cons _ (sortB_perm _).symm)
 · refine List.pairwise_cons.2 ⟨fun x hx=> ?_,List.Pairwise.filter _ (effD_keyd l day)⟩
   have h1:=effD_ok l day x (List.mem_filter.1 hx).1;exact fun e=>hk x h1.1 h1.2.1 e.symm
 · rw[List.mem_cons,List.mem_filter,new_eff he hg hk,decide_eq_true_eq]
   constructor
   · rintro(rfl|⟨h1,h2⟩)
     · exact⟨.inl rfl,hj⟩
     · exact⟨.inr h1,h2⟩
   · rintro⟨rfl|h1,h2⟩
     · exact .inl rfl
     · exact .inr ⟨h1,h2⟩
end
def rateR:Ent:={zeroE with kind:=2,ver:=9,item:=2,rn:=⟨#[49]⟩,rd:=⟨#[52]⟩}
def lateP (y:Six) (d:Int):Ent:={someE y with kind:=1,ver:=1,gone:=false,id:=500,item:=2,day:=d}
def lateL (x:List Six):List Ent:=x.map someE++[rateR]
theorem rate_valid:validE rateR=true:=by kernel_rfl
theorem rate_known (x:List Six) {day:Int} (hd:0≤day):budgetE (knownL (lateL x) day 1) 2=rateR∧((knownL (lateL x) day 1).any fun e=>decide (e.item=2))=true:=by
 have he:okD day rateR=true:=okD_iff.2 ⟨rate_valid,hd⟩
 have hv:∀z∈x.map someE,z.ver<rateR.ver:=fun z hz=>by
  obtain⟨y,-,rfl⟩:=List.mem_map.1 hz;have:=some_ver y;show _<(9:Int);omega
 have hm:rateR∈knownL (lateL x) day 1:=known_mem.2 ⟨(corr_mem he hv rateR).2 (.inl ⟨rfl,rfl⟩),rfl⟩
 have hall:∀z∈(knownL (lateL x) day 1).filter fun e=>decide (e.item=2),z=rateR:=fun z hz=>by
  obtain⟨h1,h2⟩:=List.mem_filter.1 hz;obtain⟨h3,h4⟩:=known_mem.1 h1;rcases(corr_mem he hv z).1 h3 with⟨r,-⟩|⟨r,r2⟩
  · exact r
  · refine(r (key_of_num (effD_ok _ _ _ r2).2.1 rate_valid h4 ?_)).elim
    rw[show numE rateR=2 from rfl];unfold numE;rw[h4];simpa using h2
 refine⟨?_,List.any_eq_true.2 ⟨rateR,hm,rfl⟩⟩;unfold budgetE;have hm2:rateR∈(knownL (lateL x) day 1).filter fun e=>decide (e.item=2):=List.mem_filter.2 ⟨hm,rfl⟩
 cases hl:(knownL (lateL x) day 1).filter fun e=>decide (e.item=2) with
 |nil=>rw[hl] at hm2;cases hm2
 |cons a t=>exact hall a (by rw[hl];exact List.mem_cons_self ..)
theorem rat12 (x:Int) (y:Nat) (hy:0<y) (k:Nat) (hk:y*k=12):rnB x y=nB (x*k)∧rdB x y=dB (x*k):=by
 obtain⟨h1,h2⟩:=nd_eq (x:=x) (x':=x*k) (y:=y) (y':=12) hy (by decide) (by rw[←hk];push_cast;rw[Int.mul_comm (y:Int),Int.mul_assoc]);have hg:=gcd_pos' (x:=x) hy;unfold nB dB;rw[←h1,←h2];constructor
 · unfold rnB txtB iT
   rw[txtL_int (fun h=> ?_)]
   · have:=nZ_sgn (x:=x) hy
     unfold sgv at this;rw[this]
   · have hx:x<0:=of_decide_eq_true h
     exact Nat.div_pos (Nat.le_of_dvd (by omega) (Nat.gcd_dvd_left _ _)) hg
 · unfold rdB txtB iT
   rw[txtL_int (fun h=>by cases h)];rfl
theorem den_four (y:Six):∃k:Nat,denE y*k=12∧0<denE y∧k≤12:=by
 have:=pickZ_range (Int.tdiv y.y2 41) (n:=4) (by omega);unfold denE;rcases(show pickZ (Int.tdiv y.y2 41) 4=0∨pickZ (Int.tdiv y.y2 41) 4=1∨pickZ (Int.tdiv y.y2 41) 4=2∨pickZ (Int.tdiv y.y2 41) 4=3 by omega) with h|h|h|h<;>rw[h]
 · exact⟨12,by decide⟩
 · exact⟨6,by decide⟩
 · exact⟨4,by decide⟩
 · exact⟨3,by decide⟩
def DOk (e:Ent):Prop:=∃d:D3,d.Ok∧ptOf e=d.pt
theorem some_kind (y:Six):(someE y).kind=(kindOf y:Int):=by
 obtain⟨k1,k2,k3⟩:=kind_some y
 have hk:∀(fs:List Nat) (k:Nat) (e:Ent),(foldE y k fs e).kind=e.kind:=by
  intro fs
  induction fs with
  |nil=>intro k e;rfl
  | cons f fs ih=>
    intro k e;rw[foldE,ih];unfold stepE
    split<;>first|rfl|(unfold setE;split<;>rfl)
 exact(hk _ 0 _).trans k1
theorem some_dok {y:Six} (h:kindOf y=1):DOk (someE y):=by
 obtain⟨k,h1,h2,h3⟩:=den_four y;have p4:=pickZ_range y.y4 (n:=40) (by omega);have p41:=pickZ_range y.y2 (n:=41) (by omega);have p5:=pickZ_range y.y5 (n:=5) (by omega);have k0:0<k:=Nat.pos_of_ne_zero fun e=>by subst e;simp at h1
 obtain⟨a1,a2⟩:=rat12 (loE y) (denE y) h2 k h1;obtain⟨b1,b2⟩:=rat12 (hiE y) (denE y) h2 k h1
 have e:ptOf (someE y)=⟨pickZ y.y4 40,rnB (loE y) (denE y),rdB (loE y) (denE y),rnB (hiE y) (denE y),rdB (hiE y) (denE y)⟩:=by
  unfold someE;rw[h];rfl
 have hlo:(loE y).natAbs≤30:=by unfold loE;omega
 have hhi:(hiE y).natAbs≤30:=by unfold hiE;omega
 have hle:loE y≤hiE y:=by unfold loE hiE;omega
 have m1:∀z:Int,z.natAbs≤30→(z*k).natAbs≤1000:=fun z hz=>by
  rw[Int.natAbs_mul,Int.natAbs_natCast];exact Nat.le_trans (Nat.mul_le_mul hz h3) (by decide)
 refine⟨⟨pickZ y.y4 40,loE y*k,hiE y*k⟩,⟨p4.1,?_,m1 _ hlo,m1 _ hhi,Int.mul_le_mul_of_nonneg_right hle (by omega)⟩,?_⟩
 · show pickZ y.y4 40≤1000;omega
 · rw[e,a1,a2,b1,b2];rfl
theorem late_dok {y:Six} (h:kindOf y=1) (d:Int):DOk (lateP y d):=some_dok h
theorem late_valid {y:Six} (h:kindOf y=1) {d:Int} (h0:0≤d) (h1:d≤1000):validE (lateP y d)=true:=by
 have hv:=some_valid y;unfold validE at hv⊢;have hk:(lateP y d).kind=1:=rfl;have hk2:(someE y).kind=1:=by rw[some_kind,h];rfl
 rw[hk2] at hv;rw[hk];simp only[shapeQ,if_true,Bool.and_eq_true] at hv⊢;obtain⟨v1,v2,v3⟩:=hv;refine⟨?_,?_,?_⟩
 · unfold headQ lateP
   simp only[Bool.and_eq_true,decide_eq_true_eq];omega
 · unfold condQ at v2⊢
   rw[hk2] at v2;rw[hk];exact v2
 · clear v1 v2
   unfold lateP;simp[checks,Ent.num,Ent.clr] at v3⊢;obtain⟨-,-,a1,a2,a3,a4,-,-,a5⟩:=v3;exact⟨a1,a2,a3,a4,a5⟩
theorem late_key {x:List Six} {y:Six} (h:kindOf y=1) {d:Int} (h0:0≤d) (h1:d≤1000):∀z∈lateL x,validE z=true→keyE z≠keyE (lateP y d):=fun z hz hv e=>by
 obtain⟨q1,q2⟩:=key_inj hv (late_valid h h0 h1) e;have hk:(lateP y d).kind=1:=rfl;have hn:numE (lateP y d)=500:=rfl;rw[hk] at q1;rw[hn] at q2;rcases List.mem_append.1 hz with r|r
 · obtain⟨s,-,rfl⟩:=List.mem_map.1 r
   have:=some_id s;unfold numE at q2;rw[if_neg (by omega)] at q2;omega
 · rw[List.mem_singleton.1 r] at q1
   cases q1
theorem late_mem {x:List Six} {z:Ent} {day:Int} (h:z∈knownL (lateL x) day 0):DOk z:=by
 obtain⟨h1,h2⟩:=known_mem.1 h;rcases List.mem_append.1 (effD_ok _ _ _ h1).1 with r|r
 · obtain⟨y,-,rfl⟩:=List.mem_map.1 r
   rw[some_kind] at h2;exact some_dok (by omega)
 · rw[List.mem_singleton.1 r] at h2
   cases h2
instance:Nonempty D3:=⟨⟨0,0,0⟩⟩
noncomputable def dOf (e:Ent):D3:=Classical.epsilon fun d:D3=>d.Ok∧ptOf e=d.pt
theorem dOf_spec {e:Ent} (h:DOk e):(dOf e).Ok∧ptOf e=(dOf e).pt:=Classical.epsilon_spec (p:=fun d:D3=>d.Ok∧ptOf e=d.pt) h
noncomputable def ptsD (l:List Ent) (day:Int):List D3:=(histL (aboutL (knownL l day 0) 2)).map dOf
structure PtOk (l:List Ent) (day:Int):Prop where
 pts:(histL (aboutL (knownL l day 0) 2)).map ptOf=(ptsD l day).map D3.pt
 ok:∀d∈ptsD l day,d.Ok
 up:(ptsD l day).Pairwise fun a b=>a.tm≤b.tm
theorem pt_ok {l:List Ent} {day:Int} (h:∀z∈knownL l day 0,DOk z):PtOk l day:=by
 obtain⟨hp,hu,-⟩:=histL_spec (aboutL (knownL l day 0) 2);have hm:∀z∈histL (aboutL (knownL l day 0) 2),DOk z:=fun z hz=>h z (List.mem_filter.1 (hp.mem_iff.1 hz)).1;refine⟨?_,fun d hd=> ?_,?_⟩
 · unfold ptsD
   rw[List.map_map];exact List.map_congr_left fun z hz=>(dOf_spec (hm z hz)).2
 · obtain⟨z,hz,rfl⟩:=List.mem_map.1 hd
   exact(dOf_spec (hm z hz)).1
 · unfold ptsD
   rw[List.pairwise_map];refine hu.imp_of_mem fun{a b} ha hb hab=> ?_;have e1:=congrArg Pt.tm (dOf_spec (hm a ha)).2;have e2:=congrArg Pt.tm (dOf_spec (hm b hb)).2;have e3:(dOf a).tm=a.frm:=e1.symm;have e4:(dOf b).tm=b.frm:=e2.symm;rw[ltOf_hist] at hab;unfold byNum2 at hab;simp at hab;rw[e3,e4];omega
theorem pts_perm {x:List Six} {y:Six} (h:kindOf y=1) {d day:Int} (h0:0≤d) (h1:d≤1000) (hd:d≤day):(ptsD (lateL x++[lateP y d]) day).Perm (dOf (lateP y d)::ptsD (lateL x) day):=by
 have he:okD day (lateP y d)=true:=okD_iff.2 ⟨late_valid h h0 h1,hd⟩;have hp:=new_perm he rfl (late_key (x:=x) h h0 h1) 0 rfl
 have h2:(aboutL (knownL (lateL x++[lateP y d]) day 0) 2).Perm (lateP y d::aboutL (knownL (lateL x) day 0) 2):=by
  have:=hp.filter fun e=>decide (e.item=2);rw[List.filter_cons_of_pos (by rfl)] at this;exact this
 have h3:=((histL_spec (aboutL (knownL (lateL x++[lateP y d]) day 0) 2)).1.trans h2).trans (List.Perm.cons _ (histL_spec (aboutL (knownL (lateL x) day 0) 2)).1.symm);exact h3.map dOf
theorem late_ok {x:List Six} {y:Six} (h:kindOf y=1) {d day:Int} (h0:0≤d) (h1:d≤1000) (hd:d≤day):PtOk (lateL x++[lateP y d]) day:=pt_ok fun z hz=>by
 have he:okD day (lateP y d)=true:=okD_iff.2 ⟨late_valid h h0 h1,hd⟩;rcases List.mem_cons.1 ((new_perm he rfl (late_key (x:=x) h h0 h1) 0 rfl).mem_iff.1 hz) with rfl|r
 · exact late_dok h d
 · exact late_mem r
theorem late_few (x:List Six) (day:Int):(knownL (lateL x) day 0).length≤10:=points_few 10 fun e he=>by
 rcases List.mem_append.1 he with r|r
 · obtain⟨y,-,rfl⟩:=List.mem_map.1 r
   have:=some_id y;omega
 · rw[List.mem_singleton.1 r];decide
def cfP (a b:D3):Prop:=3*((a.tm-b.tm).natAbs:Int)<b.lo-a.hi∨3*((a.tm-b.tm).natAbs:Int)<a.lo-b.hi
theorem cfP_symm {a b:D3} (h:cfP a b):cfP b a:=by unfold cfP at*;omega
theorem no_cf {l:List D3} (up:l.Pairwise fun a b=>a.tm≤b.tm):(∀i k,¬Cf l i k)↔l.Pairwise fun a b=> ¬cfP a b:=by
 rw[List.pairwise_iff_getElem] at up⊢;constructor
 · intro h i k hi hk hik hc
   refine h i k ⟨l[i],l[k],hik,List.getElem?_eq_getElem hi,List.getElem?_eq_getElem hk,?_⟩;have:=up i k hi hk hik;unfold cfP at hc;omega
 · rintro h i k ⟨a,b,hik,ha,hb,hc⟩
   obtain⟨hi,ea⟩:=List.getElem?_eq_some_iff.1 ha;obtain⟨hk,eb⟩:=List.getElem?_eq_some_iff.1 hb;have h2:=up i k hi hk hik;refine h i k hi hk hik ?_;rw[ea,eb] at*;unfold cfP;omega
theorem no_cf_perm {l m:List D3} {d:D3} (ul:l.Pairwise fun a b=>a.tm≤b.tm) (um:m.Pairwise fun a b=>a.tm≤b.tm) (p:m.Perm (d::l)) (h:∀i k,¬Cf m i k):∀i k,¬Cf l i k:=by
 rw[no_cf um] at h;rw[no_cf ul];exact(List.pairwise_cons.1 ((p.pairwise_iff fun h hc=>h (cfP_symm hc)).1 h)).2
theorem acc_le {t L H:Int} {l:List D3} (ok:∀d∈l,d.Ok) (up:l.Pairwise fun a b=>a.tm≤b.tm) (h:AccI t l L H) (hn:∀i k,¬Cf l i k):L≤H:=by
 obtain⟨⟨a,ha,rfl⟩,-,⟨b,hb,rfl⟩,-⟩:=h;rw[no_cf up] at hn
 have hab:a=b∨¬cfP a b:=by
  obtain⟨i,hi,ea⟩:=List.getElem_of_mem ha;obtain⟨k,hk,eb⟩:=List.getElem_of_mem hb;rw[List.pairwise_iff_getElem] at hn;rcases Nat.lt_trichotomy i k with q|q|q
  · right;have:=hn i k hi hk q;rwa[ea,eb] at this
  · left;subst q;rw[←ea,←eb]
  · right;intro hc;have:=hn k i hk hi q;rw[ea,eb] at this;exact this (cfP_symm hc)
 have oa:=(ok a ha).le;rcases hab with rfl|hc
 · unfold loF hiF;omega
 · unfold cfP at hc
   unfold loF hiF;omega
theorem acc_sub {t L H L' H':Int} {l m:List D3} (hs:∀d∈l,d∈m) (h:AccI t l L H) (h':AccI t m L' H'):L≤L'∧H'≤H:=by
 obtain⟨⟨a,ha,rfl⟩,-,⟨b,hb,rfl⟩,-⟩:=h;exact⟨h'.lo2 a (hs a ha),h'.hi2 b (hs b hb)⟩
theorem rate12:nB 3=⟨#[49]⟩∧dB 3=⟨#[52]⟩:=by
 have e1:nZ 3 12=1:=by decide
 have e2:dZ 3 12=4:=by decide
 unfold nB dB;rw[e1,e2];constructor
 · exact bytes_ext (by simp[iT,intS,decS])
 · exact bytes_ext (by simp[iT,intS,decS])
end Go.Proofs.YteeifhlhpiimoaaGreatDoor
end
section
namespace Go.Proofs.YteeifhlhpiimoaaGreatDoor
open Go Go.RowKit Go.Shelf Wr
attribute [local go_sem] Oper.semAt_some
theorem run_build_six (w:World) (y:Six):(Instr.buildSlice 22 1 #[(0,.agg y.cells.toArray)]).run Tryz.prog w=.ok (.slice (some ⟨w.heap.size,0,none⟩) 1 1) (w.alloc (.cells y.cells.toArray 78)):=by
 obtain⟨i,h1,h2,h3,h4⟩:=info_parts (show(Tryz.prog.info? 78).map (fun i=>(i.zero,i.size,i.bytes))=some (some (.agg #[.int .i64 0,.int .i64 0,.int .i64 0,.int .i64 0,.int .i64 0,.int .i64 0]),6,48) by kernel_rfl);refine run_buildSlice w 22 78 1 _ y.cells.toArray i _ Tryz.underlying22 h1 h2 (by rw[h3];decide) (by rw[h3];decide) ?_;rw[h3]
 kernel_rfl
theorem wpList_build_six {ops:Array Oper} {rest:List Oper} {o:Oper} {a:Act} {w:World} {Q:Exit→Act→World→Prop} (hgd:o.guard=none) (x:Operand) (ho:o.op=.buildSlice 22 1 #[(0,x)]) (y:Six) (hx:a.eval x=.agg y.cells.toArray)
 (hk:∀b V,w.heap.size=b→Below b w V→SixAt V (some ⟨b,0,none⟩) [y]→wpList Tryz.prog ops Q rest (a.put o.dst (.slice (some ⟨b,0,none⟩) 1 1)) V):wpList Tryz.prog ops Q (o::rest) a w:=by
 refine wpList_plain hgd fun K hK=> ?_;have hn:=World.alloc_heap_new w (.cells y.cells.toArray 78)
 have h:=hK _ _ (hk _ _ rfl (below_new w (.cells y.cells.toArray 78)) (fun i z hz=>by
  match i,hz with
  | 0,hz=>
    injection hz with hz;subst hz;refine⟨_,rfl,cells_lt hn,fun j v hv=> ?_⟩;rw[show(⟨w.heap.size,0,none⟩:Addr).add (0*6+j)=⟨w.heap.size,j,none⟩ from by simp[Addr.add];omega]
    exact cells_i hn (by simpa using hv)
  |i+1,hz=>cases hz))
 unfold Oper.wp execOp;have hr:=run_build_six w y;obtain⟨z,hz⟩:=oQ (Value.agg y.cells.toArray);rw[hz] at hr hx;simp only[ho,List.map_toArray,List.map_cons,List.map_nil,hx,Sem.run_bind,hr,Result.andThen_ok];exact h
structure LateQ (l:List Ent) (day:Int) (ps:List D3):Prop where
 few:(knownL l day 0).length≤11
 rate:budgetE (knownL l day 1) 2=rateR
 any:((knownL l day 1).any fun e=>decide (e.item=2))=true
 pts:(histL (aboutL (knownL l day 0) 2)).map ptOf=ps.map D3.pt
 ok:∀d∈ps,d.Ok
 up:ps.Pairwise fun a b=>a.tm≤b.tm
theorem HiAt.of_ol {W:World} {N n c:Nat} {A:Option Addr} {ps:List D3} (h:OL W N 86 5 ptC (.slice A n c) (ps.map D3.pt)) (few:ps.length≤20) (ok:∀d∈ps,d.Ok) (up:ps.Pairwise fun a b=>a.tm≤b.tm):HiAt W A n ps:=by
 have hn:=h.len.1;rw[List.length_map] at hn;exact⟨RowAt.of_ol (fun _=>rfl) h,hn.symm,by omega,ok,up⟩
theorem late_hist {B:Bas} {l:List Ent} {day:Int} {ps:List D3} (gn gd:ByteArray) (e1:nB 3=gn) (e2:dB 3=gd) (hI:∀j,j<9→B.ls j=knownL l day j) (h:LateQ l day ps) (W:World) (hB:BasAt W (Old W) B):
 Calls Tryz.prog 27 #[B.val,.int .i64 2] W fun e W'=> ∃A n c,e=.returned (.agg #[.string gn,.string gd,.slice A n c])∧HiAt W' A n ps∧Below W.heap.size W W':=by
 have hf:=h.few;have h1:=history_walk B 2 W hB (by rw[hI 0 (by decide)];omega) (by rw[hI 0 (by decide)];exact Nat.lt_of_le_of_lt (List.length_filter_le _ _) (by omega));refine h1.mono fun e W'=> ?_;rintro⟨v,rfl,ho,hb⟩
 have e3:histPts B 2=ps.map D3.pt:=by
  unfold histPts;rw[hI 0 (by decide),hI 1 (by decide),if_pos h.any,h.pts]
 rw[e3] at ho;rw[hI 1 (by decide),h.rate];obtain⟨A,c,rfl,hc,hm⟩:=ho.slice
 have hl:ps.length≤20:=by
  have h2:=congrArg List.length h.pts;rw[List.length_map,List.length_map,(histL_spec _).1.length_eq] at h2;have h3:=List.length_filter_le (fun e:Ent=>decide (e.item=2)) (knownL l day 0);unfold aboutL at h2;omega
 refine⟨A,_,c,?_,HiAt.of_ol ho hl h.ok h.up,hb⟩;rw[←e1,←e2,rate12.1,rate12.2];rfl
theorem at12 (gn gd:ByteArray) (e1:nB 3=gn) (e2:dB 3=gd) (l:List D3) (A:Option Addr) (n c:Nat) (t:Int) (w:World) (h:HiAt w A n l) (hp:Pow10 w) (ht0:0≤t) (ht1:t≤1000):
 Calls Tryz.prog 45 #[.agg #[.string gn,.string gd,.slice A n c],.int .i64 t] w fun e w'=> ∃(p q r s:ByteArray) (k:Int),e=.returned (.tuple #[.agg #[.string p,.string q,.string r,.string s],.int .i64 k])∧
  (k=120∧(n=0∨∃i j,Cf l i j)∨k=0∧(0<n∧∀i j,¬Cf l i j)∧∃L H,AccI t l L H∧p=nB L∧q=dB L∧r=nB H∧s=dB H)∧Below w.heap.size w w':=by
 have h1:=driftAt_walk l A n c t w h hp ht0 ht1;unfold hV at h1;rw[e1,e2] at h1;refine h1.mono fun e w'=> ?_;rintro⟨⟨hq,rfl⟩|⟨hq,L,H,hL,rfl⟩,hb⟩
 · exact⟨_,_,_,_,120,rfl,.inl ⟨rfl,hq⟩,hb⟩
 · exact⟨_,_,_,_,0,rfl,.inr ⟨rfl,hq,L,H,hL,rfl,rfl,rfl,rfl⟩,hb⟩
theorem wpList_fresh {P:Program} {ops:Array Oper} {rest:List Oper} {o:Oper} {a:Act} {V:World} {Q:Exit→Act→World→Prop} {old:Array Value} (hgd:o.guard=none) (T:TypeId) (x y:Operand) (ho:o.op=.store T x y) (hd:o.dst=none) (cs:Array Value)
 (hx:a.eval x=.pointer (some ⟨V.heap.size,0,none⟩)) (hy:a.eval y=.agg cs) (hi:(P.info? T).map (·.size)=some cs.size) (hold:old.size=cs.size) (h1:cs.all (·.oneCell')=true)
 (hk:∀b V',V.heap.size=b→Below V.heap.size V V'→V'.heap[b]?=some (.cells cs T (0,0))→wpList P ops Q rest a V'):wpList P ops Q (o::rest) a (V.alloc (.cells old T)):=by
 refine wpList_store_rowN hgd T x y ho hd V.heap.size cs old hx hy hi (World.alloc_heap_new _ _) hold h1 fun V' h2 h3=> ?_;exact hk _ V' rfl (h3.below (below_new V _) (Nat.le_refl _) (fun k hk=>by omega)) h2
theorem at12c (gn gd:ByteArray) (e1:nB 3=gn) (e2:dB 3=gd) (l:List D3) (A:Option Addr) (n c:Nat) (t:Int) (w:World) (h:HiAt w A n l) (hp:Pow10 w) (ht0:0≤t) (ht1:t≤1000) (hc:n=0∨∃i j,Cf l i j):
 Calls Tryz.prog 45 #[.agg #[.string gn,.string gd,.slice A n c],.int .i64 t] w fun e w'=>e=.returned (.tuple #[zI,.int .i64 120])∧Below w.heap.size w w':=by
 have h1:=driftAt_walk l A n c t w h hp ht0 ht1;unfold hV at h1;rw[e1,e2] at h1;refine h1.mono fun e w'=> ?_;rintro⟨⟨hq,rfl⟩|⟨hq,L,H,hL,rfl⟩,hb⟩
 · exact⟨rfl,hb⟩
 · rcases hc with hc|⟨i,j,hc⟩
   · omega
   · exact(hq.2 i j hc).elim
theorem at12n (gn gd:ByteArray) (e1:nB 3=gn) (e2:dB 3=gd) (l:List D3) (A:Option Addr) (n c:Nat) (t:Int) (w:World) (h:HiAt w A n l) (hp:Pow10 w) (ht0:0≤t) (ht1:t≤1000) (hn:0<n) (hc:∀i j,¬Cf l i j):
 Calls Tryz.prog 45 #[.agg #[.string gn,.string gd,.slice A n c],.int .i64 t] w fun e w'=> ∃L H,e=.returned (.tuple #[.agg #[.string (nB L),.string (dB L),.string (nB H),.string (dB H)],.int .i64 0])∧AccI t l L H∧Below w.heap.size w w':=by
 have h1:=driftAt_walk l A n c t w h hp ht0 ht1;unfold hV at h1;rw[e1,e2] at h1;refine h1.mono fun e w'=> ?_;rintro⟨⟨hq,rfl⟩|⟨hq,L,H,hL,rfl⟩,hb⟩
 · rcases hq with hq|⟨i,j,hq⟩
   · omega
   · exact(hc i j hq).elim
 · exact⟨L,H,rfl,hL,hb⟩
theorem HiAt.one {W:World} {b:Nat} {d:D3} (h:W.heap[b]?=some (.cells (ptC d.pt).toArray 86 (0,0))) (ok:d.Ok):HiAt W (some ⟨b,0,none⟩) 1 [d]:=
 ⟨RowAt.of_block (fun _=>rfl) (by simpa using h),rfl,by decide,fun x hx=>by rw[List.mem_singleton.1 hx];exact ok,List.pairwise_singleton _ _⟩
theorem one_four (a b c d:ByteArray):(#[.string a,.string b,.string c,.string d]:Array Value).all (·.oneCell')=true:=by simp[Value.oneCell']
theorem cf_one (d:D3):∀i j,¬Cf [d] i j:=by
 rintro i j ⟨a,b,hij,h1,h2,-⟩;have:=(List.getElem?_eq_some_iff.1 h2).1;simp at this;omega
theorem dvalidG (gn gd:ByteArray) (e1:nB 3=gn) (e2:dB 3=gd) (l:List D3) (A:Option Addr) (n c:Nat) (w:World) (h:HiAt w A n l) (hp:Pow10 w):Calls Tryz.prog 44 #[.agg #[.string gn,.string gd,.slice A n c]] w (ValP w true):=by
 have h1:=dvalid_walk l A n c w h hp;unfold hV at h1;rw[e1,e2] at h1;exact h1
theorem contraG (gn gd:ByteArray) (e1:nB 3=gn) (e2:dB 3=gd) (l:List D3) (A:Option Addr) (n c:Nat) (w:World) (h:HiAt w A n l) (hp:Pow10 w):Calls Tryz.prog 46 #[.agg #[.string gn,.string gd,.slice A n c]] w fun e w'=> ∃A' m c',e=.returned (.slice A' m c')∧(m=0↔ ∀i k,¬Cf l i k)∧Below w.heap.size w w':=by
 have h1:=contra_walk l A n c w h hp;unfold hV at h1;rw[e1,e2] at h1;exact h1
abbrev nilH:Array Value:=#[.string ⟨#[]⟩,.string ⟨#[]⟩,.slice none 0 0]
theorem layH {U W:World} (h:Hid (Below U.heap.size U W)):∃V b,W.alloc (.cells #[.string ⟨#[]⟩,.string ⟨#[]⟩,.slice none 0 0] 58)=V∧W.heap.size=b∧Below W.heap.size W V∧Hid (V.heap[b]?=some (.cells nilH 58 (0,0))∧U.heap.size≤b):=⟨_,_,rfl,rfl,below_new _ _,hZ ⟨World.alloc_heap_new _ _,h.out.size⟩⟩
theorem hi_set {V V':World} {b n:Nat} {A:Option Addr} {l:List D3} {T:TypeId} (h:HiAt V A n l) (hb:V.heap[b]?=some (.cells nilH T (0,0))) (ht:Turns (fun k=>k=b) V V'):HiAt V' A n l:=by
 refine⟨fun i e he=> ?_,h.len,h.few,h.ok,h.up⟩;obtain⟨g,hA,hlt,hr⟩:=h.row i e he
 have hne:g≠b:=by
  rintro rfl;have h0:=hr 0 (.int .i64 e.tm) rfl;have h1:nilH[i*5+0]?=some (.int .i64 e.tm):=by simpa[World.cell?,hb] using h0
  have h2:i*5+0<3:=(Array.getElem?_eq_some_iff.1 h1).1;have h3:i=0:=by omega
  subst h3;cases h1
 refine⟨g,hA,Nat.lt_of_lt_of_le hlt ht.size,fun k v hv=> ?_⟩;exact(World.cell?_of_block (w:=V) (a:=⟨g,i*5+k,none⟩) (ht.block g hlt hne)).trans (hr k v hv)
theorem step_neqw {P:Program} {ops:Array Oper} {rest:List Oper} {o:Oper} {a:Act} {w:World} {Q:Exit→Act→World→Prop} (hw:Region.wanted o (yielded ops a.tmps)=true) (t t':TypeId) (x y:Operand) (ho:o.op=.binOp .neq t x y t') (u v:Value) (hx:a.eval x=u) (hy:a.eval y=v) (b:Bool)
 (hgr:(eqGuard .neq t x y u v).run P w=.ok () w) (hr:(binOp .neq t u v).run P w=.ok (.bool b) w) (h:wpList P ops Q rest (a.put o.dst (.bool b)) w):wpList P ops Q (o::rest) a w:=by
 refine wpList_step fun K hK=> ?_;rw[if_pos hw];have h2:=hK _ _ h;unfold Oper.wp execOp;simp only[ho,hx,hy];simp only[Sem.run_bind,Sem.run_pure,hgr,hr,Result.andThen_ok];exact h2
section
variable {x:List Six} {y:Six} {d day:Int}
theorem late_q1 (h0:0≤day):LateQ (lateL x) day (ptsD (lateL x) day):=by
 have h:=pt_ok (l:=lateL x) (day:=day) fun z hz=>late_mem hz;exact⟨Nat.le_trans (late_few x day) (by decide),(rate_known x h0).1,(rate_known x h0).2,h.pts,h.ok,h.up⟩
theorem late_q2 (h:kindOf y=1) (h0:0≤d) (h1:d≤1000) (hd:d≤day):LateQ (lateL x++[lateP y d]) day (ptsD (lateL x++[lateP y d]) day):=by
 have q:=late_ok (x:=x) h h0 h1 hd;have he:okD day (lateP y d)=true:=okD_iff.2 ⟨late_valid h h0 h1,hd⟩;have hl:=(new_perm he rfl (late_key (x:=x) h h0 h1) 0 rfl).length_eq;have hf:=late_few x day;have h3:=new_same he rfl (late_key (x:=x) h h0 h1) 1 (by show(1:Int)≠_;decide);have h4:=rate_known x (day:=day) (by omega);rw[h3] at h4;exact⟨by rw[hl];simpa using hf,h4.1,h4.2,q.pts,q.ok,q.up⟩
theorem late_q3 (h0:0≤day) (hd:day<d):LateQ (lateL x++[lateP y d]) day (ptsD (lateL x) day):=by
 have q:=late_q1 (x:=x) h0;have e0:=corr_early (l:=lateL x) (e:=lateP y d) (day:=day) hd 0;have e1:=corr_early (l:=lateL x) (e:=lateP y d) (day:=day) hd 1;exact⟨e0▸q.few,e1▸q.rate,e1▸q.any,e0▸q.pts,q.ok,q.up⟩
end
end Go.Proofs.YteeifhlhpiimoaaGreatDoor
end
