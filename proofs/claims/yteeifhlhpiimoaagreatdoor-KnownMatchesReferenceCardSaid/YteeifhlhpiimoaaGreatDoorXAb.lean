/-
  The contract of package integer's fold; the like for what stands beside it. Conditions: the digits are between -9999 and 1000000000; their value is not negative.
-/
import Derived.Test.YteeifhlhpiimoaaGreatDoorXAa
import Derived.RangeFuncBox
import Derived.Deep.RegionHeld3
import Derived.ArgAppend
import Derived.Laws.IdiomStrings
import Derived.Deep.OwnRows
import Derived.OrdersIn
set_option maxHeartbeats 4000000
set_option maxRecDepth 100000
open Array renaming replicate_succ→BY,replicate_zero→BZ
open Fin renaming val→zO
open Go renaming Act→cu,Addr→bI,Boxed→cG,Calls→ax,Exit→mh,Oper→aZ,Program→eI,TypeId→bF,Value→ai,World→ae,callsIn_wide→z_,maxLen→cH,run_takeDeferred→Ab
open Go.Fence renaming wide→gU
open Go.IntKind renaming i64→aQ,wrap_i64→aS
open Go.Proofs.Tryz renaming func205→adz,func209→adB,func265→adL,func60→UB,isAgg3→rM,ntmps205→aeH,ntmps209→aeJ,ntmps60→UP,prog→ah
open Go.RowKit.Below renaming refl→bK
open Go.World renaming alloc_heap_new→bG,cell?_of_block→Eh,putObj_heap_other→kZ
open List renaming append_toArray→Ca,cons_append→s6,drop_eq_getElem_cons→pN,drop_eq_nil_of_le→ux,drop_zero→vW,ext_getElem→On,getD_eq_getElem?_getD→xQ,getElem?_append_right→Ot,getElem?_eq_getElem→bp,getElem?_eq_none→jz,getElem?_range→Vm,getElem_drop→agP,getElem_mem→Cb,length→GO,length_cons→eF,length_nil→pQ,length_set→s',map_append→Ow,map_singleton→agS,mem_append→pR,mem_cons→dG,mem_map→Ox,nil_append→xS,push_toArray→Cd,range→dU,replicate→jY,reverse→agZ,size_toArray→tf
open Nat renaming div_lt_iff_lt_mul→ag2,le_refl→aB,lt_of_lt_of_le→iX,lt_or_ge→fB,mod_lt→rQ,mul_comm→nN,mul_le_mul_left→GS,pow_le_pow_right→GV,pow_pos→OD,pow_succ→mQ,pow_zero→ag8,reduceAdd→xU,reduceSub→Ch
section
namespace Go.Proofs.YteeifhlhpiimoaaGreatDoor
open Go Go.RowKit Go.Shelf
attribute [local go_sem] Oper.semAt_some
theorem QM (gs:List Int) (n N L M:Nat) (hn:gs.length=n) (hT:vI gs=(N:Int)) (hL:N<10000^L) (hnM:n≤M) (hLM:L≤M) (hM:M≤100000) (Bl:∀j,-9999≤gs.getD j 0) (Bf:∀j,gs.getD j 0≤1000000000)
 (g:Nat) (cb:Array ai) (eg:∀args w,(callFunc g args).run ah w=.ok (.enter g args) w) (w:ae)
 (hf:∀(W:ae) (i:Nat),Below w.heap.size w W→ax ah g (#[.int .i64 (i:Int)]++cb) W fun e W'=>e=.returned (.int .i64 (gs.getD i 0))∧∃q,W'=W.drewN q):
 ax ah 249 #[.int .i64 (n:Int),.int .i64 0,.func (.func g) #[] cb] w (ahf w N M):=by
 obtain⟨i0,hi,nD,od,l7⟩:=info_parts Tryz.SA;have HF:=hZ hf;have pb:=hZ Bl;have rY:=hZ Bf;have HN:=hZ hn;have HT:=hZ hT;have HL:=hZ hL;have HI:=hZ hi;have Ax:=hZ nD;have HZ1:=hZ od;have sn:=hZ l7;clear hf Bl Bf hn hT hL hi nD od l7;have w0:aQ.wrap ((n:Int)+1)=((n+1:Nat):Int):=by rw[aS];omega
 go_enter Tryz.func249,Tryz.ntmps249
 go_wp2_with (at_make;refine wpList_make_own _ rfl _ _ 230 rfl w.heap.size 3 i0 (.int .i64 0) 1 Tryz.underlying230 HI.out Ax.out HZ1.out .i64 .i64 _ (n+1) rfl rfl (by first|rfl|omega|simp) (by rw[sn.out];omega) (by unfold cH;omega) (aB _) ?_;intro w1 jq n0)
 have aF:=hZ (Below.F0 (B:=w.heap.size) n0 (fun g hg=>by cases hg) (aB _));have lL:Hid (pg w1 w.heap.size (.slice (some ⟨w.heap.size,0,none⟩) 0 (n+1)) []):=hZ jq;clear jq n0;go_wp2_with fail
 go_loopw [1,7,8,9] (fun cv v iv _ wr=> ∃(i:Nat) (out:List Nat) (c:Int),iv=.int .i64 (i:Int)∧cv=.int .i64 c∧i≤M∧ -1≤c∧c≤200000∧qK (N:Int) gs i out c∧pg wr w.heap.size v out∧Below w.heap.size w wr) (fun _ _ i _ _=>M-(intOf i).toNat)
 case atStart=>exact⟨0,[],0,rfl,rfl,by omega,by omega,by omega,by rw[←HT.out];exact qK.start gs,lL.out,aF.out⟩
 case round=>
  obtain⟨i,out,c,rfl,rfl,hiM,lz,fX,hinv,gb,hB⟩:=hrel;have K9:=hZ hinv;have jg:=hZ gb;have HB:=hZ hB;clear hinv gb hB lL aF;have FF:out.length=i:=K9.out.len
  by_cases Mk:i<n∨c≠0
  ·
   have apY:i<M:=by
    rcases Mk with h|h
    · omega
    · rcases fB i n with q|q
      · omega
      · have:=K9.out.lt (by rw[HN.out];exact q) h HL.out;omega
   have O3:Hid (decide (i<n)=true∨(decide (i<n)=false∧(c !=0)=true)):=hZ (by
    rcases fB i n with q|q
    · left;simp;omega
    · right;refine⟨by simp;omega,?_⟩
      rcases Mk with h|h
      · omega
      · simp[h])
   clear Mk;obtain⟨x,hx⟩:=oQ (gs.getD i 0);have kT:=pb.out i;have jO:=rY.out i;rw[hx] at kT jO;have K5:=hZ (HF.out wr i HB.out);rw[hx] at K5;have HX:=hZ hx;obtain⟨s,hs⟩:=oQ (x+c);(have bU: -10000≤s:=by omega);(have aP:s≤1000200000:=by omega);have j':=hZ FF;have eS:=hZ HB.out.size;clear hx FF;have aal:∀(d:Nat) (c':Int),d<10000→s=(d:Int)+10000*c'→qK (N:Int) gs (i+1) (out++[d]) c':=fun d c' h1 h2=>K9.out.step h1 (by rw[HX.out,hs];exact h2);have bS:=hZ aal;clear aal;rcases ajl s bU with⟨h1,d,hd,gQ⟩|⟨h1,h2,d,k,hk,hd,gQ⟩|⟨h1,h2,d,hd,gQ⟩
   · have b1:decide (s<0)=true:=by simp[h1]
     have iz:=hZ (bS.out d (-1) gQ (by omega));(have wx:aQ.wrap (x+c)=s:=by rw[aS];omega);(have wd:aQ.wrap (s+10000)=(d:Int):=by rw[aS];omega);clear h1 HX
     rcases O3.out with e1|⟨e1,e2⟩<;>
     (go_wp2_with (first
       |(go_at_fn g;refine K5.out.mono ?_;rintro e w2 ⟨rfl,q,rfl⟩)
       |(at_builtin;refine nJ rfl (.tmp 37) (.tmp 39) 230 rfl Iy _ _ i j'.out rfl ((jg.out.drewN _).alloc _) d (wr.drewN q).heap.size #[.int .i64 d] rfl ?hc rfl rfl (by simp[one,nv,Value.oneCell']) (by have:=j'.out;unfold cH;omega) (by have:=j'.out;omega) (by have:=eS.out;simp;omega) ?_;(case hc=>exact bG _ _);intro g3 c3 w3 h3 _ _ _ aK)
       |fail)
      go_roundw
      case rel=>exact⟨i+1,_,-1,by go_num,rfl,by omega,by omega,by omega,iz.out,h3,((Below.QC HB.out _).alloc eS.out _).trans (aK)⟩
      case measure=>simp[intOf];omega)
   · have b1:decide (s<0)=false:=by simp;omega
     (have b2:decide (10000≤s)=true:=by simp;omega);have iz:=hZ (bS.out d (k:Int) gQ (by omega));(have kt:k≤200000:=by omega);(have wx:aQ.wrap (x+c)=s:=by rw[aS];omega);clear h2 HX
     rcases O3.out with e1|⟨e1,e2⟩<;>
     (go_wp2_with (first
       |(go_at_fn g;refine K5.out.mono ?_;rintro e w2 ⟨rfl,q,rfl⟩)
       |(at_builtin;refine nJ rfl (.tmp 37) (.tmp 39) 230 rfl Iy _ _ i j'.out rfl ((jg.out.drewN _).alloc _) d (wr.drewN q).heap.size #[.int .i64 d] rfl ?hc rfl rfl (by simp[one,nv,Value.oneCell']) (by have:=j'.out;unfold cH;omega) (by have:=j'.out;omega) (by have:=eS.out;simp;omega) ?_;(case hc=>exact bG _ _);intro g3 c3 w3 h3 _ _ _ aK)
       |fail)
      go_roundw
      case rel=>exact⟨i+1,_,(k:Int),by go_num,rfl,by omega,by omega,by omega,iz.out,h3,((Below.QC HB.out _).alloc eS.out _).trans (aK)⟩
      case measure=>simp[intOf];omega)
   · have b1:decide (s<0)=false:=by simp;omega
     (have b2:decide (10000≤s)=false:=by simp;omega);have iz:=hZ (bS.out d 0 gQ (by omega));(have wx:aQ.wrap (x+c)=(d:Int):=by rw[aS];omega);subst hd;clear h2 HX
     rcases O3.out with e1|⟨e1,e2⟩<;>
     (go_wp2_with (first
       |(go_at_fn g;refine K5.out.mono ?_;rintro e w2 ⟨rfl,q,rfl⟩)
       |(at_builtin;refine nJ rfl (.tmp 37) (.tmp 39) 230 rfl Iy _ _ i j'.out rfl ((jg.out.drewN _).alloc _) d (wr.drewN q).heap.size #[.int .i64 d] rfl ?hc rfl rfl (by simp[one,nv,Value.oneCell']) (by have:=j'.out;unfold cH;omega) (by have:=j'.out;omega) (by have:=eS.out;simp;omega) ?_;(case hc=>exact bG _ _);intro g3 c3 w3 h3 _ _ _ aK)
       |fail)
      go_roundw
      case rel=>exact⟨i+1,_,0,by go_num,rfl,by omega,by omega,by omega,iz.out,h3,((Below.QC HB.out _).alloc eS.out _).trans (aK)⟩
      case measure=>simp[intOf];omega)
  · obtain rfl:c=0:=by omega
    (have d1:decide (i<n)=false:=by simp;omega);have kC:Hid (gY out=aD N):=hZ (K9.out.done (by rw[HN.out];omega) rfl);clear Mk;go_wp2_with fail;go_ret;exact⟨_,out,rfl,aX.iW jg.out,jg.out.fresh,kC.out,by omega,HB.out⟩
theorem FX (n:Nat):n<10000^(aD n).length:=by have:=Kj (rA n);rwa[om] at this
theorem zm {a b:Nat} (h:a≤b):(aD a).length≤(aD b).length:=by
 rcases fB (aD b).length (aD a).length with q|q
 · have:=MU q;omega
 · exact q
theorem BJ {n k:Nat} (h:n<10000^k):(aD n).length≤k:=by
 rcases fB k (aD n).length with q|q
 · exfalso
   have h1:∀k,(aD (10000^k)).length=k+1:=by
    intro k
    induction k with
    |zero=>rw[ag8,xh (by decide),show 1/10000=0 by decide,oY];rfl
    | succ k ih=>
      have hp:0<10000^k:=OD (by decide);rw[xh (by rw[mQ];omega),eF,mQ,Nat.mul_div_cancel _ (by decide),ih]
   have h2:=h1 k;have h3:=MU (a:=n) (b:=10000^k);have h4:(aD n).length≤(aD (10000^k-1)).length:=zm (by omega)
   have h5:∀k,(aD (10000^k-1)).length≤k:=by
    intro k
    induction k with
    |zero=>rw[ag8,Nat.sub_self,oY];exact aB _
    | succ k ih=>
      have hp:0<10000^k:=OD (by decide);rw[xh (by rw[mQ];omega),eF,show(10000^(k+1)-1)/10000=10000^k-1 by rw[mQ];omega];omega
   have:=h5 k;omega
 · exact q
theorem SR (a b:Nat):(aD (a+b)).length≤max (aD a).length (aD b).length+1:=by
 apply BJ;have h1:=FX a;have h2:=FX b;have h3:10000^(aD a).length≤10000^(max (aD a).length (aD b).length):=GV (by decide) (by omega);have h4:10000^(aD b).length≤10000^(max (aD a).length (aD b).length):=GV (by decide) (by omega);rw[mQ];omega
theorem MV (a:Nat) {d:Nat} (hd:d≤10000):(aD (a*d)).length≤(aD a).length+1:=by
 apply BJ;have h1:=FX a;rw[mQ];have h2:a*d≤a*10000:=GS _ hd;omega
theorem pw {l:List Nat} (h:mr l) (j:Nat):l.getD j 0<10000:=by
 rw[xQ];rcases fB j l.length with q|q
 · rw[bp q];exact h _ (Cb q)
 · rw[jz q];decide
theorem QN {f:Nat→Int} (n j:Nat):((dU n).map f).getD j 0=if j<n then f j else 0:=by
 rw[xQ,List.getElem?_map]
 split
 · rename_i h;rw[Vm h];rfl
 · rename_i h;rw[jz (by simpa using h)];rfl
theorem IC {l:List Nat} {j:Nat} (h:l.length≤j):l.getD j 0=0:=by rw[xQ,jz h];rfl
theorem QT (l m:List Nat) (j:Nat):(Ff l m).getD j 0=((l.getD j 0:Nat):Int)+((m.getD j 0:Nat):Int):=by
 unfold Ff;rw[QN]
 split
 · rfl
 · rw[IC (l:=l) (by omega),IC (l:=m) (by omega)];rfl
theorem QS (l m:List Nat) (h:m.length≤l.length) (j:Nat):(Fe l m).getD j 0=((l.getD j 0:Nat):Int)-((m.getD j 0:Nat):Int):=by
 unfold Fe;rw[QN]
 split
 · rfl
 · rw[IC (l:=l) (by omega),IC (l:=m) (by omega)];rfl
theorem QO (l:List Nat) (k j:Nat):(Fb l k).getD j 0=((l.getD j 0:Nat):Int)*(k:Int):=by
 unfold Fb;rw[QN]
 split
 · rfl
 · rw[IC (l:=l) (by omega)];simp
def LF (w:ae) (n:Nat) (e:Ending) (w':ae):Prop:=∃v,e=.returned v∧aX w' v (aD n)∧gK w.heap.size v∧Below w.heap.size w w'
theorem EY (w:ae) (v:ai) (t:bF):(w.alloc (.cells #[v] t)).cell? ⟨w.heap.size,0,none⟩=some v:=by simp
theorem pj (w:ae) (v:ai) (t:bF):Below w.heap.size w (w.alloc (.cells #[v] t)):=(bK _ _).alloc (aB _) _
theorem al8 (a b:Nat) (v1 v2:ai) (w:ae) (h1:aX w v1 (aD a)) (h2:aX w v2 (aD b)) (ha:(aD a).length≤1000) (hb:(aD b).length≤1000):
 ax ah 205 #[v1,v2] w (LF w (a+b)):=by
 obtain⟨A,c,rfl,fX,eo,fh,hA⟩:=h1;obtain⟨B,d,rfl,fY,gQ,kO,hB⟩:=h2;have qk:=rA a;have wS:=rA b;have hlen:=SR a b;have hval:=ajx (aD a) (aD b);rw[om,om] at hval;obtain⟨W1,b_⟩:=oQ (w.alloc (.cells #[.slice A (aD a).length c] 230));obtain⟨W0,gP⟩:=oQ (W1.alloc (.cells #[.slice B (aD b).length d] 230));have aq:Below w.heap.size w W1:=by rw[←b_];exact pj _ _ _
 have aP:W1.heap.size=w.heap.size+1:=by rw[←b_];simp
 have bU:W0.heap.size=w.heap.size+2:=by rw[←gP];simp[aP]
 have uW:Below W1.heap.size W1 W0:=by rw[←gP];exact pj _ _ _
 have dt:Below w.heap.size w W0:=aq.trans (uW.mono (by omega));have c1:W0.cell? ⟨w.heap.size,0,none⟩=some (.slice A (aD a).length c):=(uW.cell (p:=⟨w.heap.size,0,none⟩) (by simp;omega)).trans (by rw[←b_];exact EY _ _ _);have c2:W0.cell? ⟨w.heap.size+1,0,none⟩=some (.slice B (aD b).length d):=by rw[←gP,←aP];exact EY _ _ _
 have HF:=hZ (QM (Ff (aD a) (aD b)) (max (aD a).length (aD b).length) (a+b) (aD (a+b)).length (max (aD a).length (aD b).length+1) (by simp[Ff]) (by rw[hval];rfl) (FX _) (by omega) hlen (by omega)
  (fun j=>by rw[QT];omega) (fun j=>by rw[QT];have:=pw qk j;have:=pw wS j;omega) 250 #[.pointer (some ⟨w.heap.size,0,none⟩),.pointer (some ⟨w.heap.size+1,0,none⟩)]
  (enters_of Tryz.func250 (by kernel_rfl) rfl) W0 (fun W i hW=>by
    have dK:Below w.heap.size w W:=dt.trans (hW.mono (by omega))
    have:=al7 A B c d (aD a) (aD b) _ _ rfl rfl i w.heap.size (w.heap.size+1) W (by omega) (by omega) ((hA.below dK).more dK.size) ((hB.below dK).more dK.size)
     ((hW.cell (p:=⟨w.heap.size,0,none⟩) (by simp;omega)).trans c1) ((hW.cell (p:=⟨w.heap.size+1,0,none⟩) (by simp;omega)).trans c2) (pw qk) (pw wS)
    rw[QT]
    exact this))
 have de:=hZ dt;obtain⟨n,hn⟩:=oQ ((aD a).length);obtain⟨k,hk⟩:=oQ ((aD b).length);obtain⟨m,hm⟩:=oQ (max n k);rw[hn,hk,hm] at HF;rw[hn] at b_ ha;rw[hk] at gP hb;have l5:m≤1000:=by omega
 rw[hn,hk];have aU:w.heap.size≤W0.heap.size:=by omega
 have gM:=hZ aU;clear hn hk hA hB qk wS hlen hval dt aq uW c1 c2 aP bU fX eo fh fY gQ kO aU;subst gP;subst b_;rcases fB n k with FA|FA
 · obtain rfl:k=m:=by omega
   clear hm
   go_enter adz,aeH
   go_wp2_with (first
    |(go_at_call 249;refine HF.out.mono ?_;rintro e w1 ⟨v,out,rfl,⟨A',c',rfl,fX,eo,fh,Dz⟩,oP,vD,hlen,hb⟩;have iL:=hZ oP;clear oP;have oC:=hZ vD;have bA:=hZ hb;clear vD hb HF)
    |(go_at_call 245;refine(D0 A' c' out out.length rfl fX eo fh w1 Dz (by omega)).mono ?_;rintro e w2 ⟨⟨v2,rfl,gd,eZ⟩,rfl⟩)
    |fail)
   go_ret;exact⟨_,rfl,by rw[←oC.out];exact gd,(eZ _ iL.out).base gM.out,de.out.trans (bA.out.mono gM.out)⟩
 · obtain rfl:n=m:=by omega
   clear hm
   go_enter adz,aeH
   go_wp2_with (first
    |(go_at_call 249;refine HF.out.mono ?_;rintro e w1 ⟨v,out,rfl,⟨A',c',rfl,fX,eo,fh,Dz⟩,oP,vD,hlen,hb⟩;have iL:=hZ oP;clear oP;have oC:=hZ vD;have bA:=hZ hb;clear vD hb HF)
    |(go_at_call 245;refine(D0 A' c' out out.length rfl fX eo fh w1 Dz (by omega)).mono ?_;rintro e w2 ⟨⟨v2,rfl,gd,eZ⟩,rfl⟩)
    |fail)
   go_ret;exact⟨_,rfl,by rw[←oC.out];exact gd,(eZ _ iL.out).base gM.out,de.out.trans (bA.out.mono gM.out)⟩
theorem aa8 (a b:Nat) (d_:b≤a) (v1 v2:ai) (w:ae) (h1:aX w v1 (aD a)) (h2:aX w v2 (aD b)) (ha:(aD a).length≤1000):
 ax ah 207 #[v1,v2] w (LF w (a-b)):=by
 obtain⟨A,c,rfl,fX,eo,fh,hA⟩:=h1;obtain⟨B,d,rfl,fY,gQ,kO,hB⟩:=h2;have qk:=rA a;have wS:=rA b;have Ji:=zm d_;have hlen:(aD (a-b)).length≤(aD a).length:=zm (by omega);have hval:=ajw (aD a) (aD b) Ji;rw[om,om] at hval;obtain⟨W1,b_⟩:=oQ (w.alloc (.cells #[.slice A (aD a).length c] 230));obtain⟨W0,gP⟩:=oQ (W1.alloc (.cells #[.slice B (aD b).length d] 230));have aq:Below w.heap.size w W1:=by rw[←b_];exact pj _ _ _
 have aP:W1.heap.size=w.heap.size+1:=by rw[←b_];simp
 have bU:W0.heap.size=w.heap.size+2:=by rw[←gP];simp[aP]
 have uW:Below W1.heap.size W1 W0:=by rw[←gP];exact pj _ _ _
 have dt:Below w.heap.size w W0:=aq.trans (uW.mono (by omega));have c1:W0.cell? ⟨w.heap.size,0,none⟩=some (.slice A (aD a).length c):=(uW.cell (p:=⟨w.heap.size,0,none⟩) (by simp;omega)).trans (by rw[←b_];exact EY _ _ _);have c2:W0.cell? ⟨w.heap.size+1,0,none⟩=some (.slice B (aD b).length d):=by rw[←gP,←aP];exact EY _ _ _
 have HF:=hZ (QM (Fe (aD a) (aD b)) (aD a).length (a-b) (aD (a-b)).length (aD a).length (by simp[Fe]) (by rw[hval];omega) (FX _) (by omega) hlen (by omega)
  (fun j=>by rw[QS _ _ Ji];have:=pw wS j;omega) (fun j=>by rw[QS _ _ Ji];have:=pw qk j;omega) 252 #[.pointer (some ⟨w.heap.size,0,none⟩),.pointer (some ⟨w.heap.size+1,0,none⟩)]
  (enters_of Tryz.func252 (by kernel_rfl) rfl) W0 (fun W i hW=>by
    have dK:Below w.heap.size w W:=dt.trans (hW.mono (by omega))
    have:=alo A B c d (aD a) (aD b) _ _ rfl rfl i w.heap.size (w.heap.size+1) W (by omega) (by omega) ((hA.below dK).more dK.size) ((hB.below dK).more dK.size)
     ((hW.cell (p:=⟨w.heap.size,0,none⟩) (by simp;omega)).trans c1) ((hW.cell (p:=⟨w.heap.size+1,0,none⟩) (by simp;omega)).trans c2) (pw qk) (pw wS)
    rw[QS _ _ Ji]
    exact this))
 have de:=hZ dt;obtain⟨n,hn⟩:=oQ ((aD a).length);obtain⟨k,hk⟩:=oQ ((aD b).length);rw[hn] at HF;rw[hn] at b_ ha;rw[hk] at gP;rw[hn,hk];have aU:w.heap.size≤W0.heap.size:=by omega
 have gM:=hZ aU;clear hn hk hA hB qk wS hlen hval Ji dt aq uW c1 c2 aP bU fX eo fh fY gQ kO aU d_;subst gP;subst b_
 go_enter Tryz.func207,Tryz.ntmps207
 go_wp2_with (first
  |(go_at_call 249;refine HF.out.mono ?_;rintro e w1 ⟨v,out,rfl,⟨A',c',rfl,fX,eo,fh,Dz⟩,oP,vD,hlen,hb⟩;have iL:=hZ oP;clear oP;have oC:=hZ vD;have bA:=hZ hb;clear vD hb HF)
  |(go_at_call 245;refine(D0 A' c' out out.length rfl fX eo fh w1 Dz (by omega)).mono ?_;rintro e w2 ⟨⟨v2,rfl,gd,eZ⟩,rfl⟩)
  |fail)
 go_ret;exact⟨_,rfl,by rw[←oC.out];exact gd,(eZ _ iL.out).base gM.out,de.out.trans (bA.out.mono gM.out)⟩
theorem Xy (a f:Nat) (hf:f≤10000) (v1:ai) (w:ae) (h1:aX w v1 (aD a)) (ha:(aD a).length≤1000):
 ax ah 246 #[v1,.int .i64 (f:Int)] w (LF w (a*f)):=by
 obtain⟨A,c,rfl,fX,eo,fh,hA⟩:=h1;have qk:=rA a;have hlen:=MV a hf;have hval:=ajq (aD a) f;rw[om] at hval;obtain⟨W1,b_⟩:=oQ (w.alloc (.cells #[.slice A (aD a).length c] 230));obtain⟨W0,gP⟩:=oQ (W1.alloc (.cells #[.int .i64 (f:Int)] 3));have aq:Below w.heap.size w W1:=by rw[←b_];exact pj _ _ _
 have aP:W1.heap.size=w.heap.size+1:=by rw[←b_];simp
 have bU:W0.heap.size=w.heap.size+2:=by rw[←gP];simp[aP]
 have uW:Below W1.heap.size W1 W0:=by rw[←gP];exact pj _ _ _
 have dt:Below w.heap.size w W0:=aq.trans (uW.mono (by omega));have c1:W0.cell? ⟨w.heap.size,0,none⟩=some (.slice A (aD a).length c):=(uW.cell (p:=⟨w.heap.size,0,none⟩) (by simp;omega)).trans (by rw[←b_];exact EY _ _ _);have c2:W0.cell? ⟨w.heap.size+1,0,none⟩=some (.int .i64 (f:Int)):=by rw[←gP,←aP];exact EY _ _ _
 have hmul:∀j,((aD a).getD j 0)*f≤9999*10000:=fun j=>Nat.mul_le_mul (by have:=pw qk j;omega) hf
 have HF:=hZ (QM (Fb (aD a) f) (aD a).length (a*f) (aD (a*f)).length ((aD a).length+1) (by simp[Fb]) (by rw[hval,Int.natCast_mul]) (FX _) (by omega) hlen (by omega)
  (fun j=>by rw[QO,←Int.natCast_mul];omega) (fun j=>by rw[QO,←Int.natCast_mul];have:=hmul j;omega) 266 #[.pointer (some ⟨w.heap.size,0,none⟩),.pointer (some ⟨w.heap.size+1,0,none⟩)]
  (enters_of Tryz.func266 (by kernel_rfl) rfl) W0 (fun W i hW=>by
    have dK:Below w.heap.size w W:=dt.trans (hW.mono (by omega))
    have:=ah7 A c (aD a) _ rfl i f (by omega) w.heap.size (w.heap.size+1) W (by omega) ((hA.below dK).more dK.size)
     ((hW.cell (p:=⟨w.heap.size,0,none⟩) (by simp;omega)).trans c1) ((hW.cell (p:=⟨w.heap.size+1,0,none⟩) (by simp;omega)).trans c2) (pw qk)
    rw[QO]
    exact this))
 have de:=hZ dt;obtain⟨n,hn⟩:=oQ ((aD a).length);rw[hn] at HF;rw[hn] at b_ ha;rw[hn];have aU:w.heap.size≤W0.heap.size:=by omega
 have gM:=hZ aU;clear hn hA qk hlen hval hmul dt aq uW c1 c2 aP bU fX eo fh aU;subst gP;subst b_
 go_enter Tryz.func246,Tryz.ntmps246
 go_wp2_with (first
  |(go_at_call 249;refine HF.out.mono ?_;rintro e w1 ⟨v,out,rfl,⟨A',c',rfl,fX,eo,fh,Dz⟩,oP,vD,hlen,hb⟩;have iL:=hZ oP;clear oP;have oC:=hZ vD;have bA:=hZ hb;clear vD hb HF)
  |(go_at_call 245;refine(D0 A' c' out out.length rfl fX eo fh w1 Dz (by omega)).mono ?_;rintro e w2 ⟨⟨v2,rfl,gd,eZ⟩,rfl⟩)
  |fail)
 go_ret;exact⟨_,rfl,by rw[←oC.out];exact gd,(eZ _ iL.out).base gM.out,de.out.trans (bA.out.mono gM.out)⟩
theorem ud {w:ae} {k:Nat} (h:k<w.heap.size):¬((fun _=>False) k∨mw w k):=by
 rintro(e|e|e)
 · exact e
 · omega
 · omega
theorem AR {w:ae} {n:Nat} (h:n≤w.heap.size) (k:Nat) (e:(fun _=>False) k∨mw w k):n≤k:=by
 rcases e with e|e|e
 · exact(e:False).elim
 · omega
 · omega
def tM {n:Nat} (v:Fin n→ai) (i:Fin n):Array ai:=#[.int .i64 (i.val:Int),v i]
def lP (b1:Nat) (A:Option bI) (U V:ae):Prop:=V.heap[b1]?=U.heap[b1]?∧∀a,A=some a→V.heap[a.block]?=U.heap[a.block]?
theorem lP.trans {b1:Nat} {A:Option bI} {U V W:ae} (h:lP b1 A U V) (k:lP b1 A V W):lP b1 A U W:=⟨k.1.trans h.1,fun a ha=>(k.2 a ha).trans (h.2 a ha)⟩
theorem lP.gH {b1 n:Nat} {A:Option bI} {U V:ae} (hb:b1<n) (hA:∀a,A=some a→a.block<n) (hn:n≤U.heap.size) (h:Below U.heap.size U V):lP b1 A U V:=
 ⟨h.block _ (by omega),fun a ha=>h.block _ (by have:=hA a ha;omega)⟩
theorem lP.put {b1 n k:Nat} {A:Option bI} (hb:b1<n) (hA:∀a,A=some a→a.block<n) (hk:n≤k) (W:ae) (o:Obj):lP b1 A W (W.putObj k o):=
 ⟨kZ (by omega),fun a ha=>kZ (by have:=hA a ha;omega)⟩
theorem dJ.kp {α:Type} {w w':ae} {B b1:Nat} {A:Option bI} {f:α→ai} {l:List α} (h:dJ w B A f l) (k:lP b1 A w w'):dJ w' B A f l:=fun i x hx=>by
 obtain⟨a,e,hl,hc⟩:=h i x hx;exact⟨a,e,hl,(Eh (a:=a.add i) (by rw[lr];exact k.2 a e)).trans hc⟩
theorem J8 (k:Nat):(dU (k+1)).reverse=k::(dU k).reverse:=by rw[List.range_succ,List.reverse_append];rfl
theorem dJ.addr {α:Type} {w:ae} {A:Option bI} {f:α→ai} {l:List α} {B:Nat} (h:dJ w B A f l):∃A0:Option bI,(0<l.length→A0=A)∧∀a,A0=some a→a.block<B:=by
 rcases Nat.eq_zero_or_pos l.length with h0|h0
 · exact⟨none,fun h=>by omega,fun a ha=>by cases ha⟩
 · obtain⟨a,rfl,d_,_⟩:=h.get h0
   exact⟨_,fun _=>rfl,fun a' ha=>by cases ha;exact d_⟩
theorem Qo (A:Option bI) (n c:Nat) (w:ae):
 ax ah 244 #[.slice A n c] w fun e w'=>e=.returned (.func (.func 265) #[] #[.pointer (some ⟨w.heap.size,0,none⟩)])∧w'=w.alloc (.cells #[.slice A n c] 230):=by
 go_enter Tryz.func244,Tryz.ntmps244
 go_wp2;go_ret;exact⟨rfl,rfl⟩
theorem Qp (A A0:Option bI) (l:List Nat) (n:Nat) (hn:l.length=n) (Yt:0<n→A0=A) (cap b1:Nat) (ap0:n≤1000000) (w:ae) (h1:cG w b1 230 (.slice A n cap)) (hA:dJ w w.heap.size A nv l):
 tG ah 265 #[.pointer (some ⟨b1,0,none⟩)] (tM fun i:Fin l.length=>.int .i64 (l[i.val]:Int)) (fun _=>False) (lP b1 A0) (fun xs=>xs.map zO=(dU l.length).reverse) (fun pre=> ∃k,pre.map zO++(dU k).reverse=(dU l.length).reverse) l.length w:=by
 subst hn;intro l0 J Jx W hW hJ L_ hY h0;have k1:cG W b1 230 (.slice A l.length cap):=(hW.block b1 h1.lt).trans h1;have Yv:=hA.below hW;refine callsIn_of_wp adL rfl trivial ?_ rfl;simp only[Tryz.ntmps265,tf,eF,pQ,xU,Ch,BY,BZ,Cd,Ca,xS,s6];have c0:=k1.cell;have HA:=hZ Yv;have H00:=hZ Yt;clear hA Yv h1 Yt
 gi_wp2_with fail
 gi_loopw [3] (fun i wr=> ∃(k:Nat) (pre:List (Fin l.length)),pre.map zO++(dU k).reverse=(dU l.length).reverse∧k≤l.length∧i=.int .i64 ((k:Int)-1)∧cG wr b1 230 (.slice A l.length cap)∧dJ wr w.heap.size A nv l∧J pre wr) (fun i _=>(intOf i+1).toNat)
 case atStart=>exact⟨l.length,[],rfl,by omega,rfl,k1,HA.out,h0⟩
 case round=>
  obtain⟨k,pre,mF,hk,rfl,aq,hA,hj⟩:=hrel;have c1:=aq.cell;have qq:pre.length+k=l.length:=by have:=congrArg GO mF;simpa using this
  have uK:=hZ mF;have sa:=hZ qq;clear k1 h0 c0 HA mF qq
  by_cases ar:0<k
  · obtain⟨m,hm⟩:∃m:Nat,k=m+1:=⟨k-1,by omega⟩
    (have wV:(k:Int)-1=(m:Int):=by omega);(have vt:m<l.length:=by omega);obtain⟨a,rfl,d_,gq⟩:=hA.get vt;unfold nv at gq;obtain rfl:=H00.out (by omega);obtain⟨fn,tmps,assign,body,hy,hR⟩:=hY pre ⟨m,by omega⟩ wr hj (by have:=sa.out;omega)
    dsimp only[tM] at hy
    (have z1:(0:Int)≤(m:Int):=by omega);(have z2:(m:Int)<(l.length:Int):=by omega);have Pe:=hZ wV;have HLA:=hZ hA;have HJ:=hZ hj;have HM:=hZ hm;rw[wV];clear wV hA hj hm
    gi_wp2_with fail
    refine hR.mono ?_;rintro e W3 (⟨rfl,AX,jV⟩|⟨rfl,AY⟩)
    · have aK:cG W3 b1 230 (.slice (some a) l.length cap):=jV.1.trans aq
      have Yu:=HLA.out.kp jV;have c3:=aK.cell;have HA3:=hZ Yu;clear c1 gq Yu
      gi_wp2
      refine⟨⟨m,pre++[⟨m,by omega⟩],?_,by omega,rfl,aK,HA3.out,AX⟩,?_⟩
      · have hr:=uK.out
        rw[HM.out,J8] at hr;rw[←hr];simp
      · simp[intOf]<;>omega
    · gi_wp2
      refine bodyPost_ret (results_none rfl _ _ _) rfl ?_;refine⟨⟨_,rfl⟩,.inr ⟨_,⟨m,?_⟩,AY⟩⟩;have hr:=uK.out;rw[HM.out,J8] at hr;rw[←hr];simp
  · obtain rfl:k=0:=by omega
    gi_wp2_with fail
    go_end0
    exact⟨⟨_,rfl⟩,.inl ⟨_,by simpa using uK.out,hj⟩⟩
def dZ (a b:Int):Int:=if a<b then -1 else if b<a then 1 else 0
theorem aaI (a:Int) (w:ae):ax ah 104 #[.int .i64 a] w fun e w'=>e=.returned (.bool false)∧w=w':=by
 go_enter Tryz.func104,Tryz.ntmps104
 go_wp2_with fail;go_ret;exact⟨by simp,rfl⟩
theorem yy (a b:Int) (w:ae):ax ah 60 #[.int .i64 a,.int .i64 b] w fun e w'=>e=.returned (.int .i64 (dZ a b))∧w=w':=by
 have H1:=hZ (fun w=>aaI a w);have H2:=hZ (fun w=>aaI b w);unfold dZ
 by_cases h:a<b
 · have d1:decide (a<b)=true:=by simp[h]
   rw[if_pos h]
   go_enter UB,UP
   go_wp2_with (first|(go_at_call 104;(with_reducible refine(H1.out _).mono ?_);rintro e w' ⟨rfl,rfl⟩)|(go_at_call 104;(with_reducible refine(H2.out _).mono ?_);rintro e w' ⟨rfl,rfl⟩)|fail)
   go_ret;exact⟨rfl,rfl⟩
 · have d1:decide (a<b)=false:=by simpa using h
   rw[if_neg h]
   by_cases h2:b<a
   · have d2:decide (b<a)=true:=by simp[h2]
     rw[if_pos h2]
     go_enter UB,UP
     go_wp2_with (first|(go_at_call 104;(with_reducible refine(H1.out _).mono ?_);rintro e w' ⟨rfl,rfl⟩)|(go_at_call 104;(with_reducible refine(H2.out _).mono ?_);rintro e w' ⟨rfl,rfl⟩)|fail)
     go_ret;exact⟨rfl,rfl⟩
   · have d2:decide (b<a)=false:=by simpa using h2
     rw[if_neg h2]
     go_enter UB,UP
     go_wp2_with (first|(go_at_call 104;(with_reducible refine(H1.out _).mono ?_);rintro e w' ⟨rfl,rfl⟩)|(go_at_call 104;(with_reducible refine(H2.out _).mono ?_);rintro e w' ⟨rfl,rfl⟩)|fail)
     go_ret;exact⟨rfl,rfl⟩
theorem XG (a b:Nat):dZ (a:Int) (b:Int)=kj a b:=by
 unfold dZ kj
 by_cases h:a<b
 · rw[if_pos (by omega),if_pos h]
 · rw[if_neg (by omega),if_neg h]
   by_cases h2:b<a
   · rw[if_pos (by omega),if_pos h2]
   · rw[if_neg (by omega),if_neg h2]
theorem Td {P:eI} {fn:Func} {p:Tmp} {ty:bF} {a:bI} {v:ai} (h:fn.results=#[.cell p ty]) (tmps:Array ai) (w:ae) (hp:tmps.getD p undef=.pointer (some a))
 (ha:∀w,(isAgg ty).run P w=.ok false w) (hc:w.cell? a=some v):(results fn tmps).run P w=.ok v w:=by
 have ij:tmps[p]?.getD undef=.pointer (some a):=by simpa using hp
 simp[results,h,ij,asAddr,loadVar,ha,hc,go_sem]
theorem abX {n k x:Nat} {p:List Nat} (h:(p++[x])++(dU k).reverse=(dU n).reverse):x<n∧∀j,x<j→j<n→j∈p:=by
 have h':dU k++(x::p.reverse)=dU n:=by
  have:=congrArg agZ h;simpa using this
 have hl:k+(p.length+1)=n:=by have:=congrArg GO h';simpa using this
 have hx:x=k:=by
  have e:(dU k++(x::p.reverse))[k]?=(dU n)[k]?:=by rw[h']
  rw[Ot (by simp),Vm (by omega)] at e;simpa using e
 refine⟨by omega,fun j h1 h2=>?_⟩;have hm:j∈dU k++(x::p.reverse):=by rw[h'];simpa using h2
 rcases pR.1 hm with q|q
 · have:=List.mem_range.1 q;omega
 · rcases dG.1 q with e|e
   · omega
   · exact List.mem_reverse.1 e
theorem ra {l:List Nat} {i:Nat} (h:i<l.length):l.getD i 0=l[i]:=by rw[xQ,bp h];rfl
theorem aio {l m:List Nat} (hl:mr l) (hm:mr m) (jn:l.length=m.length) {p:List (Fin l.length)} {x:Fin l.length} {k:Nat} (h:(p++[x]).map zO++(dU k).reverse=(dU l.length).reverse)
 (he:∀i∈p,l.getD i.val 0=m.getD i.val 0) (bf:l.getD x.val 0≠m.getD x.val 0):kj (cU l) (cU m)=kj (l.getD x.val 0) (m.getD x.val 0):=by
 rw[Ow,agS] at h;obtain⟨h1,h2⟩:=abX h;have hxm:x.val<m.length:=by have:=x.isLt;omega
 rw[ra x.isLt,ra hxm] at bf⊢;refine aip hl hm x.isLt jn ?_ bf;apply On (by simp[jn]);intro i h3 h4;rw[agP,agP];have h5:x.val+1+i<l.length:=by rw[List.length_drop] at h3;omega
 obtain⟨q,hq,pD⟩:=Ox.1 (h2 (x.val+1+i) (by omega) h5);have:=he q hq;rw[pD,ra h5,ra (by omega)] at this;exact this
theorem ain {l m:List Nat} (jn:l.length=m.length) {p:List (Fin l.length)} (h:p.map zO=(dU l.length).reverse) (he:∀i∈p,l.getD i.val 0=m.getD i.val 0):l=m:=by
 apply On jn;intro i h1 h2;have hm:i∈p.map zO:=by rw[h];simpa using h1
 obtain⟨q,hq,pD⟩:=Ox.1 hm;have:=he q hq;rw[pD,ra h1,ra h2] at this;exact this
def VB (w:ae) (z:Int) (e:Ending) (w':ae):Prop:=e=.returned (.int .i64 z)∧Below w.heap.size w w'
theorem Qu (a b:Nat) (v1 v2:ai) (w:ae) (h1:aX w v1 (aD a)) (h2:aX w v2 (aD b)) (ha:(aD a).length≤1000) (hb:(aD b).length≤1000):
 ax ah 209 #[v1,v2] w (VB w (kj a b)):=by
 obtain⟨A,c,rfl,fX,eo,fh,hA⟩:=h1;obtain⟨B,d,rfl,fY,gQ,kO,hB⟩:=h2;obtain⟨n,hn⟩:=oQ ((aD a).length);obtain⟨k,hk⟩:=oQ ((aD b).length);rw[hn] at ha;rw[hk] at hb;rw[hn,hk]
 by_cases FA:n=k
 · subst FA
   refine(z_ (n:=3)).1 ?_;refine callsIn_of_wp_marks adB rfl trivial ?_ rfl;simp only[aeJ,tf,eF,pQ,xU,Ch,BY,BZ,Cd,Ca,xS,s6];have HA:=hZ hA;have HB:=hZ hB;have HN:=hZ hn;have HK:=hZ hk;clear hA hB hn hk;refine wpIn_wide.2 ?_
   go_wp2_with (first
    |(go_at_call 244;refine(Qo _ _ _ _).mono ?_;rintro e w5 ⟨rfl,rfl⟩)
    |fail)
   obtain⟨W0,gP⟩:=oQ ((w.alloc (.cells #[.slice B n d] 230)).alloc (.cells #[.int .i64 0] 3));obtain⟨W1,b_⟩:=oQ (W0.alloc (.cells #[.slice A n c] 230));(have bU:W0.heap.size=w.heap.size+2:=by rw[←gP];simp);(have aP:W1.heap.size=w.heap.size+3:=by rw[←b_];simp[bU]);(have YR:Below W0.heap.size W0 W1:=by rw[←b_];exact pj _ _ _);(have dt:Below w.heap.size w W0:=by rw[←gP];exact((bK _ _).alloc (aB _) _).alloc (by simp) _);have sD:Below w.heap.size w W1:=dt.trans (YR.mono (by omega));have x0:cG W1 w.heap.size 230 (.slice B n d):=by rw[←b_,←gP];exact((Boxed.new w _ _).alloc _).alloc _
   have x1:cG W1 (w.heap.size+1) 3 (.int .i64 0):=by
    have:=(Boxed.new (w.alloc (.cells #[.slice B n d] 230)) 3 (.int .i64 0)).alloc (.cells #[.slice A n c] 230);rw[World.size_alloc,gP,b_] at this;exact this
   have x2:cG W1 (w.heap.size+2) 230 (.slice A n c):=by
    have:=Boxed.new W0 230 (.slice A n c);rw[bU,b_] at this;exact this
   obtain⟨A0,mB,qe⟩:=HA.out.addr;obtain⟨B0,sC,QU⟩:=HB.out.addr;(have jn:(aD a).length=(aD b).length:=by rw[HN.out,HK.out]);rw[HN.out] at mB;rw[HK.out] at sC;have dC:=hZ jn;have rR:=hZ ((HA.out.below sD).more sD.size);have HBv:=hZ HB.out;have x2:cG W1 (w.heap.size+1+1) 230 (.slice A n c):=x2;rw[gP,b_];clear gP b_ jn YR dt;have eO:W0.heap.size=w.heap.size+2:=bU;refine(wpIn_wide (n:=3)).1 ?_
   refine TV (gf:=265) (lb:=#[.pointer (some ⟨w.heap.size+1+1,0,none⟩)]) rfl (enters_of adL (by kernel_rfl) rfl)
    (Qp A A0 (aD a) n HN.out mB c (w.heap.size+1+1) (by omega) W1 x2 rR.out) (bK _ _) (fun k hk=>hk.elim) (fun _=>rfl) (fun h k=>h.trans k)
    (fun W o=>lP.put (n:=w.heap.size+3) (by omega) (fun q hq=>by have:=qe q hq;omega) (by omega) W o)
    (fun pre W=>cG W w.heap.size 230 (.slice B n d)∧cG W (w.heap.size+1) 3 (.int .i64 0)∧Hid (∀i∈pre,(aD a).getD i.val 0=(aD b).getD i.val 0)∧Below w.heap.size w W)
    (fun cd pre W=>cd=.ret∧∃p x,pre=p++[x]∧Hid (∀i∈p,(aD a).getD i.val 0=(aD b).getD i.val 0)∧(aD a).getD x.val 0≠(aD b).getD x.val 0∧cG W (w.heap.size+1) 3 (.int .i64 (kj ((aD a).getD x.val 0) ((aD b).getD x.val 0)))∧Below w.heap.size w W)
    (fun s U V h t=>⟨t.boxed h.1 (ud (by omega)),t.boxed h.2.1 (ud (by omega)),h.2.2.1,t.below h.2.2.2 (aB _) (AR (by omega))⟩)
    (fun cd s U V h t=>by
      obtain⟨e,p,x,e2,h1,h2,h3,h4⟩:=h
      exact⟨e,p,x,e2,h1,h2,t.boxed h3 (ud (by omega)),t.below h4 (aB _) (AR (by omega))⟩)
    ⟨x0,x1,hZ (fun i hi=>by cases hi),sD⟩ ?a1 ?assign ?body ?done ?stop
   case assign=>
    intro l x W K hK
    dsimp only[tM]
    gi_wp2
    exact hK
   case body=>
    rintro l0 pre x W hW ⟨kT,jO,mF,dK⟩ pB;(have oc:x.val<n:=by have:=x.isLt;have:=HN.out;omega);obtain⟨p,hp⟩:=oQ ((aD a).getD x.val 0);obtain⟨q,hq⟩:=oQ ((aD b).getD x.val 0);have hp9:=pw (rA a) x.val;have yZ:=pw (rA b) x.val;obtain⟨bb,rfl,iQ,Ra⟩:=(HBv.out.below dK).get (i:=x.val) (by have:=dC.out;have:=x.isLt;omega);unfold nv at Ra;rw[←ra,hq] at Ra;rw[hp] at hp9;rw[hq] at yZ;rw[←ra,hp];have c0:=kT.cell;have c1:=jO.cell;have f1:=jO.frozen;(have z1:(0:Int)≤(x.val:Int):=by omega);(have z2:(x.val:Int)<(n:Int):=by omega);have HP:=hZ hp;have HQ:=hZ hq;have qW:=hZ kT;have tF:=hZ jO;have fi:=hZ dK;obtain⟨xi,xd⟩:=oQ (x.val);rw[xd] at z1 z2 Ra⊢;have HXI:=hZ xd;have Fv:∀V,Below W.heap.size W V→lP (w.heap.size+1+1) A0 W V:=fun V h=>lP.gH (n:=w.heap.size+3) (by omega) (fun q hq=>by have:=qe q hq;omega) (by have:=hW;omega) h;have O_:=hZ Fv;clear hp hq kT jO dK x0 x1 x2 xd oc Fv mB qe sC QU
    by_cases kz:p=q
    · subst kz
      have d1:((p:Int)==(p:Int))=true:=by simp
      gi_wp2_with fail
      refine⟨KeepsFrom.gH (bK _ _),O_.out _ (bK _ _),qW.out,tF.out,hZ ?_,fi.out⟩;intro i hi;rcases pR.1 hi with h|h
      · exact mF.out i h
      · obtain rfl:=List.mem_singleton.1 h
        rw[HP.out,HQ.out]
    · have d1:((p:Int)==(q:Int))=false:=by simp;omega
      have WX:=hZ (tF.out.set (.int .i64 (kj p q)));have eS:=hZ (fi.out.setCell (p:=⟨w.heap.size+1,0,none⟩) (by simp) (.int .i64 (kj p q)))
      gi_wp2_with fail
      refine⟨trivial,CallsIn.mono (F:=gU) (n:=0) (z_.2 (yy _ _ _)) ?_⟩;rintro e W2 ⟨rfl,rfl⟩;rw[XG];obtain⟨z,hz⟩:=oQ (kj p q);have HZ:=hZ hz;rw[hz] at WX eS⊢;clear hz
      gi_wp2_with fail
      refine⟨(KeepsOthers.setCell _ _ _).from _,rfl,pre,x,rfl,mF,?_,?_,eS.out⟩
      · rw[HP.out,HQ.out];exact kz
      · rw[HP.out,HQ.out,HZ.out];exact WX.out
   case done=>
    rintro xs W hS ⟨kT,jO,mF,dK⟩ hK
    have d_:a=b:=by
     have:=ain dC.out hS mF.out;rw[←om a,this,om]
    (have hz:kj a b=0:=by rw[d_];unfold kj;simp);have Ax:=hZ hz;have c1:=jO.cell;have f1:=jO.frozen;have wP:=dK.setCell (p:=⟨w.heap.size+1,0,none⟩) (by simp) (.int .i64 0);have HX:=hZ (jO.set (.int .i64 0));have fR:=hZ hK;have fi:=hZ wP;clear hS kT jO mF dK hK d_ hz wP x0 x1 x2 mB qe sC QU;go_wp2_with fail;refine⟨by simp,.inl ⟨_,_,rfl,Ab (((KeepsOthers.setCell _ _ _).from 0).2 _ _ (Nat.zero_le _) fR.out rfl),?_⟩⟩;have jT:cG ((W.setCell ⟨w.heap.size+1,0,none⟩ (.int .i64 0)).putObj W1.heap.size (.deferred none)) (w.heap.size+1) 3 (.int .i64 0):=(aO.putObj (Z:=fun k=>k=W1.heap.size) _ _ _ rfl).boxed HX.out (by omega);refine⟨_,Td (a:=(⟨w.heap.size+1,0,none⟩:bI)) rfl _ _ rfl rM jT.cell,by rw[Ax.out],?_⟩;exact(aO.putObj (Z:=fun k=>k=W1.heap.size) _ _ _ rfl).below fi.out (aB _) (fun k hk=>by omega)
   case stop=>
    rintro cd pre W ⟨k,hk⟩ ⟨rfl,p,x,rfl,mF,bf,jO,dK⟩ hK;have hz:=aio (rA a) (rA b) dC.out hk mF.out bf;rw[om,om] at hz;rw[←hz] at jO;have HX:=hZ jO;have fR:=hZ hK;have fi:=hZ dK;clear hk mF bf jO dK hK hz x0 x1 x2 mB qe sC QU
    gi_wp2_with fail
    refine⟨by simp,.inl ⟨_,_,rfl,Ab fR.out,?_⟩⟩;have jT:cG (W.putObj W1.heap.size (.deferred none)) (w.heap.size+1) 3 (.int .i64 (kj a b)):=(aO.putObj (Z:=fun k=>k=W1.heap.size) _ _ _ rfl).boxed HX.out (by omega);refine⟨_,Td (a:=(⟨w.heap.size+1,0,none⟩:bI)) rfl _ _ rfl rM jT.cell,rfl,?_⟩;exact(aO.putObj (Z:=fun k=>k=W1.heap.size) _ _ _ rfl).below fi.out (aB _) (fun k hk=>by omega)
 · have hz:dZ (n:Int) (k:Int)=kj a b:=by
    rw[XG];unfold kj;rcases fB n k with h|h
    · have:=MU (a:=a) (b:=b) (by omega)
      rw[if_pos h,if_pos this]
    · have:=MU (a:=b) (b:=a) (by omega)
      rw[if_neg (by omega),if_pos (by omega),if_neg (by omega),if_pos this]
   have HZ:=hZ hz;(have d1:((n:Int)==(k:Int))=false:=by simp;omega);clear hz hA hB hn hk FA
   go_enter adB,aeJ
   go_wp2_with (first
    |(go_at_call 60;refine(yy _ _ _).mono ?_;rintro e w5 ⟨rfl,rfl⟩)
    |fail)
   rw[HZ.out];refine bodyPost_ret (v:=.int .i64 (kj a b)) (Td (a:=(⟨w.heap.size+1,0,none⟩:bI)) rfl _ _ rfl rM (by simp)) rfl ⟨rfl,?_⟩;exact((bK _ _).alloc (aB _) _).alloc (by simp) _
theorem abx {X Q R M d:Nat} (hM:0<M) (hX:X=Q*M+R) (hR:R<M) (hd:d<10000):
 d+10000*X=((d+10000*R)/M+10000*Q)*M+(d+10000*R)%M∧(d+10000*R)/M<10000∧(d+10000*R)%M<M:=by
 have h1:=Nat.div_add_mod (d+10000*R) M;have h2:=rQ (d+10000*R) hM;refine⟨?_,?_,h2⟩
 · rw[Nat.add_mul,nN ((d+10000*R)/M) M,hX,Nat.mul_add,Nat.mul_assoc]
   omega
 · rw[ag2 hM]
   have:10000*(R+1)≤10000*M:=GS _ hR;omega
theorem aof {R M d:Nat} (hM:0<M):R<(d+1)*M↔R/M≤d:=by
 rw[←ag2 hM];omega
structure yr (l q:List Nat) (M i R:Nat):Prop where
 len:q.length=l.length
 oG:mr q
 val:cU (l.drop i)=cU (q.drop i)*M+R
 lt:R<M
theorem yr.start (l:List Nat) {M:Nat} (hM:0<M):yr l (jY l.length 0) M l.length 0:=
 ⟨by simp,fun d hd=>by rw[List.eq_of_mem_replicate hd];decide,by rw[ux (aB _),ux (by simp)];simp[cU],hM⟩
theorem yr.step {l q:List Nat} {M i R:Nat} (h:yr l q M (i+1) R) (hl:mr l) (hi:i<l.length) (hM:0<M):yr l (q.set i ((l[i]+10000*R)/M)) M i ((l[i]+10000*R)%M):=by
 have hd:=hl l[i] (Cb hi);obtain⟨s1,s2,s3⟩:=abx hM h.val h.lt hd;refine⟨by rw[s'];exact h.len,fun d wQ=>?_,?_,s3⟩
 · rcases List.mem_or_eq_of_mem_set wQ with e|e
   · exact h.oG d e
   · rw[e];exact s2
 · have hq:i<(q.set i ((l[i]+10000*R)/M)).length:=by rw[s',h.len];exact hi
   rw[pN hi,pN hq,cU,cU,s1,List.getElem_set_self,List.drop_set_of_lt (by omega)]
theorem yr.done {l q:List Nat} {M R:Nat} (h:yr l q M 0 R) (hM:0<M):gY q=aD (cU l/M)∧R=cU l%M:=by
 have hv:=h.val;rw[vW,vW] at hv;have hq:cU l/M=cU q:=by rw[hv,nN,Nat.mul_add_div hM,Nat.div_eq_of_lt h.lt,Nat.add_zero]
 refine⟨by rw[hq,MW h.oG],?_⟩;rw[hv,nN,Nat.mul_add_mod,Nat.mod_eq_of_lt h.lt]
theorem aol {d R:Nat} (hd:d<10000):gY (d::aD R)=aD (d+10000*R):=by
 have hg:mr (d::aD R):=fun x hx=>by
  rcases dG.1 hx with rfl|q
  · exact hd
  · exact rA R x q
 rw[←MW hg,cU,om]
def Xi (w:ae) (n:Nat) (p:Nat→Bool) (e:Ending) (w':ae):Prop:=∃q:Nat,e=.returned (.int .i64 (q:Int))∧q≤n∧(∀i,i<q→p i=false)∧(q<n→p q=true)∧Below w.heap.size w w'
theorem anf (n:Nat) (hn:n≤1000000) (p:Nat→Bool) (ZQ:∀i j,i≤j→p i=true→p j=true) (g:Nat) (cb:Array ai) (eg:∀args w,(callFunc g args).run ah w=.ok (.enter g args) w) (w:ae)
 (hf:∀(W:ae) (i:Nat),Below w.heap.size w W→i<n→ax ah g (#[.int .i64 (i:Int)]++cb) W fun e W'=>e=.returned (.bool (p i))∧Below W.heap.size W W'):
 ax ah 248 #[.int .i64 (n:Int),.func (.func g) #[] cb] w (Xi w n p):=by
 have HF:=hZ hf;have HM:=hZ ZQ;clear hf ZQ
 go_enter Tryz.func248,Tryz.ntmps248
 go_wp2_with fail
 go_loopw [5,6,7] (fun a b _ wr=> ∃(lo hi:Nat),a=.int .i64 (lo:Int)∧b=.int .i64 (hi:Int)∧lo≤hi∧hi≤n∧Hid (∀i,i<lo→p i=false)∧Hid (hi<n→p hi=true)∧Below w.heap.size w wr) (fun a b _ _=>(intOf b-intOf a).toNat)
 case atStart=>exact⟨0,n,rfl,rfl,by omega,by omega,hZ (fun i h=>by omega),hZ (fun h=>by omega),bK _ _⟩
 case round=>
  obtain⟨lo,hi,rfl,rfl,h1,h2,HL,HH,hB⟩:=hrel;have HB:=hZ hB;clear hB
  by_cases ar:lo<hi
  · obtain⟨m,hm⟩:=oQ ((lo+hi)/2)
    (have l5:lo≤m:=by omega);(have fT:m<hi:=by omega);(have d1:decide (lo<hi)=true:=by simp[ar]);have HC:=hZ (HF.out wr m HB.out (by omega));(have wV:((lo:Int)+(hi:Int))/2=(m:Int):=by omega);clear hm;obtain⟨b,hb⟩:=oQ (p m);rw[hb] at HC;have oB:=hZ hb;clear hb;cases b
    · go_wp2_with (first|(go_at_fn g;refine HC.out.mono ?_;rintro e w2 ⟨rfl,aA⟩)|fail)
      go_roundw
      case rel=>
       refine⟨m+1,hi,by go_num,rfl,by omega,by omega,hZ (fun i h=>?_),HH,HB.out.trans (aA.mono HB.out.size)⟩;obtain⟨c,hc⟩:=oQ (p i);cases c
       · exact hc
       · have:=HM.out i m (by omega) hc;rw[oB.out] at this;cases this
      case measure=>simp[intOf];omega
    · go_wp2_with (first|(go_at_fn g;refine HC.out.mono ?_;rintro e w2 ⟨rfl,aA⟩)|fail)
      go_roundw
      case rel=>exact⟨lo,m,rfl,rfl,by omega,by omega,HL,hZ (fun _=>oB.out),HB.out.trans (aA.mono HB.out.size)⟩
      case measure=>simp[intOf];omega
  · obtain rfl:lo=hi:=by omega
    (have d1:decide (lo<lo)=false:=by simp);go_wp2_with fail;go_ret;exact⟨lo,rfl,h2,HL.out,HH.out,HB.out⟩
def sR (R M d:Nat):Bool:=decide (R<(d+1)*M)
theorem aoe (R M d:Nat):decide (0<kj ((d+1)*M) R)=sR R M d:=by
 unfold sR kj
 by_cases h:R<(d+1)*M
 · rw[if_neg (by omega),if_pos h];simp[h]
 · by_cases h2:(d+1)*M<R
   · rw[if_pos h2];simp[h]
   · rw[if_neg h2,if_neg h];simp[h]
theorem alV (d M R:Nat) (hd:d≤9998) (vm vr:ai) (b1 b2:Nat) (w:ae) (h1:w.cell? ⟨b1,0,none⟩=some (.func (.func 246) #[vm] #[])) (h2:w.cell? ⟨b2,0,none⟩=some vr)
 (hM:aX w vm (aD M)) (hR:aX w vr (aD R)) (ZH:(aD M).length≤900) (hlR:(aD R).length≤1000):
 ax ah 247 #[.int .i64 (d:Int),.pointer (some ⟨b1,0,none⟩),.pointer (some ⟨b2,0,none⟩)] w fun e w'=>e=.returned (.bool (sR R M d))∧Below w.heap.size w w':=by
 have aq:=Qt h1;have aA:=Qt h2;have w1:aQ.wrap ((d:Int)+1)=((d+1:Nat):Int):=by rw[aS];omega
 have KZ:=hZ (Xy M (d+1) (by omega) vm w.drew (show aX w.drew vm (aD M) from hM) (by omega))
 have VO:Hid (∀W v,Below w.heap.size w W→aX W v (aD (M*(d+1)))→ax ah 209 #[v,vr] W (VB W (kj (M*(d+1)) R))):=hZ (fun W v hb hv=>
  Qu _ _ v vr W hv (hR.below hb) (by have:=MV M (d:=d+1) (by omega);omega) hlR)
 have HT:=hZ (aoe R M d);rw[nN] at HT;obtain⟨t,ht⟩:=oQ (sR R M d);rw[ht] at HT⊢;have HS:Hid (∀W,Below w.heap.size w W→W.cell? ⟨b1,0,none⟩=some (.func (.func 246) #[vm] #[])∧W.cell? ⟨b2,0,none⟩=some vr):=hZ (fun W hb=>⟨(hb.cell (p:=⟨b1,0,none⟩) aq).trans h1,(hb.cell (p:=⟨b2,0,none⟩) aA).trans h2⟩);have HD:Hid (Below w.heap.size w w.drew):=hZ (Below.drew (bK _ _));clear hM hR ht h1 h2 aq aA
 go_enter Tryz.func247,Tryz.ntmps247
 go_wp2_with fail
 go_region_held3 (fun W=>W.cell? ⟨b1,0,none⟩=some (.func (.func 246) #[vm] #[])∧W.cell? ⟨b2,0,none⟩=some vr)
  (first|exact HS.out _ HD.out|exact HS.out _ ‹Below w.heap.size w _›|fail)
  (first
    |(go_at_call 246;refine KZ.out.mono ?_;rintro e w2 ⟨v,rfl,hv,-,iQ⟩;have Me:=HD.out.trans iQ;clear iQ)
    |(go_at_call 209;refine(VO.out _ _ Me hv).mono ?_;rintro e w3 ⟨rfl,lY⟩;have ajI:=Me.trans (lY.mono Me.size);clear lY Me)
    |fail)
 go_wp2_with fail;go_ret;exact⟨congrArg (fun b=>Ending.returned (.bool b)) HT.out,ajI⟩
structure uD {α:Type} (w:ae) (B g cap:Nat) (f:α→ai) (l:List α):Prop where
 base:B≤g
 lt:g<w.heap.size
 le:l.length≤cap
 max:cap≤cH
 cell:∀i x,l[i]?=some x→w.cell? ⟨g,i,none⟩=some (f x)
 spare:∀i,i<cap→(w.cell? ⟨g,i,none⟩).isSome=true∧w.frozen? ⟨g,i,none⟩=false
section
variable {α:Type} {P:eI} {w w':ae} {B g cap:Nat} {f:α→ai} {l:List α}
theorem uD.row (h:uD w B g cap f l):ew w g f l:=⟨h.lt,h.cell,fun i hi=>(h.spare i (by have:=h.le;omega)).2⟩
theorem uD.keep (h:uD w B g cap f l) (hs:w.heap.size≤w'.heap.size) (hb:w'.heap[g]?=w.heap[g]?):uD w' B g cap f l:=
 ⟨h.base,iX h.lt hs,h.le,h.max,fun i x hx=>(Eh (a:=⟨g,i,none⟩) hb).trans (h.cell i x hx),
   fun i hi=>⟨by rw[Eh (a:=⟨g,i,none⟩) hb];exact(h.spare i hi).1,(World.frozen?_of_block (a:=⟨g,i,none⟩) hb).trans (h.spare i hi).2⟩⟩
theorem uD.alloc (h:uD w B g cap f l) (o:Obj):uD (w.alloc o) B g cap f l:=h.keep (by simp) (Below.heap_alloc _ _ _ h.lt)
theorem uD.drew (h:uD w B g cap f l):uD w.drew B g cap f l:=h.keep (aB _) rfl
end
def nE (l:List Nat) (M:Nat) (pre:List (Fin l.length)):List Nat×Nat:=pre.foldl (fun s i=>(s.1.set i.val ((l.getD i.val 0+10000*s.2)/M),(l.getD i.val 0+10000*s.2)%M)) (jY l.length 0,0)
theorem SY (l:List Nat) (M:Nat) (pre:List (Fin l.length)) (i:Fin l.length):nE l M (pre++[i])=((nE l M pre).1.set i.val ((l.getD i.val 0+10000*(nE l M pre).2)/M),(l.getD i.val 0+10000*(nE l M pre).2)%M):=by
 unfold nE;rw[List.foldl_append];rfl
theorem SX {l:List Nat} {M:Nat} (hM:0<M) (pre:List (Fin l.length)):(nE l M pre).2<M∧(nE l M pre).1.length=l.length:=by
 rcases abi pre with rfl|⟨p,x,rfl⟩
 · exact⟨hM,by simp[nE]⟩
 · rw[SY]
   refine⟨rQ _ hM,?_⟩;rw[s']
   have:∀(q:List (Fin l.length)),(nE l M q).1.length=l.length:=by
    intro q
    have:∀(q:List (Fin l.length)) (s:List Nat×Nat),s.1.length=l.length→(q.foldl (fun s i=>(s.1.set i.val ((l.getD i.val 0+10000*s.2)/M),(l.getD i.val 0+10000*s.2)%M)) s).1.length=l.length:=by
     intro q
     induction q with
     |nil=>intro s h;exact h
     |cons y q ih=>intro s h;exact ih _ (by simpa using h)
    exact this q _ (by simp)
   exact this p
theorem alU {l:List Nat} {M:Nat} (hl:mr l) (hM:0<M):∀(m k:Nat) (pre:List (Fin l.length)),pre.length=m→pre.map zO++(dU k).reverse=(dU l.length).reverse→yr l (nE l M pre).1 M k (nE l M pre).2:=by
 intro m
 induction m with
 | zero=>
   intro k pre h0 h;obtain rfl:=List.length_eq_zero_iff.1 h0;(have:k=l.length:=by have:=congrArg GO h;simpa using this);subst this
   exact yr.start l hM
 | succ m ih=>
   intro k pre h0 h;rcases abi pre with rfl|⟨p,x,rfl⟩
   · simp at h0
   · rw[Ow,agS] at h
     have hx:x.val=k:=by
      obtain⟨h1,h2⟩:=abX h
      have h':dU k++(x.val::(p.map zO).reverse)=dU l.length:=by
       have:=congrArg agZ h;simpa using this
      (have ga:k+(p.length+1)=l.length:=by have:=congrArg GO h';simpa using this);(have e:(dU k++(x.val::(p.map zO).reverse))[k]?=(dU l.length)[k]?:=by rw[h']);rw[Ot (by simp),Vm (by omega)] at e;simpa using e
     have hi:=ih (k+1) p (by simpa using h0) (by rw[J8,←h,hx];simp);(have hk:k<l.length:=by have:=x.isLt;omega);have hs:=hi.step hl hk hM;rw[SY,hx,ra hk];exact hs
theorem alW {R M q:Nat} (hM:0<M) (hR:R/M<10000) (h1:∀i,i<q→sR R M i=false) (h2:q<9999→sR R M q=true) (h3:q≤9999):q=R/M:=by
 have ht:∀d,sR R M d=true↔R/M≤d:=fun d=>by unfold sR;rw[decide_eq_true_iff];exact aof hM
 have hq:q≤R/M:=by
  rcases fB (R/M) q with h|h
  · have:=h1 _ h
    rw[(ht _).2 (aB _)] at this;cases this
  · exact h
 rcases fB q 9999 with h|h
 · have:=(ht _).1 (h2 h);omega
 · omega
theorem aod {R M:Nat}:∀i j,i≤j→sR R M i=true→sR R M j=true:=fun i j h hi=>by
 unfold sR at*;simp only[decide_eq_true_eq] at*;exact iX hi (Nat.mul_le_mul_right _ (by omega))
theorem ao3 {α:Type} {F:Fence} {nn:Nat} {P:eI} {w:ae} {B:Nat} {e:bF} {size bytes:Nat} {f:α→List ai} {ops:Array aZ} {rest:List aZ} {o:aZ} {a:cu} {Q:mh→cu→ae→Prop} (ct:o.guard=none) (s x:Operand) (t:bF)
 (ho:o.op=.call {callee:=.builtin .append,args:=#[s,x],argTypes:=#[t,t]}) (E:gi P t e size bytes) (hf:∀x,(f x).length=size) (v:ai) (l:List α) (hs:a.eval s=v) (h:OL w B e size f v l) (A:Option bI) (m:List α) (k c:Nat) (hk:m.length=k) (hx:a.eval x=.slice A k c) (lz:A=none→c=0)
 (hA:∀j x,(m.flatMap f)[j]?=some x→∃a,A=some a∧w.cell? (a.add j)=some x) (kP:∀x∈m,∀u∈f x,u.oneCell'=true) (qd:l.length+k≤cH) (qj:(l.length+k)*bytes≤140737488355328) (hB:B≤w.heap.size)
 (sI:∀v' w',OL w' B e size f v' (l++m)→w.grownBy w' v.ownBlock→Below B w w'→wpListIn F nn P ops Q rest (a.put o.dst v') w'):wpListIn F nn P ops Q (o::rest) a w:=by
 refine wpListIn_plain ct fun K hK=>?_;obtain⟨v',w',r1,r2,r3,r4⟩:=h.Ts (P:=P) E o.type hf A m k c hk lz hA kP qd qj hB;unfold Oper.wpIn;refine⟨?_,?_⟩
 · simp[Oper.about,ho,resolve,Target.leads,Sem.run_pure]
 · rw[Oper.semAt_plain F _ _ (by rw[ho];intro c kM;cases kM)]
   simp[execOp,ho,resolve,invoke,builtin,hs,hx,r1,Result.andThen];exact hK _ _ (sI v' w' r2 r3 r4)
def qY (Q:mh→cu→ae→Prop):mh→cu→ae→Prop
 |.panic _,_,_=>False
 |.outgrown,_,_=>False
 |e,a,w=>Q e a w
theorem qY.normal {Q:mh→cu→ae→Prop} {a:cu} {w:ae} (h:Q .normal a w):qY Q .normal a w:=h
theorem qY.lets {Q:mh→cu→ae→Prop} (h:LetsOut (qY Q)):False:=by
 obtain⟨a,w,h⟩:=h;exact h
def MP (ops:Array aZ):Bool:=ops.toList.all fun o=>match o.op with|.defer _=>false|_=>true
theorem alC {ops:Array aZ} (h:MP ops=true) {i:Nat} {o:aZ} (hi:ops[i]?=some o):∀c,o.op≠.defer c:=by
 intro c;intro e;unfold MP at h;rw[List.all_eq_true] at h
 have hm:o∈ops.toList:=by
  obtain⟨h1,h2⟩:=Array.getElem?_eq_some_iff.1 hi;rw[←h2];exact Array.mem_toList_iff.2 (Array.getElem_mem h1)
 have:=h o hm;rw[e] at this;cases this
theorem alK {l n:Nat} {P:eI} {o:aZ} {a:cu} {w:ae} {K K':cu→ae→Prop} {Q:mh→cu→ae→Prop} (wX:∀c,o.op≠.defer c) (hK:∀a w,K a w→K' a w) (h:o.wp P a w K (qY Q)):
 o.wpIn (gU.inRound l) n P a w K' Q:=by
 refine⟨fun _ _=>trivial,?_⟩;rw[Oper.semAt_plain _ _ _ wX];unfold Oper.wp at h;generalize (execOp a.eval o).run P w=r at*
 cases r with
 | ok x w'=>
   cases x<;>simp only[Oper.upon,Oper.uponIn] at h⊢
   case value u=>exact hK _ _ h
   case skip=>exact hK _ _ h
   case defer d=>exact hK _ _ h
   case enter f args=>
    refine⟨fun h=>by simp[gU] at h,?_⟩;refine CallsIn.mono (F:=gU) (n:=n-1) (z_.2 h) ?_;intro e BS he
    cases e with
    |returned v=>exact hK _ _ he
    |panicked c=>exact(he:False).elim
    |outgrown=>exact(qY.lets he).elim
   case row row args=>
    refine⟨fun h=>by simp[gU] at h,?_⟩;intro c cs _;obtain⟨v,BS,hr,hs⟩:=h c cs
    exact⟨v,BS,hK _ _ hr,stepsIn_wide.2 hs⟩
 | halt x w'=>
   cases x<;>simp only[Oper.upon,Oper.uponIn] at h⊢
   case panic v=>exact(h:False).elim
theorem LI {l n:Nat} {P:eI} {md:Region.Mode} {ops:Array aZ} {Q:mh→cu→ae→Prop} {S:ae→Prop} (wX:MP ops=true):
 ∀(fuel:Nat) (listed:Array Bool) (a:cu) (w:ae),wpAnyH P md ops (qY Q) S fuel listed a w→wpAnyIn (gU.inRound l) n P md ops Q fuel listed a w
 |0,_,_,_,h=>h
 | fuel+1,listed,a,w,h=>by
   refine⟨h.1,fun i hi=>?_⟩;have h2:=h.2 i hi;unfold wpOp at h2;unfold wpOpIn
   cases ho:ops[i]? with
   |none=>rw[ho] at h2;exact LI wX fuel _ a w h2.2
   | some o=>
     rw[ho] at h2;simp only at h2⊢
     split
     · rename_i hw
       rw[if_pos hw] at h2;rcases h2 with h2|⟨_,h2⟩
       · exact alK (alC wX ho) (fun a w h=>LI wX fuel _ a w h.2) h2
       · exact(qY.lets h2).elim
     · rename_i hw
       rw[if_neg hw] at h2;exact⟨fun _ _=>trivial,LI wX fuel _ _ _ h2.2⟩
theorem NI {l n:Nat} {P:eI} {ops:Array aZ} {Q:mh→cu→ae→Prop} {S:ae→Prop} {id:Nat} {a:cu} {w:ae} (hm:P.follows .mixedOrders=true) (wX:MP ops=true) (hS:S w.drew)
 (h:S w.drew→wpAnyH P .any ops (qY Q) S ops.size (Array.replicate ops.size false) a w.drew):(Code.region id ops true).wpIn (gU.inRound l) n P Q a w:=
 wpIn_region_any hm (LI wX _ _ _ _ (h hS))
end Go.Proofs.YteeifhlhpiimoaaGreatDoor
end
