/-
  Contract of package integer's Div. Conditions: the texts are valid integers of at most 1000000 bytes, the second one above 0; the table of powers stands. Contract of package rational's Valid. Conditions: the texts have at most 1000000 bytes; the table of powers stands. Fractions compared by their whole parts, and what is left upside down: plainly. No condition. Contract of package rational's Compare. Conditions: the texts have at most 1000000 bytes; the table of powers stands. Contract of package enclosure's Valid. Conditions: the texts have at most 1000000 bytes; the table of powers stands. Contracts of package entry's parts of shapes. No condition. Entries as records; contracts of the fields' functions. No condition. Contracts of package entry's further conditions. Conditions: the texts have at most 1000000 bytes; the table of powers stands.
-/
import Derived.Test.YteeifhlhpiimoaaGreatDoorZAd
import Derived.Deep.RegionHeld3
import Derived.KernelRfl
import Derived.Test.YteeifhlhpiimoaaGreatDoorZAa
import Derived.ScopeJumps
import Derived.WalkMore
import Derived.Deep.RegionHeld
import Derived.BigRegion
set_option maxHeartbeats 8000000
set_option maxRecDepth 100000
section
namespace Go.Proofs.YteeifhlhpiimoaaGreatDoor
open Go Go.RowKit Go.Shelf
attribute [local go_sem] Oper.semAt_some
def sgT (neg:Bool) (n:Nat):List UInt8:=(if neg&&decide (n≠0) then[45] else[])++decS n
theorem sgT_int (neg:Bool) (n:Nat):sgT neg n=intS (if neg then -(n:Int) else n):=by
 unfold sgT intS;cases neg
 · simp only[Bool.false_and,Bool.false_eq_true,if_false,List.nil_append]
   rw[if_neg (by omega)];rfl
 · rcases Nat.eq_zero_or_pos n with rfl|h
   · simp
   · have:decide (n≠0)=true:=by simp;omega
     simp only[this,Bool.and_self,if_true];rw[if_pos (by omega)];simp
theorem text_sg (neg:Bool) (n:Nat) (v:Value) (w:World) (h:LsAt w v (ofN n)) (hl:(decS n).length≤200) (hp:Pow10 w):
 Calls Tryz.prog 208 #[.agg #[.bool neg,v]] w fun e w'=>e=.returned (.tuple #[.string ⟨(sgT neg n).toArray⟩,.int .i64 0])∧Below w.heap.size w w':=by
 have h5:(ofN n).length≤50:=by
  apply ofN_len_pow;have h1:=decV_lt (decS n) (decS_dig n);rw[decV_decS] at h1;have e:(10000:Nat)^50=10^200:=by rw[show(10000:Nat)=10^4 by rfl,←Nat.pow_mul]
  rw[e];exact Nat.lt_of_lt_of_le h1 (Nat.pow_le_pow_right (by decide) hl)
 refine(text_walk neg n v w h (by omega) hp).mono ?_;rintro e w' ⟨h1,h2⟩;rw[if_neg (by omega)] at h1;exact⟨h1,h2⟩
theorem one_walk (w:World):Calls Tryz.prog 206 #[] w fun e w'=>e=.returned (.slice (some ⟨w.heap.size,0,none⟩) 1 1)∧LsAt w' (.slice (some ⟨w.heap.size,0,none⟩) 1 1) (ofN 1)∧Below w.heap.size w w':=by
 have h1:ofN 1=[1]:=by rw[ofN_pos (by omega),show 1/10000=0 by rfl,ofN_zero]
 have h2:LsAt (w.alloc (.cells #[.int .i64 1] 3)) (.slice (some ⟨w.heap.size,0,none⟩) 1 1) (ofN 1):=by
  rw[h1];have:=LsAt.of_ol (OL.lit1N (B:=w.heap.size) w 1 (Nat.le_refl _));exact this
 go_enter Tryz.func206,Tryz.ntmps206
 go_wp2;go_ret;exact⟨rfl,h2,(Below.refl _ _).alloc (Nat.le_refl _) _⟩
def DivP (w:World) (neg:Bool) (q r:Nat) (e:Ending) (w':World):Prop:=e=.returned (.tuple #[.string ⟨(sgT neg q).toArray⟩,.string ⟨(decS r).toArray⟩,.int .i64 0])∧Below w.heap.size w w'
def divQ (p:Bool) (a b:Nat):Nat:=if p&&decide (0<a%b) then a/b+1 else a/b
def divR (p:Bool) (a b:Nat):Nat:=if p&&decide (0<a%b) then b-a%b else a%b
theorem divQ_le (p:Bool) (a b:Nat) (h:0<b):divQ p a b≤a:=by
 unfold divQ
 split
 · rename_i hh
   simp at hh;have h1:=Nat.div_add_mod a b;(have h2:2≤b:=by have:=Nat.mod_lt a h;omega);have h3:2*(a/b)≤b*(a/b):=Nat.mul_le_mul_right _ h2;omega
 · exact Nat.div_le_self _ _
theorem divR_le (p:Bool) (a b:Nat) (h:0<b):divR p a b≤b:=by
 unfold divR;have:=Nat.mod_lt a h
 split<;>omega
theorem div_walk (s t:ByteArray) (hs:s.size≤1000000) (ht:t.size≤1000000) (h1:validI s.data.toList=true) (h2:validI t.data.toList=true) (h3:0<valI t.data.toList) (w:World) (hp:Pow10 w):
 Calls Tryz.prog 140 #[.string s,.string t] w (DivP w (decide (valI s.data.toList<0)) (divQ (decide (valI s.data.toList<0)) (valI s.data.toList).natAbs (valI t.data.toList).natAbs) (divR (decide (valI s.data.toList<0)) (valI s.data.toList).natAbs (valI t.data.toList).natAbs)):=by
 have HB:=hZ (both_yes s t hs ht h1 h2 w);have hl1:=val_len h1;have hl2:=val_len h2;have hy0:0<(valI t.data.toList).natAbs:=by omega
 have hq:=fun p=>dec_short h1 (divQ_le p _ _ hy0);have hr:=fun p=>dec_short h2 (divR_le p (valI s.data.toList).natAbs _ hy0);have hq1:=dec_short h1 (Nat.div_le_self (valI s.data.toList).natAbs (valI t.data.toList).natAbs);unfold BothYes at HB;rw[decide_eq_false (show ¬valI t.data.toList<0 by omega)] at HB;obtain⟨p,hpx⟩:=oQ (decide (valI s.data.toList<0));obtain⟨x,hx⟩:=oQ ((valI s.data.toList).natAbs);obtain⟨y,hy⟩:=oQ ((valI t.data.toList).natAbs);have hq:=hq p;have hr:=hr p;rw[hpx,hx,hy] at HB⊢;rw[hx] at hl1 hq1;rw[hy] at hl2 hy0 hq1;rw[hx,hy] at hq hr;have HL1:=hZ hl1;have HL2:=hZ hl2;have HY0:=hZ hy0;have HP:=hZ hp;clear h1 h2 h3 hx hy hpx hl1 hl2 hq1 hp;obtain⟨r,hrr⟩:=oQ (x%y);have hlt:=Nat.mod_lt x hy0;rw[hrr] at hlt;have HRR:=hZ hrr;have HLT:=hZ hlt;clear hy0;cases p
 · have e1:divQ false x y=x/y:=by unfold divQ;rw[HRR.out];simp
   (have e2:divR false x y=r:=by unfold divR;rw[HRR.out];simp);rw[e1] at hq⊢;rw[e2] at hr⊢;have HQ:=hZ hq;have HR:=hZ hr;clear e1 e2 hq hr hrr hlt
   go_enter Tryz.func140,Tryz.ntmps140
   go_wp2_with (first
    | (go_at_call 203;(with_reducible refine HB.out.mono ?_);rintro e w1 ⟨u,v,rfl,hu,hv,hb1⟩;have HU:=hZ hu;have HV:=hZ hv;obtain⟨A1,c1,hue,-⟩:=hu;obtain⟨n1,hn1⟩:=oQ ((ofN x).length);rw[hn1] at hue;subst hue;clear hn1;obtain⟨A2,c2,hve,-⟩:=hv;obtain⟨n2,hn2⟩:=oQ ((ofN y).length);rw[hn2] at hve;subst hve
       have d1:((n2:Int)==0)=false:=by
        (have:n2≠0:=fun e=>by rw[e,List.length_eq_zero_iff,ofN_eq_nil] at hn2;have:=HY0.out;omega);simp;omega
       obtain⟨k1,k2,k3,k4⟩:=two_boxes w1 #[.bool false,.slice A1 n1 c1] #[.bool false,.slice A2 n2 c2] 232 232;have HT:=hZ (show TwoV w1.heap.size 232 232 (.bool false) (.slice A1 n1 c1) (.bool false) (.slice A2 n2 c2) _ from⟨k1,k2⟩);have HB1:=hZ (hb1.trans (k4.mono hb1.size));have HUW:=hZ (HU.out.below k4);have HVW:=hZ (HV.out.below k4)
       clear hn2 hb1 k1 k2 k3 k4)
    | (go_at_call 204;(with_reducible refine(over_walk x y HY0.out _ _ _ HUW.out HVW.out (by have:=HL1.out;omega) (by have:=HL2.out;omega)).mono ?_);rintro e w2 ⟨vq,vr,rfl,hq2,hr2,hb2⟩
       rw[HRR.out] at hr2;have HT2:=hZ (HT.out.below hb2);have HVW2:=hZ (HVW.out.below hb2);have HB2:=bTr HB1 hb2;have HVQ:=hZ hq2;have HVR:=hZ hr2;obtain⟨A3,c3,hqe,-⟩:=hq2;obtain⟨n3,hn3⟩:=oQ ((ofN (x/y)).length);rw[hn3] at hqe;subst hqe;obtain⟨A4,c4,hre,-⟩:=hr2;obtain⟨n4,hn4⟩:=oQ ((ofN r).length);rw[hn4] at hre;subst hre;obtain⟨⟨x0,x1,x2,x3⟩,-⟩:=HT2.out.facts
       skip
       clear hb2 hn3 hn4)
    | (go_at_call 208;(with_reducible refine(text_sg false (x/y) _ _ HVQ.out HQ.out (HP.out.below HB2.out)).mono ?_);rintro e w5 ⟨rfl,hb5⟩
       have HB5:=bTr HB2 hb5;have HVR5:=hZ (HVR.out.below hb5)
       clear hb5)
    | (go_at_call 208;(with_reducible refine(text_sg false r _ _ HVR5.out HR.out (HP.out.below HB5.out)).mono ?_);rintro e w6 ⟨rfl,hb6⟩
       have HB6:=bTr HB5 hb6
       clear hb6)
    |fail)
   refine bodyPost_ret (v:=.tuple #[.string ⟨(sgT false (x/y)).toArray⟩,.string ⟨(sgT false r).toArray⟩,.int .i64 0]) (by simp[results]) rfl ⟨rfl,HB6.out⟩
 rcases Nat.eq_zero_or_pos r with h0|h0
 · subst h0
   (have e1:divQ true x y=x/y:=by unfold divQ;rw[HRR.out];simp);(have e2:divR true x y=0:=by unfold divR;rw[HRR.out];simp);rw[e1] at hq⊢;rw[e2] at hr⊢;have HQ:=hZ hq;have HR:=hZ hr;clear e1 e2 hq hr hrr hlt
   go_enter Tryz.func140,Tryz.ntmps140
   go_wp2_with (first
    | (go_at_call 203;(with_reducible refine HB.out.mono ?_);rintro e w1 ⟨u,v,rfl,hu,hv,hb1⟩;have HU:=hZ hu;have HV:=hZ hv;obtain⟨A1,c1,hue,-⟩:=hu;obtain⟨n1,hn1⟩:=oQ ((ofN x).length);rw[hn1] at hue;subst hue;clear hn1;obtain⟨A2,c2,hve,-⟩:=hv;obtain⟨n2,hn2⟩:=oQ ((ofN y).length);rw[hn2] at hve;subst hve
       have d1:((n2:Int)==0)=false:=by
        (have:n2≠0:=fun e=>by rw[e,List.length_eq_zero_iff,ofN_eq_nil] at hn2;have:=HY0.out;omega);simp;omega
       obtain⟨k1,k2,k3,k4⟩:=two_boxes w1 #[.bool true,.slice A1 n1 c1] #[.bool false,.slice A2 n2 c2] 232 232;have HT:=hZ (show TwoV w1.heap.size 232 232 (.bool true) (.slice A1 n1 c1) (.bool false) (.slice A2 n2 c2) _ from⟨k1,k2⟩);have HB1:=hZ (hb1.trans (k4.mono hb1.size));have HUW:=hZ (HU.out.below k4);have HVW:=hZ (HV.out.below k4)
       clear hn2 hb1 k1 k2 k3 k4)
    | (go_at_call 204;(with_reducible refine(over_walk x y HY0.out _ _ _ HUW.out HVW.out (by have:=HL1.out;omega) (by have:=HL2.out;omega)).mono ?_);rintro e w2 ⟨vq,vr,rfl,hq2,hr2,hb2⟩
       rw[HRR.out] at hr2;have HT2:=hZ (HT.out.below hb2);have HVW2:=hZ (HVW.out.below hb2);have HB2:=bTr HB1 hb2;have HVQ:=hZ hq2;have HVR:=hZ hr2;obtain⟨A3,c3,hqe,-⟩:=hq2;obtain⟨n3,hn3⟩:=oQ ((ofN (x/y)).length);rw[hn3] at hqe;subst hqe;obtain⟨A4,c4,hre,-⟩:=hr2;obtain⟨n4,hn4⟩:=oQ ((ofN 0).length);rw[hn4] at hre;subst hre;obtain⟨⟨x0,x1,x2,x3⟩,-⟩:=HT2.out.facts;(have d4:n4=0:=by rw[←hn4,ofN_zero];rfl);subst d4
       clear hb2 hn3 hn4)
    | (go_at_call 208;(with_reducible refine(text_sg true (x/y) _ _ HVQ.out HQ.out (HP.out.below HB2.out)).mono ?_);rintro e w5 ⟨rfl,hb5⟩
       have HB5:=bTr HB2 hb5;have HVR5:=hZ (HVR.out.below hb5)
       clear hb5)
    | (go_at_call 208;(with_reducible refine(text_sg false 0 _ _ HVR5.out HR.out (HP.out.below HB5.out)).mono ?_);rintro e w6 ⟨rfl,hb6⟩
       have HB6:=bTr HB5 hb6
       clear hb6)
    |fail)
   refine bodyPost_ret (v:=.tuple #[.string ⟨(sgT true (x/y)).toArray⟩,.string ⟨(sgT false 0).toArray⟩,.int .i64 0]) (by simp[results]) rfl ⟨rfl,HB6.out⟩
 · have hr0:0<r:=h0
   (have e1:divQ true x y=x/y+1:=by unfold divQ;rw[HRR.out];simp;omega);(have e2:divR true x y=y-r:=by unfold divR;rw[HRR.out];simp;omega);rw[e1] at hq⊢;rw[e2] at hr⊢;have HQ:=hZ hq;have HR:=hZ hr;clear e1 e2 hq hr hrr hlt;clear hr0;have HR0:=hZ h0;clear h0
   go_enter Tryz.func140,Tryz.ntmps140
   go_wp2_with (first
    | (go_at_call 203;(with_reducible refine HB.out.mono ?_);rintro e w1 ⟨u,v,rfl,hu,hv,hb1⟩;have HU:=hZ hu;have HV:=hZ hv;obtain⟨A1,c1,hue,-⟩:=hu;obtain⟨n1,hn1⟩:=oQ ((ofN x).length);rw[hn1] at hue;subst hue;clear hn1;obtain⟨A2,c2,hve,-⟩:=hv;obtain⟨n2,hn2⟩:=oQ ((ofN y).length);rw[hn2] at hve;subst hve
       have d1:((n2:Int)==0)=false:=by
        (have:n2≠0:=fun e=>by rw[e,List.length_eq_zero_iff,ofN_eq_nil] at hn2;have:=HY0.out;omega);simp;omega
       obtain⟨k1,k2,k3,k4⟩:=two_boxes w1 #[.bool true,.slice A1 n1 c1] #[.bool false,.slice A2 n2 c2] 232 232;have HT:=hZ (show TwoV w1.heap.size 232 232 (.bool true) (.slice A1 n1 c1) (.bool false) (.slice A2 n2 c2) _ from⟨k1,k2⟩);have HB1:=hZ (hb1.trans (k4.mono hb1.size));have HUW:=hZ (HU.out.below k4);have HVW:=hZ (HV.out.below k4)
       clear hn2 hb1 k1 k2 k3 k4)
    | (go_at_call 204;(with_reducible refine(over_walk x y HY0.out _ _ _ HUW.out HVW.out (by have:=HL1.out;omega) (by have:=HL2.out;omega)).mono ?_);rintro e w2 ⟨vq,vr,rfl,hq2,hr2,hb2⟩
       rw[HRR.out] at hr2;have HT2:=hZ (HT.out.below hb2);have HVW2:=hZ (HVW.out.below hb2);have HB2:=bTr HB1 hb2;have HVQ:=hZ hq2;have HVR:=hZ hr2;obtain⟨A3,c3,hqe,-⟩:=hq2;obtain⟨n3,hn3⟩:=oQ ((ofN (x/y)).length);rw[hn3] at hqe;subst hqe;obtain⟨A4,c4,hre,-⟩:=hr2;obtain⟨n4,hn4⟩:=oQ ((ofN r).length);rw[hn4] at hre;subst hre;obtain⟨⟨x0,x1,x2,x3⟩,-⟩:=HT2.out.facts
       have d4:decide (0<n4)=true:=by
        (have:n4≠0:=fun e=>by rw[e,List.length_eq_zero_iff,ofN_eq_nil] at hn4;have:=HR0.out;omega);simp;omega
       clear hb2 hn3 hn4)
    |fail)
   have hblt:=cells_lt HT2.out.2;have hle:=HB2.out.size
   go_region_held3 (fun V=>V.cell? ⟨w1.heap.size+1,1,none⟩=some (.slice A2 n2 c2)) (first|exact x3|go_keep) (first
    | (go_at_call 206;(with_reducible refine(one_walk w2.drew).mono ?_);rintro e w7 ⟨rfl,hv7,hb7⟩
       have y3:=(hb7.cell (p:=⟨w1.heap.size+1,1,none⟩) hblt).trans x3;have HV7:=hZ (show LsAt w7 (.slice (some ⟨w2.heap.size,0,none⟩) 1 1) (ofN 1) from hv7);have HB7:=hZ hb7;have HPW:=hZ (plus_walk (x/y) 1 _ _ w7 ((show LsAt w2.drew _ _ from HVQ.out).below HB7.out) HV7.out (Nat.le_trans (ofN_len_mono (Nat.div_le_self x y)) (by have:=HL1.out;omega)) (by have:(ofN 1).length≤1:=ofN_len_pow (by decide);omega))
       clear hv7 hb7)
    | (go_at_call 205;(with_reducible refine HPW.out.mono ?_);rintro e w8 ⟨v8,rfl,hv8,-,hb8⟩
       have HV8:=hZ hv8;obtain⟨A8,c8,hve8,-⟩:=hv8;obtain⟨n8,hn8⟩:=oQ ((ofN (x/y+1)).length);rw[hn8] at hve8;subst hve8;have z3:=(hb8.cell (p:=⟨w1.heap.size+1,1,none⟩) (Nat.lt_of_lt_of_le hblt HB7.out.size)).trans y3;have HB8:=hZ hb8;have HMW:=hZ (minus_walk y r (Nat.le_of_lt HLT.out) _ _ w8 (((show LsAt w2.drew _ _ from HVW2.out).below HB7.out).below HB8.out) (((show LsAt w2.drew _ _ from HVR.out).below HB7.out).below HB8.out) (by have:=HL2.out;omega))
       clear hb8 hn8)
    | (go_at_call 207;(with_reducible refine HMW.out.mono ?_);rintro e w9 ⟨v9,rfl,hv9,-,hb9⟩
       have HV9:=hZ hv9;obtain⟨A9,c9,hve9,-⟩:=hv9;obtain⟨n9,hn9⟩:=oQ ((ofN (y-r)).length);rw[hn9] at hve9;subst hve9;have q3:=(hb9.cell (p:=⟨w1.heap.size+1,1,none⟩) (Nat.lt_of_lt_of_le (Nat.lt_of_lt_of_le hblt HB7.out.size) HB8.out.size)).trans z3;have HB9:=hZ hb9
       clear hb9 hn9)
    |fail)
   have b3:Below w2.heap.size w2 w9:=((Below.drew (Below.refl w2.heap.size w2)).trans HB7.out).trans ((HB8.out.mono HB7.out.size).trans (HB9.out.mono (Nat.le_trans HB7.out.size HB8.out.size)));have HB2:=hZ (HB2.out.trans (b3.mono hle));obtain⟨⟨x0,x1,x2,x3⟩,-⟩:=(HT2.out.below b3).facts;have HVQ9:=hZ (HV8.out.below HB9.out);clear b3
   go_wp2_with (first
    | (go_at_call 208;(with_reducible refine(text_sg true (x/y+1) _ _ HVQ9.out HQ.out (HP.out.below HB2.out)).mono ?_);rintro e w5 ⟨rfl,hb5⟩
       have HB5:=bTr HB2 hb5;have HVR5:=hZ (HV9.out.below hb5)
       clear hb5)
    | (go_at_call 208;(with_reducible refine(text_sg false (y-r) _ _ HVR5.out HR.out (HP.out.below HB5.out)).mono ?_);rintro e w6 ⟨rfl,hb6⟩
       have HB6:=bTr HB5 hb6
       clear hb6)
    |fail)
   refine bodyPost_ret (v:=.tuple #[.string ⟨(sgT true (x/y+1)).toArray⟩,.string ⟨(sgT false (y-r)).toArray⟩,.int .i64 0]) (by simp[results]) rfl ⟨rfl,HB6.out⟩
def ratOk (n d:List UInt8):Bool:=validI n&&(validI d&&(decide (0<valI d)&&decide (Nat.gcd (valI n).natAbs (valI d).natAbs=1)))
theorem cmp0 (d:List UInt8) (h:validI d=true):icmpS d [48]=cmpZ' (valI d) 0:=by
 have h1:validI [48]=true:=by decide+kernel
 have h2:valI [48]=0:=by decide+kernel
 unfold icmpS;rw[h,h1,h2];rfl
theorem decS_one (g:Nat):decS g=[49]↔g=1:=by
 constructor
 · intro h
   have:=decV_decS g;rw[h] at this;rw[←this];decide+kernel
 · rintro rfl;rw[decS_lt (by decide)];decide+kernel
theorem below_at2 {W W':World} {b:Nat} {cs:Array Value} {T:TypeId} (hb:Below W.heap.size W W') (h:W.heap[b]?=some (.cells cs T (0,0))):W'.heap[b]?=some (.cells cs T (0,0)):=(hb.block b (cells_lt h)).trans h
theorem rvalid_walk (n d:ByteArray) (hn:n.size≤1000000) (hd:d.size≤1000000) (w:World) (hp:Pow10 w):
 Calls Tryz.prog 138 #[.agg #[.string n,.string d]] w (ValP w (ratOk n.data.toList d.data.toList)):=by
 have x0:=World.alloc_heap_new w (.cells #[.string n,.string d] 29);have b0:Below w.heap.size w (w.alloc (.cells #[.string n,.string d] 29)):=(Below.refl _ _).alloc (Nat.le_refl _) _;have H1:=hZ (fun W=>valid_walk n hn W);have H2:=hZ (fun W=>valid_walk d hd W);have X0:=hZ x0;have B0:=hZ b0;have HP:=hZ hp;clear x0 b0 hp
 by_cases h1:validI n.data.toList=true
 case neg=>
  have e:ratOk n.data.toList d.data.toList=false:=by unfold ratOk;simp[h1]
  rw[e];rw[show validI n.data.toList=false by simpa using h1] at H1;clear e h1
  go_enter Tryz.func138,Tryz.ntmps138
  go_wp2_with (first
  |(go_at_call 200;(with_reducible refine(H1.out _).mono ?_);rintro e w1 ⟨rfl,hb⟩;have B1:=bTr B0 hb;have X1:=bAt hb X0;have y0:=cells_at0 X1.out;have y1:=cells_at1 X1.out;clear hb)
  |fail)
  go_ret;exact⟨rfl,B1.out⟩
 by_cases h2:validI d.data.toList=true
 case neg=>
  have e:ratOk n.data.toList d.data.toList=false:=by unfold ratOk;simp[h2]
  rw[e];rw[h1] at H1;rw[show validI d.data.toList=false by simpa using h2] at H2;clear e h1 h2
  go_enter Tryz.func138,Tryz.ntmps138
  go_wp2_with (first
  |(go_at_call 200;(with_reducible refine(H1.out _).mono ?_);rintro e w1 ⟨rfl,hb⟩;have B1:=bTr B0 hb;have X1:=bAt hb X0;have y0:=cells_at0 X1.out;have y1:=cells_at1 X1.out;clear hb)
  |(go_at_call 200;(with_reducible refine(H2.out _).mono ?_);rintro e w2 ⟨rfl,hb⟩;have B2:=bTr B1 hb;have X2:=bAt hb X1;have y0:=cells_at0 X2.out;have y1:=cells_at1 X2.out;clear hb)
  |fail)
  go_ret;exact⟨rfl,B2.out⟩
 have HC:=hZ (fun W=>icompare_walk d ⟨#[48]⟩ hd (by decide+kernel) W);rw[show(⟨#[48]⟩:ByteArray).data.toList=[48] from rfl,cmp0 _ h2] at HC;have HGC:=hZ (fun W (hb:Below w.heap.size w W)=>gcd_walk n d hn hd h1 h2 W (HP.out.below hb));rw[h1] at H1;rw[h2] at H2;obtain⟨z,hz⟩:=oQ (cmpZ' (valI d.data.toList) 0);rw[hz] at HC
 by_cases h3:0<valI d.data.toList
 case neg=>
  have e:ratOk n.data.toList d.data.toList=false:=by unfold ratOk;simp[h3]
  rw[e]
  have d3:decide (z≤0)=true:=by
   rw[←hz];unfold cmpZ';simp;split<;>(try split)<;>omega
  clear e h1 h2 h3 hz
  go_enter Tryz.func138,Tryz.ntmps138
  go_wp2_with (first
  |(go_at_call 200;(with_reducible refine(H1.out _).mono ?_);rintro e w1 ⟨rfl,hb⟩;have B1:=bTr B0 hb;have X1:=bAt hb X0;have y0:=cells_at0 X1.out;have y1:=cells_at1 X1.out;clear hb)
  |(go_at_call 200;(with_reducible refine(H2.out _).mono ?_);rintro e w2 ⟨rfl,hb⟩;have B2:=bTr B1 hb;have X2:=bAt hb X1;have y0:=cells_at0 X2.out;have y1:=cells_at1 X2.out;clear hb)
  |(go_at_call 141;(with_reducible refine(HC.out _).mono ?_);rintro e w3 ⟨rfl,hb⟩;have B3:=bTr B2 hb;have X3:=bAt hb X2;have y0:=cells_at0 X3.out;have y1:=cells_at1 X3.out;clear hb)
  |fail)
  go_ret;exact⟨rfl,B3.out⟩
 have d3:decide (z≤0)=false:=by
  rw[←hz];unfold cmpZ';simp;split<;>(try split)<;>omega
 obtain⟨g,hg⟩:=oQ (Nat.gcd (valI n.data.toList).natAbs (valI d.data.toList).natAbs);have e:ratOk n.data.toList d.data.toList=decide (g=1):=by unfold ratOk;simp[h1,h2,h3,hg]
 rw[e];rw[hg] at HGC;obtain⟨G,hG⟩:∃G:ByteArray,G=⟨(decS g).toArray⟩:=⟨_,rfl⟩;unfold DecP at HGC;rw[←hG] at HGC
 by_cases hg1:g=1
 · have d4:(G.toList==[49])=true:=by
    rw[str_toList hG,(decS_one g).2 hg1,beq_iff_eq]
   rw[decide_eq_true hg1];clear e h1 h2 h3 hz hg hG hg1
   go_enter Tryz.func138,Tryz.ntmps138
   go_wp2_with (first
   |(go_at_call 200;(with_reducible refine(H1.out _).mono ?_);rintro e w1 ⟨rfl,hb⟩;have B1:=bTr B0 hb;have X1:=bAt hb X0;have y0:=cells_at0 X1.out;have y1:=cells_at1 X1.out;clear hb)
   |(go_at_call 200;(with_reducible refine(H2.out _).mono ?_);rintro e w2 ⟨rfl,hb⟩;have B2:=bTr B1 hb;have X2:=bAt hb X1;have y0:=cells_at0 X2.out;have y1:=cells_at1 X2.out;clear hb)
   |(go_at_call 141;(with_reducible refine(HC.out _).mono ?_);rintro e w3 ⟨rfl,hb⟩;have B3:=bTr B2 hb;have X3:=bAt hb X2;have y0:=cells_at0 X3.out;have y1:=cells_at1 X3.out;clear hb)
   |(go_at_call 201;(with_reducible refine(HGC.out _ B3.out).mono ?_);rintro e w4 ⟨rfl,hb⟩;have B4:=bTr B3 hb;clear hb)
   |fail)
   go_ret;exact⟨rfl,B4.out⟩
 · have d4:(G.toList==[49])=false:=by
    rw[str_toList hG,beq_eq_false_iff_ne];intro h;exact hg1 ((decS_one g).1 h)
   rw[decide_eq_false hg1];clear e h1 h2 h3 hz hg hG hg1
   go_enter Tryz.func138,Tryz.ntmps138
   go_wp2_with (first
   |(go_at_call 200;(with_reducible refine(H1.out _).mono ?_);rintro e w1 ⟨rfl,hb⟩;have B1:=bTr B0 hb;have X1:=bAt hb X0;have y0:=cells_at0 X1.out;have y1:=cells_at1 X1.out;clear hb)
   |(go_at_call 200;(with_reducible refine(H2.out _).mono ?_);rintro e w2 ⟨rfl,hb⟩;have B2:=bTr B1 hb;have X2:=bAt hb X1;have y0:=cells_at0 X2.out;have y1:=cells_at1 X2.out;clear hb)
   |(go_at_call 141;(with_reducible refine(HC.out _).mono ?_);rintro e w3 ⟨rfl,hb⟩;have B3:=bTr B2 hb;have X3:=bAt hb X2;have y0:=cells_at0 X3.out;have y1:=cells_at1 X3.out;clear hb)
   |(go_at_call 201;(with_reducible refine(HGC.out _ B3.out).mono ?_);rintro e w4 ⟨rfl,hb⟩;have B4:=bTr B3 hb;clear hb)
   |fail)
   go_ret;exact⟨rfl,B4.out⟩
end Go.Proofs.YteeifhlhpiimoaaGreatDoor
end
section
namespace Go.Proofs.YteeifhlhpiimoaaGreatDoor
open Go
def cmpZ (x y:Int):Int:=if x<y then -1 else if y<x then 1 else 0
theorem cmpZ_lt {x y:Int} (h:x<y):cmpZ x y=-1:=by unfold cmpZ;rw[if_pos h]
theorem cmpZ_gt {x y:Int} (h:y<x):cmpZ x y=1:=by unfold cmpZ;rw[if_neg (by omega),if_pos h]
theorem cmpZ_eq {x y:Int} (h:x=y):cmpZ x y=0:=by unfold cmpZ;rw[if_neg (by omega),if_neg (by omega)]
theorem cmpZ_swap (x y:Int):cmpZ x y=-cmpZ y x:=by
 rcases Int.lt_trichotomy x y with h|h|h
 · rw[cmpZ_lt h,cmpZ_gt h]
 · rw[cmpZ_eq h,cmpZ_eq h.symm];rfl
 · rw[cmpZ_gt h,cmpZ_lt h];rfl
theorem cmp_floor {a c p q r s b d:Int} (hb:0<b) (hd:0<d) (ha:a=p*b+r) (hr:r<b) (hc:c=q*d+s) (hs:0≤s) (hpq:p<q):a*d<c*b:=by
 have h1:(p+1)*b≤q*b:=Int.mul_le_mul_of_nonneg_right (by omega) (by omega);have h2:a<q*b:=by rw[Int.add_mul] at h1;omega
 have h3:a*d<q*b*d:=Int.mul_lt_mul_of_pos_right h2 hd;have h4:q*d*b≤c*b:=Int.mul_le_mul_of_nonneg_right (by omega) (by omega);have e:q*b*d=q*d*b:=by rw[Int.mul_assoc,Int.mul_comm b d,←Int.mul_assoc]
 omega
theorem cmp_step {a c p q r s b d:Int} (hb:0<b) (hd:0<d) (ha:a=p*b+r) (hr0:0≤r) (hr:r<b) (hc:c=q*d+s) (hs0:0≤s) (hs:s<d):
 cmpZ (a*d) (c*b)=if cmpZ p q≠0 then cmpZ p q else if r=0∧s=0 then 0 else if r=0 then -1 else if s=0 then 1 else -cmpZ (b*s) (d*r):=by
 rcases Int.lt_trichotomy p q with h|h|h
 · rw[cmpZ_lt h,if_pos (by decide),cmpZ_lt (cmp_floor hb hd ha hr hc hs0 h)]
 · subst h
   rw[cmpZ_eq rfl,if_neg (by decide)];(have e:p*b*d=p*d*b:=by rw[Int.mul_assoc,Int.mul_comm b d,←Int.mul_assoc]);(have e1:a*d=p*d*b+r*d:=by rw[ha,Int.add_mul,e]);(have e2:c*b=p*d*b+s*b:=by rw[hc,Int.add_mul]);rw[e1,e2]
   by_cases r0:r=0
   · subst r0
     by_cases s0:s=0
     · subst s0;rw[if_pos ⟨rfl,rfl⟩,Int.zero_mul,Int.zero_mul];exact cmpZ_eq rfl
     · rw[if_neg (fun q=>s0 q.2),if_pos rfl]
       have:0<s*b:=Int.mul_pos (by omega) hb;exact cmpZ_lt (by rw[Int.zero_mul];omega)
   · rw[if_neg (fun q=>r0 q.1),if_neg r0]
     by_cases s0:s=0
     · subst s0
       rw[if_pos rfl];have:0<r*d:=Int.mul_pos (by omega) hd;exact cmpZ_gt (by rw[Int.zero_mul];omega)
     · rw[if_neg s0,←cmpZ_swap,Int.mul_comm d r,Int.mul_comm b s]
       rcases Int.lt_trichotomy (r*d) (s*b) with h|h|h
       · rw[cmpZ_lt (by omega),cmpZ_lt h]
       · rw[cmpZ_eq (by omega),cmpZ_eq h]
       · rw[cmpZ_gt (by omega),cmpZ_gt h]
 · rw[cmpZ_gt h,if_pos (by decide),cmpZ_gt (cmp_floor hd hb hc hs ha hr0 h)]
end Go.Proofs.YteeifhlhpiimoaaGreatDoor
end
section
namespace Go.Proofs.YteeifhlhpiimoaaGreatDoor
open Go Go.RowKit Go.Shelf
attribute [local go_sem] Oper.semAt_some
theorem wp_scope_jumps2 {P:Program} {a:Act} {w:World} {Q:Exit→Act→World→Prop} {c body:Code} (l:Nat) (J:Act→World→Prop) (μ:Act→World→Nat) (hf:findLabel c l=some (Code.skip.seq body))
 (pass:∀a w,J a w→body.wp P (Exit.jump l (fun a' w'=>J a' w'∧μ a' w'<μ a w) Q) a w)
 (first:(∀a w,J a w→body.wp P (Exit.jump l J Q) a w)→c.wp P (Exit.jump l J Q) a w):(Code.scope c).wp P Q a w:=
 wp_scope_jumps l J μ hf (first fun a w h=>Code.wp_mono (fun e a' w' q=>by
  cases e with
  |goto l'=>exact⟨q.1,q.2.1⟩
  |normal=>exact q
  |exit id=>exact q
  |ret=>exact q
  |panic ch=>exact q
  |outgrown=>exact q) (pass a w h)) fun a w h=>wp_seq (wp_skip (pass a w h))
structure DivOK (x y:Int) (pt rt:ByteArray):Prop where
 vp:validI pt.data.toList=true
 vr:validI rt.data.toList=true
 sp:pt.size≤1000000
 sr:rt.size≤1000000
 eq:x=valI pt.data.toList*y+valI rt.data.toList
 r0:0≤valI rt.data.toList
 rl:valI rt.data.toList<y
 z:(rt.toList==[48])=decide (valI rt.data.toList=0)
theorem decS_zero (g:Nat):decS g=[48]↔g=0:=by
 constructor
 · intro h
   have:=decV_decS g;rw[h] at this;rw[←this];decide+kernel
 · rintro rfl;rw[decS_lt (by decide)];decide+kernel
theorem div_floor {x y:Int} (hy:0<y):x=(if decide (x<0) then -((divQ (decide (x<0)) x.natAbs y.natAbs:Nat):Int) else(divQ (decide (x<0)) x.natAbs y.natAbs:Nat))*y+(divR (decide (x<0)) x.natAbs y.natAbs:Nat)∧(divR (decide (x<0)) x.natAbs y.natAbs:Int)<y:=by
 obtain⟨b,hb⟩:=oQ (y.natAbs);obtain⟨a,ha⟩:=oQ (x.natAbs);obtain rfl:y=(b:Int):=by omega
 rw[hb,ha];have hb0:0<b:=by omega
 have h1:=Nat.div_add_mod a b;have h2:=Nat.mod_lt a hb0;obtain⟨q,hq⟩:=oQ (a/b);obtain⟨r,hr⟩:=oQ (a%b);unfold divQ divR;rw[hq,hr] at h1⊢;rw[hr] at h2;have e:(a:Int)=(q:Int)*(b:Int)+(r:Int):=by rw[←h1,Int.natCast_add,Int.natCast_mul,Int.mul_comm]
 by_cases hx:x<0
 · rw[decide_eq_true hx]
   obtain rfl:x=-(a:Int):=by omega
   by_cases h0:0<r
   · simp only[h0,decide_true,Bool.and_self,if_true]
     constructor
     · rw[e,Int.natCast_add,Int.neg_mul,Int.add_mul];omega
     · omega
   · obtain rfl:r=0:=by omega
     simp only[Nat.lt_irrefl,decide_false,Bool.and_false,Bool.false_eq_true,if_false,if_true];constructor
     · rw[e,Int.neg_mul];omega
     · omega
 · rw[decide_eq_false hx]
   (obtain rfl:x=(a:Int):=by omega);simp only[Bool.false_and,Bool.false_eq_true,if_false];exact⟨e,by omega⟩
theorem intS_size {z:Int} (h:(decS z.natAbs).length≤200):(intS z).length≤1000000:=by
 unfold intS
 split
 · rw[List.length_cons];omega
 · omega
theorem div_ok (s t:ByteArray) (hs:s.size≤1000000) (ht:t.size≤1000000) (h1:validI s.data.toList=true) (h2:validI t.data.toList=true) (h3:0<valI t.data.toList):
 ∃pt rt,DivOK (valI s.data.toList) (valI t.data.toList) pt rt∧∀W,Pow10 W→Calls Tryz.prog 140 #[.string s,.string t] W fun e w'=>e=.returned (.tuple #[.string pt,.string rt,.int .i64 0])∧Below W.heap.size W w':=by
 refine⟨_,_,?_,fun W hp=>div_walk s t hs ht h1 h2 h3 W hp⟩;obtain⟨e1,e2⟩:=div_floor (x:=valI s.data.toList) h3;have hy0:0<(valI t.data.toList).natAbs:=by omega
 have hq:=dec_short h1 (divQ_le (decide (valI s.data.toList<0)) _ _ hy0);have hr:=dec_short h2 (divR_le (decide (valI s.data.toList<0)) (valI s.data.toList).natAbs _ hy0);obtain⟨p,hp⟩:=oQ (decide (valI s.data.toList<0));rw[hp] at e1 e2 hq hr⊢;obtain⟨q,hqq⟩:=oQ (divQ p (valI s.data.toList).natAbs (valI t.data.toList).natAbs);obtain⟨r,hrr⟩:=oQ (divR p (valI s.data.toList).natAbs (valI t.data.toList).natAbs);rw[hqq] at e1 hq⊢;rw[hrr] at e1 e2 hr⊢;rw[sgT_int];obtain⟨z,hz⟩:=oQ ((if p=true then -(q:Int) else q));rw[hz] at e1⊢;have hzq:z.natAbs=q:=by rw[←hz];split<;>omega
 have t1:=text_valid (z:=z) (by rw[hzq];exact hq);have t2:=text_valid (z:=(r:Int)) (by simpa using hr);have hri:intS (r:Int)=decS r:=by unfold intS;rw[if_neg (by omega)];rfl
 rw[hri] at t2
 exact⟨t1.1,t2.1,by show(intS z).toArray.size≤_;rw[List.size_toArray];exact intS_size (by rw[hzq];exact hq),by show(decS r).toArray.size≤_;rw[List.size_toArray];omega,
  by rw[show(⟨(intS z).toArray⟩:ByteArray).data.toList=intS z from rfl,show(⟨(decS r).toArray⟩:ByteArray).data.toList=decS r from rfl,t1.2,t2.2];exact e1,by rw[show(⟨(decS r).toArray⟩:ByteArray).data.toList=decS r from rfl,t2.2];omega,
  by rw[show(⟨(decS r).toArray⟩:ByteArray).data.toList=decS r from rfl,t2.2];exact e2,by
   rw[show(⟨(decS r).toArray⟩:ByteArray).data.toList=decS r from rfl,t2.2,ByteArray.toList_mk]
   by_cases h:r=0
   · rw[decide_eq_true (by omega),(decS_zero r).2 h];rfl
   · rw[decide_eq_false (by omega),beq_eq_false_iff_ne];intro e;exact h ((decS_zero r).1 e)⟩
def CmpJ (w:World) (b0 b1:Nat) (n10 d10 n20 d20:ByteArray) (z:Int) (a:Act) (W:World):Prop:=
 ∃(n1 d1 n2 d2:ByteArray) (sg:Int) (u6 u7 u8 u9 u10 u11 u12 u13 u14 u15 u16 u17 u18 u19 u20 u21 u22 u23 u24 u25 u26 u27 u28 u29 u30 u31 u32 u33 u34 u35 u36 u37 u38 u39 u40 u41 u42 u43 u44 u45 u46 u47 u48 u49 u50 u51 u52 u53 u54 u55 u56 u57 u58 u59 u60 u61 u62 u63 u64 u65 u66 u67 u68 u69 u70 u71 u72 u73:Value),a={tmps:=#[.agg #[.string n10,.string d10],.agg #[.string n20,.string d20],.pointer (some ⟨b0,0,none⟩),.pointer (some ⟨b1,0,none⟩),.int .i64 0,.int .i64 sg,u6,u7,u8,u9,u10,u11,u12,u13,u14,u15,u16,u17,u18,u19,u20,u21,u22,u23,u24,u25,u26,u27,u28,u29,u30,u31,u32,u33,u34,u35,u36,u37,u38,u39,u40,u41,u42,u43,u44,u45,u46,u47,u48,u49,u50,u51,u52,u53,u54,u55,u56,u57,u58,u59,u60,u61,u62,u63,u64,u65,u66,u67,u68,u69,u70,u71,u72,u73],defers:=[]}∧
  W.heap[b0]?=some (.cells #[.string n1,.string d1] 29 (0,0))∧W.heap[b1]?=some (.cells #[.string n2,.string d2] 29 (0,0))∧
  Hid ((n1.size≤1000000∧d1.size≤1000000∧n2.size≤1000000∧d2.size≤1000000)∧(validI n1.data.toList=true∧validI d1.data.toList=true∧validI n2.data.toList=true∧validI d2.data.toList=true)∧0<valI d1.data.toList∧0<valI d2.data.toList)∧
  Hid ((sg=1∨sg=-1)∧sg*cmpZ (valI n1.data.toList*valI d2.data.toList) (valI n2.data.toList*valI d1.data.toList)=z)∧Below w.heap.size w W
def CmpM (b0:Nat) (W:World):Nat:=match W.cell? ⟨b0,1,none⟩ with|some (.string d)=>(valI d.data.toList).natAbs|_=>0
theorem CmpM_eq {b0:Nat} {W:World} {d:ByteArray} (h:W.cell? ⟨b0,1,none⟩=some (.string d)):CmpM b0 W=(valI d.data.toList).natAbs:=by unfold CmpM;rw[h]
theorem rcompare_yes (n10 d10 n20 d20:ByteArray) (hn1:n10.size≤1000000) (hd1:d10.size≤1000000) (hn2:n20.size≤1000000) (hd2:d20.size≤1000000) (h1:ratOk n10.data.toList d10.data.toList=true) (h2:ratOk n20.data.toList d20.data.toList=true) (w:World) (hp:Pow10 w):
 Calls Tryz.prog 90 #[.agg #[.string n10,.string d10],.agg #[.string n20,.string d20]] w fun e w'=>e=.returned (.int .i64 (cmpZ (valI n10.data.toList*valI d20.data.toList) (valI n20.data.toList*valI d10.data.toList)))∧Below w.heap.size w w':=by
 have H1:=hZ (fun W (hb:Below w.heap.size w W)=>rvalid_walk n10 d10 hn1 hd1 W (hp.below hb));have H2:=hZ (fun W (hb:Below w.heap.size w W)=>rvalid_walk n20 d20 hn2 hd2 W (hp.below hb));rw[h1] at H1;rw[h2] at H2;have HP:=hZ hp;obtain⟨z,hz⟩:=oQ (cmpZ (valI n10.data.toList*valI d20.data.toList) (valI n20.data.toList*valI d10.data.toList));rw[hz];have HZ:=hZ hz;have HOK:=hZ (And.intro h1 h2);obtain⟨k1,k2,k3,k4⟩:=two_boxes w #[.string n10,.string d10] #[.string n20,.string d20] 29 29;have K1:=hZ k1;have K2:=hZ k2;have K4:=hZ k4;have HS:=hZ (And.intro (And.intro hn1 hd1) (And.intro hn2 hd2));clear hz hp k1 k2 k3 k4 h1 h2 hn1 hd1 hn2 hd2
 go_enter Tryz.func90,Tryz.ntmps90
 go_wp2;refine wp_scope_jumps2 0 (CmpJ w w.heap.size (w.heap.size+1) n10 d10 n20 d20 z) (fun _ W=>CmpM w.heap.size W) rfl ?pass ?first
 case first=>
  intro hpass
  go_wp2_with (first
   |(go_at_call 138;(with_reducible refine(H1.out _ K4.out).mono ?_);rintro e w1 ⟨rfl,hb⟩;have B1:=bTr K4 hb;have X1:=bAt hb K1;have Y1:=bAt hb K2;have y0:=cells_at0 Y1.out;have y1:=cells_at1 Y1.out;clear hb)
   |(go_at_call 138;(with_reducible refine(H2.out _ B1.out).mono ?_);rintro e w2 ⟨rfl,hb⟩;have B2:=bTr B1 hb;have X2:=bAt hb X1;have Y2:=bAt hb Y1;clear hb)
   |fail)
  go_step3
  rename_i hK
  refine hK _ _ (hpass _ _ ⟨n10,d10,n20,d20,1,_,_,_,_,_,_,_,_,_,_,_,_,_,_,_,_,_,_,_,_,_,_,_,_,_,_,_,_,_,_,_,_,_,_,_,_,_,_,_,_,_,_,_,_,_,_,_,_,_,_,_,_,_,_,_,_,_,_,_,_,_,_,_,_,_,_,_,_,rfl,X2.out,Y2.out,hZ ?_,hZ ⟨.inl rfl,by rw[Int.one_mul];exact HZ.out⟩,B2.out⟩);have h:=HOK.out;have hs:=HS.out;unfold ratOk at h;simp only[Bool.and_eq_true,decide_eq_true_eq] at h;exact⟨⟨hs.1.1,hs.1.2,hs.2.1,hs.2.2⟩,⟨h.1.1,h.1.2.1,h.2.1,h.2.2.1⟩,h.1.2.2.1,h.2.2.2.1⟩
 case pass=>
  rintro a W ⟨n1,d1,n2,d2,sg,u6,u7,u8,u9,u10,u11,u12,u13,u14,u15,u16,u17,u18,u19,u20,u21,u22,u23,u24,u25,u26,u27,u28,u29,u30,u31,u32,u33,u34,u35,u36,u37,u38,u39,u40,u41,u42,u43,u44,u45,u46,u47,u48,u49,u50,u51,u52,u53,u54,u55,u56,u57,u58,u59,u60,u61,u62,u63,u64,u65,u66,u67,u68,u69,u70,u71,u72,u73,rfl,x0,y0,hv,hsg,hB⟩;obtain⟨⟨s1,s2,s3,s4⟩,⟨v1,v2,v3,v4⟩,p1,p2⟩:=hv.out;obtain⟨hsg1,hsg2⟩:=hsg.out;obtain⟨pt,rt,E1,hC1⟩:=div_ok n1 d1 s1 s2 v1 v2 p1;obtain⟨qt,st,E2,hC2⟩:=div_ok n2 d2 s3 s4 v3 v4 p2;have hst:=cmp_step p1 p2 E1.eq E1.r0 E1.rl E2.eq E2.r0 E2.rl;have C1:=hZ hC1;have C2:=hZ hC2;have C3:=hZ (fun W=>icompare_walk pt qt E1.sp E2.sp W);have hic:icmpS pt.data.toList qt.data.toList=cmpZ (valI pt.data.toList) (valI qt.data.toList):=by unfold icmpS;rw[E1.vp,E2.vp];rfl
  rw[hic] at C3;obtain⟨c,hc⟩:=oQ (cmpZ (valI pt.data.toList) (valI qt.data.toList));rw[hc] at C3 hst;have hcr:c=-1∨c=0∨c=1:=by rw[←hc];unfold cmpZ;split;exact .inl rfl;split;exact .inr (.inr rfl);exact .inr (.inl rfl)
  have X0:=hZ x0;have Y0:=hZ y0;have HB:=hZ hB;have x0:=cells_at0 X0.out;have x1:=cells_at1 X0.out;have hrz:=E1.z;have hsz:=E2.z;have KK:=hZ (And.intro E1 E2);rw[hst] at hsg2;clear hst hic hc s1 s2 s3 s4 v1 v2 v3 v4 p1 p2 y0 hB E1 E2 H1 H2 HZ HOK HS K1 K2 K4 hC1 hC2;have wneg:IntKind.i64.wrap (-sg)=-sg:=by rw[IntKind.wrap_i64];rcases hsg1 with rfl|rfl<;>rfl
  by_cases hc0:c=0
  case neg=>
   rw[if_pos hc0] at hsg2;(have wm:IntKind.i64.wrap (sg*c)=z:=by rw[←hsg2,IntKind.wrap_i64];rcases hsg1 with rfl|rfl<;>rcases hcr with rfl|rfl|rfl<;>rfl);(have dg:(c !=0)=true:=by simpa using hc0);clear hsg1 hsg2 hcr hc0 hrz hsz wneg
   go_wp2_with (first
   |(go_at_call 140;(with_reducible refine(C1.out _ (HP.out.below HB.out)).mono ?_);rintro e w1 ⟨rfl,hb⟩;have B1:=bTr HB hb;have X1:=bAt hb X0;have Y1:=bAt hb Y0;have y0:=cells_at0 Y1.out;have y1:=cells_at1 Y1.out;clear hb)
   |(go_at_call 140;(with_reducible refine(C2.out _ (HP.out.below B1.out)).mono ?_);rintro e w2 ⟨rfl,hb⟩;have B2:=bTr B1 hb;have X2:=bAt hb X1;have Y2:=bAt hb Y1;clear hb)
   | (go_at_call 141;(with_reducible refine(C3.out _).mono ?_);rintro e w3 ⟨rfl,hb⟩;have B3:=bTr B2 hb;have X3:=bAt hb X2;have Y3:=bAt hb Y2;have y0:=cells_at0 Y3.out;have y1:=cells_at1 Y3.out;have x0:=cells_at0 X3.out;have x1:=cells_at1 X3.out
      have f0:=cells_free X3.out 0;have f1:=cells_free X3.out 1;have g0:=cells_free Y3.out 0;have g1:=cells_free Y3.out 1;clear hb)
   |fail)
   simp only[Exit.jump];go_ret;exact⟨rfl,B3.out⟩
  subst hc0;rw[if_neg (by simp)] at hsg2;have dg:((0:Int) !=0)=false:=by decide
  clear hcr
  by_cases hr0:valI rt.data.toList=0
  · have e1:(rt.toList==[48])=true:=by rw[hrz,decide_eq_true hr0]
    by_cases hs0:valI st.data.toList=0
    · have e2:(st.toList==[48])=true:=by rw[hsz,decide_eq_true hs0]
      rw[if_pos ⟨hr0,hs0⟩,Int.mul_zero] at hsg2;subst hsg2;clear hsg1 hrz hsz wneg hr0 hs0
      go_wp2_with (first
    |(go_at_call 140;(with_reducible refine(C1.out _ (HP.out.below HB.out)).mono ?_);rintro e w1 ⟨rfl,hb⟩;have B1:=bTr HB hb;have X1:=bAt hb X0;have Y1:=bAt hb Y0;have y0:=cells_at0 Y1.out;have y1:=cells_at1 Y1.out;clear hb)
    |(go_at_call 140;(with_reducible refine(C2.out _ (HP.out.below B1.out)).mono ?_);rintro e w2 ⟨rfl,hb⟩;have B2:=bTr B1 hb;have X2:=bAt hb X1;have Y2:=bAt hb Y1;clear hb)
    | (go_at_call 141;(with_reducible refine(C3.out _).mono ?_);rintro e w3 ⟨rfl,hb⟩;have B3:=bTr B2 hb;have X3:=bAt hb X2;have Y3:=bAt hb Y2;have y0:=cells_at0 Y3.out;have y1:=cells_at1 Y3.out;have x0:=cells_at0 X3.out;have x1:=cells_at1 X3.out
       have f0:=cells_free X3.out 0;have f1:=cells_free X3.out 1;have g0:=cells_free Y3.out 0;have g1:=cells_free Y3.out 1;clear hb)
    | fail)
      simp only[Exit.jump];go_ret;exact⟨rfl,B3.out⟩
    · have e2:(st.toList==[48])=false:=by rw[hsz,decide_eq_false hs0]
      rw[if_neg (fun q=>hs0 q.2),if_pos hr0] at hsg2;(have wn:IntKind.i64.wrap (-sg)=z:=by rw[wneg,←hsg2];omega);clear hsg1 hsg2 hrz hsz wneg hr0 hs0
      go_wp2_with (first
    |(go_at_call 140;(with_reducible refine(C1.out _ (HP.out.below HB.out)).mono ?_);rintro e w1 ⟨rfl,hb⟩;have B1:=bTr HB hb;have X1:=bAt hb X0;have Y1:=bAt hb Y0;have y0:=cells_at0 Y1.out;have y1:=cells_at1 Y1.out;clear hb)
    |(go_at_call 140;(with_reducible refine(C2.out _ (HP.out.below B1.out)).mono ?_);rintro e w2 ⟨rfl,hb⟩;have B2:=bTr B1 hb;have X2:=bAt hb X1;have Y2:=bAt hb Y1;clear hb)
    | (go_at_call 141;(with_reducible refine(C3.out _).mono ?_);rintro e w3 ⟨rfl,hb⟩;have B3:=bTr B2 hb;have X3:=bAt hb X2;have Y3:=bAt hb Y2;have y0:=cells_at0 Y3.out;have y1:=cells_at1 Y3.out;have x0:=cells_at0 X3.out;have x1:=cells_at1 X3.out
       have f0:=cells_free X3.out 0;have f1:=cells_free X3.out 1;have g0:=cells_free Y3.out 0;have g1:=cells_free Y3.out 1;clear hb)
    | fail)
      simp only[Exit.jump];go_ret;exact⟨rfl,B3.out⟩
  · have e1:(rt.toList==[48])=false:=by rw[hrz,decide_eq_false hr0]
    by_cases hs0:valI st.data.toList=0
    · have e2:(st.toList==[48])=true:=by rw[hsz,decide_eq_true hs0]
      rw[if_neg (fun q=>hr0 q.1),if_neg hr0,if_pos hs0,Int.mul_one] at hsg2;subst hsg2;clear hsg1 hrz hsz wneg hr0 hs0
      go_wp2_with (first
    |(go_at_call 140;(with_reducible refine(C1.out _ (HP.out.below HB.out)).mono ?_);rintro e w1 ⟨rfl,hb⟩;have B1:=bTr HB hb;have X1:=bAt hb X0;have Y1:=bAt hb Y0;have y0:=cells_at0 Y1.out;have y1:=cells_at1 Y1.out;clear hb)
    |(go_at_call 140;(with_reducible refine(C2.out _ (HP.out.below B1.out)).mono ?_);rintro e w2 ⟨rfl,hb⟩;have B2:=bTr B1 hb;have X2:=bAt hb X1;have Y2:=bAt hb Y1;clear hb)
    | (go_at_call 141;(with_reducible refine(C3.out _).mono ?_);rintro e w3 ⟨rfl,hb⟩;have B3:=bTr B2 hb;have X3:=bAt hb X2;have Y3:=bAt hb Y2;have y0:=cells_at0 Y3.out;have y1:=cells_at1 Y3.out;have x0:=cells_at0 X3.out;have x1:=cells_at1 X3.out
       have f0:=cells_free X3.out 0;have f1:=cells_free X3.out 1;have g0:=cells_free Y3.out 0;have g1:=cells_free Y3.out 1;clear hb)
    | fail)
      simp only[Exit.jump];go_ret;exact⟨rfl,B3.out⟩
    · have e2:(st.toList==[48])=false:=by rw[hsz,decide_eq_false hs0]
      rw[if_neg (fun q=>hr0 q.1),if_neg hr0,if_neg hs0] at hsg2;have HSG:=hZ (And.intro hsg1 hsg2);have HRS:=hZ (And.intro hr0 hs0);obtain⟨sg2,hsg9⟩:=oQ (-sg);(have wn:IntKind.i64.wrap (-sg)=sg2:=by rw[wneg,hsg9]);have HSG2:=hZ hsg9;clear hsg1 hsg2 hrz hsz wneg hr0 hs0 hsg9
      go_wp2_with (first
    |(go_at_call 140;(with_reducible refine(C1.out _ (HP.out.below HB.out)).mono ?_);rintro e w1 ⟨rfl,hb⟩;have B1:=bTr HB hb;have X1:=bAt hb X0;have Y1:=bAt hb Y0;have y0:=cells_at0 Y1.out;have y1:=cells_at1 Y1.out;clear hb)
    |(go_at_call 140;(with_reducible refine(C2.out _ (HP.out.below B1.out)).mono ?_);rintro e w2 ⟨rfl,hb⟩;have B2:=bTr B1 hb;have X2:=bAt hb X1;have Y2:=bAt hb Y1;clear hb)
    | (go_at_call 141;(with_reducible refine(C3.out _).mono ?_);rintro e w3 ⟨rfl,hb⟩;have B3:=bTr B2 hb;have X3:=bAt hb X2;have Y3:=bAt hb Y2;have y0:=cells_at0 Y3.out;have y1:=cells_at1 Y3.out;have x0:=cells_at0 X3.out;have x1:=cells_at1 X3.out
       have f0:=cells_free X3.out 0;have f1:=cells_free X3.out 1;have g0:=cells_free Y3.out 0;have g1:=cells_free Y3.out 1;clear hb)
    | fail)
      refine wp_region_noPanic ?_;refine wp_region_held_drew (S:=fun _=>True) (by kernel_rfl) trivial (fun hHeld=> ?_);refine tk 0 ?_;refine tk 2 ?_;refine tk 4 ?_;refine tk 6 ?_;refine tk 8 ?_;refine tk 9 ?_;refine rd [1,5] ?_;refine rc (fun K hK=> ?_) ?_
      ·
       go_simp;refine kk hK (trivial) (fun hHeld=> ?_);clear hK K;refine tk 3 ?_;refine rd [5,10] ?_;refine rc (fun K hK=> ?_) ?_
       ·
        go_simp;refine kk hK (trivial) (fun hHeld=> ?_);clear hK K;refine tk 7 ?_;refine rd [10] ?_;refine rcE fun K hK=> ?_;go_simp;refine kk hK (trivial) (fun hHeld=> ?_);clear hK K;refine rd [11] ?_;refine rcE fun K hK=> ?_;go_simp;refine kk hK (trivial) (fun hHeld=> ?_);clear hK K;refine tk 12 ?_;refine dn ?_;go_wp2
        go_step3
        have HT:TwoV w.heap.size 29 29 (.string n1) (.string d1) (.string n2) (.string d2) w3.drew:=⟨X3.out,Y3.out⟩;have hT:=HT.put (.string d1) (.string rt) (.string d2) (.string st);obtain⟨E1,E2⟩:=KK.out;obtain⟨⟨s1,s2,s3,s4⟩,⟨v1,v2,v3,v4⟩,p1,p2⟩:=hv.out;have hr0:=HRS.out.1;have hs0:=HRS.out.2;have hr1:=E1.r0;have hr2:=E1.rl;have hs1:=E2.r0;refine⟨rfl,⟨d1,rt,d2,st,sg2,_,_,_,_,_,_,_,_,_,_,_,_,_,_,_,_,_,_,_,_,_,_,_,_,_,_,_,_,_,_,_,_,_,_,_,_,_,_,_,_,_,_,_,_,_,_,_,_,_,_,_,_,_,_,_,_,_,_,_,_,_,_,_,_,_,_,_,_,rfl,hT.1,hT.2,hZ ⟨⟨s2,E1.sr,s4,E2.sr⟩,⟨v2,E1.vr,v4,E2.vr⟩,by omega,by omega⟩,hZ ⟨?_,?_⟩,(((((Below.drew B3.out).setCell (p:=⟨w.heap.size,0,none⟩) (Nat.le_refl _) _).setCell (p:=⟨w.heap.size,1,none⟩) (Nat.le_refl _) _).setCell (p:=⟨w.heap.size+1,0,none⟩) (by simp) _).setCell (p:=⟨w.heap.size+1,1,none⟩) (by simp) _)⟩,?_⟩
        · rw[←HSG2.out];rcases HSG.out.1 with e|e<;>rw[e];exact .inr rfl;exact .inl rfl
        · rw[←HSG2.out,←HSG.out.2,Int.neg_mul,Int.mul_neg]
        · have e1:=CmpM_eq hT.facts.1.2.1
          rw[CmpM_eq (cells_at1 X0.out)];exact Nat.lt_of_le_of_lt (Nat.le_of_eq e1) (by omega)
       refine rcE fun K hK=> ?_;go_simp;refine kk hK (trivial) (fun hHeld=> ?_);clear hK K;refine rd [5] ?_;refine rcE fun K hK=> ?_;go_simp;refine kk hK (trivial) (fun hHeld=> ?_);clear hK K;refine tk 7 ?_;refine rd [11] ?_;refine rcE fun K hK=> ?_;go_simp;refine kk hK (trivial) (fun hHeld=> ?_);clear hK K;refine tk 12 ?_;refine dn ?_;go_wp2
       go_step3
       have HT:TwoV w.heap.size 29 29 (.string n1) (.string d1) (.string n2) (.string d2) w3.drew:=⟨X3.out,Y3.out⟩;have hT:=HT.put (.string d1) (.string rt) (.string d2) (.string st);obtain⟨E1,E2⟩:=KK.out;obtain⟨⟨s1,s2,s3,s4⟩,⟨v1,v2,v3,v4⟩,p1,p2⟩:=hv.out;have hr0:=HRS.out.1;have hs0:=HRS.out.2;have hr1:=E1.r0;have hr2:=E1.rl;have hs1:=E2.r0;refine⟨rfl,⟨d1,rt,d2,st,sg2,_,_,_,_,_,_,_,_,_,_,_,_,_,_,_,_,_,_,_,_,_,_,_,_,_,_,_,_,_,_,_,_,_,_,_,_,_,_,_,_,_,_,_,_,_,_,_,_,_,_,_,_,_,_,_,_,_,_,_,_,_,_,_,_,_,_,_,_,rfl,hT.1,hT.2,hZ ⟨⟨s2,E1.sr,s4,E2.sr⟩,⟨v2,E1.vr,v4,E2.vr⟩,by omega,by omega⟩,hZ ⟨?_,?_⟩,(((((Below.drew B3.out).setCell (p:=⟨w.heap.size,0,none⟩) (Nat.le_refl _) _).setCell (p:=⟨w.heap.size,1,none⟩) (Nat.le_refl _) _).setCell (p:=⟨w.heap.size+1,0,none⟩) (by simp) _).setCell (p:=⟨w.heap.size+1,1,none⟩) (by simp) _)⟩,?_⟩
       · rw[←HSG2.out];rcases HSG.out.1 with e|e<;>rw[e];exact .inr rfl;exact .inl rfl
       · rw[←HSG2.out,←HSG.out.2,Int.neg_mul,Int.mul_neg]
       · have e1:=CmpM_eq hT.facts.1.2.1
         rw[CmpM_eq (cells_at1 X0.out)];exact Nat.lt_of_le_of_lt (Nat.le_of_eq e1) (by omega)
      refine rcE fun K hK=> ?_;go_simp;refine kk hK (trivial) (fun hHeld=> ?_);clear hK K;refine tk 7 ?_;refine rd [1] ?_;refine rcE fun K hK=> ?_;go_simp;refine kk hK (trivial) (fun hHeld=> ?_);clear hK K;refine tk 3 ?_;refine rd [10] ?_;refine rcE fun K hK=> ?_;go_simp;refine kk hK (trivial) (fun hHeld=> ?_);clear hK K;refine rd [11] ?_;refine rcE fun K hK=> ?_;go_simp;refine kk hK (trivial) (fun hHeld=> ?_);clear hK K;refine tk 12 ?_;refine dn ?_;go_wp2
      go_step3
      have HT:TwoV w.heap.size 29 29 (.string n1) (.string d1) (.string n2) (.string d2) w3.drew:=⟨X3.out,Y3.out⟩;have hT:=HT.put (.string d1) (.string rt) (.string d2) (.string st);obtain⟨E1,E2⟩:=KK.out;obtain⟨⟨s1,s2,s3,s4⟩,⟨v1,v2,v3,v4⟩,p1,p2⟩:=hv.out;have hr0:=HRS.out.1;have hs0:=HRS.out.2;have hr1:=E1.r0;have hr2:=E1.rl;have hs1:=E2.r0;refine⟨rfl,⟨d1,rt,d2,st,sg2,_,_,_,_,_,_,_,_,_,_,_,_,_,_,_,_,_,_,_,_,_,_,_,_,_,_,_,_,_,_,_,_,_,_,_,_,_,_,_,_,_,_,_,_,_,_,_,_,_,_,_,_,_,_,_,_,_,_,_,_,_,_,_,_,_,_,_,_,rfl,hT.1,hT.2,hZ ⟨⟨s2,E1.sr,s4,E2.sr⟩,⟨v2,E1.vr,v4,E2.vr⟩,by omega,by omega⟩,hZ ⟨?_,?_⟩,(((((Below.drew B3.out).setCell (p:=⟨w.heap.size,0,none⟩) (Nat.le_refl _) _).setCell (p:=⟨w.heap.size,1,none⟩) (Nat.le_refl _) _).setCell (p:=⟨w.heap.size+1,0,none⟩) (by simp) _).setCell (p:=⟨w.heap.size+1,1,none⟩) (by simp) _)⟩,?_⟩
      · rw[←HSG2.out];rcases HSG.out.1 with e|e<;>rw[e];exact .inr rfl;exact .inl rfl
      · rw[←HSG2.out,←HSG.out.2,Int.neg_mul,Int.mul_neg]
      · have e1:=CmpM_eq hT.facts.1.2.1
        rw[CmpM_eq (cells_at1 X0.out)];exact Nat.lt_of_le_of_lt (Nat.le_of_eq e1) (by omega)
theorem cells_i {W:World} {b:Nat} {cs:Array Value} {T:TypeId} {v:Value} (h:W.heap[b]?=some (.cells cs T (0,0))) {i:Nat} (hv:cs[i]?=some v):W.cell? ⟨b,i,none⟩=some v:=by simp[World.cell?,h,hv]
def encOk (a b c d:List UInt8):Bool:=ratOk a b&&(ratOk c d&&decide (cmpZ (valI a*valI d) (valI c*valI b)≤0))
theorem evalid_walk (a b c d:ByteArray) (ha:a.size≤1000000) (hb:b.size≤1000000) (hc:c.size≤1000000) (hd:d.size≤1000000) (w:World) (hp:Pow10 w):
 Calls Tryz.prog 91 #[.agg #[.string a,.string b,.string c,.string d]] w (ValP w (encOk a.data.toList b.data.toList c.data.toList d.data.toList)):=by
 have x0:=World.alloc_heap_new w (.cells #[.string a,.string b,.string c,.string d] 31);have b0:Below w.heap.size w (w.alloc (.cells #[.string a,.string b,.string c,.string d] 31)):=(Below.refl _ _).alloc (Nat.le_refl _) _;have H1:=hZ (fun W (h:Below w.heap.size w W)=>rvalid_walk a b ha hb W (hp.below h));have H2:=hZ (fun W (h:Below w.heap.size w W)=>rvalid_walk c d hc hd W (hp.below h));have X0:=hZ x0;have B0:=hZ b0;clear x0 b0
 by_cases h1:ratOk a.data.toList b.data.toList=true
 case neg=>
  have e:encOk a.data.toList b.data.toList c.data.toList d.data.toList=false:=by unfold encOk;simp[h1]
  rw[e];rw[show ratOk a.data.toList b.data.toList=false by simpa using h1] at H1;clear e h1 hp
  go_enter Tryz.func91,Tryz.ntmps91
  go_wp2_with (first
  |(go_at_call 138;(with_reducible refine(H1.out _ B0.out).mono ?_);rintro e w1 ⟨rfl,hb⟩;have B1:=bTr B0 hb;clear hb)
  |fail)
  go_ret;exact⟨rfl,B1.out⟩
 by_cases h2:ratOk c.data.toList d.data.toList=true
 case neg=>
  have e:encOk a.data.toList b.data.toList c.data.toList d.data.toList=false:=by unfold encOk;simp[h2]
  rw[e];rw[h1] at H1;rw[show ratOk c.data.toList d.data.toList=false by simpa using h2] at H2;clear e h1 h2 hp
  go_enter Tryz.func91,Tryz.ntmps91
  go_wp2_with (first
  |(go_at_call 138;(with_reducible refine(H1.out _ B0.out).mono ?_);rintro e w1 ⟨rfl,hb⟩;have B1:=bTr B0 hb;have X1:=bAt hb X0;have y2:=cells_i (i:=2) X1.out rfl;have y3:=cells_i (i:=3) X1.out rfl;clear hb)
  |(go_at_call 138;(with_reducible refine(H2.out _ B1.out).mono ?_);rintro e w2 ⟨rfl,hb⟩;have B2:=bTr B1 hb;clear hb)
  |fail)
  go_ret;exact⟨rfl,B2.out⟩
 have H3:=hZ (fun W (h:Below w.heap.size w W)=>rcompare_yes a b c d ha hb hc hd h1 h2 W (hp.below h));obtain⟨z,hz⟩:=oQ (cmpZ (valI a.data.toList*valI d.data.toList) (valI c.data.toList*valI b.data.toList));have e:encOk a.data.toList b.data.toList c.data.toList d.data.toList=decide (z≤0):=by unfold encOk;simp[h1,h2,hz]
 rw[e];rw[hz] at H3;rw[h1] at H1;rw[h2] at H2;clear e h1 h2 hp hz
 go_enter Tryz.func91,Tryz.ntmps91
 go_wp2_with (first
  |(go_at_call 138;(with_reducible refine(H1.out _ B0.out).mono ?_);rintro e w1 ⟨rfl,hb⟩;have B1:=bTr B0 hb;have X1:=bAt hb X0;have y2:=cells_i (i:=2) X1.out rfl;have y3:=cells_i (i:=3) X1.out rfl;clear hb)
  |(go_at_call 138;(with_reducible refine(H2.out _ B1.out).mono ?_);rintro e w2 ⟨rfl,hb⟩;have B2:=bTr B1 hb;have X2:=bAt hb X1;have z0:=cells_i (i:=0) X2.out rfl;have z1:=cells_i (i:=1) X2.out rfl;have z2:=cells_i (i:=2) X2.out rfl;have z3:=cells_i (i:=3) X2.out rfl;clear hb)
  |(go_at_call 90;(with_reducible refine(H3.out _ B2.out).mono ?_);rintro e w3 ⟨rfl,hb⟩;have B3:=bTr B2 hb;clear hb)
  |fail)
 go_ret;exact⟨rfl,B3.out⟩
def fnV (g:Nat):Value:=.func (.func g) #[] #[]
theorem alloc_range (w:World) (cs:List Value) (T:TypeId):(w.alloc (.cells cs.toArray T)).rangeAt w.heap.size 0 cs:=fun i v hv=>by
 have h:=World.alloc_heap_new w (.cells cs.toArray T);exact cells_i h (by simpa using hv)
theorem below_new (w:World) (o:Obj):Below w.heap.size w (w.alloc o):=(Below.refl _ _).alloc (Nat.le_refl _) _
theorem numbered_walk (g:Nat) (w:World):Calls Tryz.prog 105 #[.func (.func g) #[] #[]] w fun e w'=>e=.returned (.agg #[.func (.func g) #[] #[],.int .i64 1,.int .i64 1000000,.nilFunc])∧Below w.heap.size w w':=by
 go_enter Tryz.func105,Tryz.ntmps105
 go_wp2;refine bodyPost_ret (results_cell_mid rfl _ _ w.heap.size [.func (.func g) #[] #[],.int .i64 1,.int .i64 1000000,.nilFunc] _ rfl (alloc_range w _ _) Tryz.underlying109 rfl (by kernel_rfl)) rfl ⟨rfl,below_new _ _⟩
theorem timed_walk (g:Nat) (w:World):Calls Tryz.prog 109 #[.func (.func g) #[] #[]] w fun e w'=>e=.returned (.agg #[.func (.func g) #[] #[],.int .i64 0,.int .i64 1000000,.nilFunc])∧Below w.heap.size w w':=by
 go_enter Tryz.func109,Tryz.ntmps109
 go_wp2;refine bodyPost_ret (results_cell_mid rfl _ _ w.heap.size [.func (.func g) #[] #[],.int .i64 0,.int .i64 1000000,.nilFunc] _ rfl (alloc_range w _ _) Tryz.underlying109 rfl (by kernel_rfl)) rfl ⟨rfl,below_new _ _⟩
theorem of_walk (g:Nat) (l m:Int) (A B:Option Addr) (n1 c1 n2 c2:Nat) (w:World):Calls Tryz.prog 108 #[.agg #[.func (.func g) #[] #[],.int .i64 l,.int .i64 m,.nilFunc],.slice A n1 c1,.slice B n2 c2] w fun e w'=>e=.returned (.agg #[.slice A n1 c1,.func (.func g) #[] #[],.int .i64 l,.int .i64 m,.nilFunc,.slice B n2 c2])∧Below w.heap.size w w':=by
 go_enter Tryz.func108,Tryz.ntmps108
 go_wp2;refine bodyPost_ret (results_cell_mid rfl _ _ (w.heap.size+1) [.slice A n1 c1,.func (.func g) #[] #[],.int .i64 l,.int .i64 m,.nilFunc,.slice B n2 c2] _ rfl (by have:=alloc_range (w.alloc (.cells #[.func (.func g) #[] #[],.int .i64 l,.int .i64 m,.nilFunc] 109)) [.slice A n1 c1,.func (.func g) #[] #[],.int .i64 l,.int .i64 m,.nilFunc,.slice B n2 c2] 112;rw[World.size_alloc] at this;exact this) Tryz.underlying112 rfl (by kernel_rfl)) rfl ⟨rfl,(below_new _ _).alloc (by simp) _⟩
inductive PartD where
 |num (g:Nat) (l:Int)
 |txt (g:Nat)
def PartD.cells:PartD→List Value
 |.num g l=>[.func (.func g) #[] #[],.int .i64 l,.int .i64 1000000,.nilFunc]
 |.txt g=>[.nilFunc,.int .i64 0,.int .i64 0,.func (.func g) #[] #[]]
structure ShapeD where
 parts:List PartD
 key:Nat
 rest:List Nat
def ShapeAt (W:World) (B:Nat) (v:Value) (d:ShapeD):Prop:=
 ∃b1 R cr,v=.agg #[.slice (some ⟨b1,0,none⟩) d.parts.length d.parts.length,.func (.func d.key) #[] #[],.int .i64 1,.int .i64 1000000,.nilFunc,.slice R d.rest.length cr]∧B≤b1∧
  W.heap[b1]?=some (.cells (d.parts.flatMap PartD.cells).toArray 109 (0,0))∧
  ((d.rest=[]∧R=none∧cr=0)∨∃b2,R=some ⟨b2,0,none⟩∧cr=d.rest.length∧B≤b2∧W.heap[b2]?=some (.cells (d.rest.map fnV).toArray 45 (0,0)))
def ShapeP (w:World) (d:ShapeD) (e:Ending) (w':World):Prop:=∃v,e=.returned (.tuple #[v,.bool true])∧ShapeAt w' w.heap.size v d∧Below w.heap.size w w'
theorem put6 {W:World} {r:Nat} {T:TypeId} {a0 a1 a2 a3 a4 a5:Value} (h:W.heap[r]?=some (.cells #[a0,a1,a2,a3,a4,a5] T (0,0))) (v0 v1 v2 v3 v4 v5:Value):
 ((((((W.setCell ⟨r,0,none⟩ v0).setCell ⟨r,1,none⟩ v1).setCell ⟨r,2,none⟩ v2).setCell ⟨r,3,none⟩ v3).setCell ⟨r,4,none⟩ v4).setCell ⟨r,5,none⟩ v5).heap[r]?=some (.cells #[v0,v1,v2,v3,v4,v5] T (0,0)):=by
 simp only[World.setCell,Array.getElem?_modify,h];simp
theorem put6_other {W:World} {r k:Nat} (h:k≠r) (v0 v1 v2 v3 v4 v5:Value):
 ((((((W.setCell ⟨r,0,none⟩ v0).setCell ⟨r,1,none⟩ v1).setCell ⟨r,2,none⟩ v2).setCell ⟨r,3,none⟩ v3).setCell ⟨r,4,none⟩ v4).setCell ⟨r,5,none⟩ v5).heap[k]?=W.heap[k]?:=by
 refine(Below.heap_setCell _ _ _ _ h).trans ((Below.heap_setCell _ _ _ _ h).trans ((Below.heap_setCell _ _ _ _ h).trans ((Below.heap_setCell _ _ _ _ h).trans ((Below.heap_setCell _ _ _ _ h).trans (Below.heap_setCell _ _ _ _ h)))))
theorem put6_below {w W:World} {B r:Nat} (hb:Below B w W) (h:B≤r) (v0 v1 v2 v3 v4 v5:Value):
 Below B w ((((((W.setCell ⟨r,0,none⟩ v0).setCell ⟨r,1,none⟩ v1).setCell ⟨r,2,none⟩ v2).setCell ⟨r,3,none⟩ v3).setCell ⟨r,4,none⟩ v4).setCell ⟨r,5,none⟩ v5):=
 (((((hb.setCell (p:=⟨r,0,none⟩) h _).setCell (p:=⟨r,1,none⟩) h _).setCell (p:=⟨r,2,none⟩) h _).setCell (p:=⟨r,3,none⟩) h _).setCell (p:=⟨r,4,none⟩) h _).setCell (p:=⟨r,5,none⟩) h _
theorem results_celltmp {P:Program} {fn:Func} {p t:Tmp} {ty:TypeId} (h:fn.results=#[.cell p ty,.tmp t]) (tmps:Array Value) (w:World) (b:Nat) (cs:List Value) (d:TypeDesc)
 (hp:tmps.getD p undef=.pointer (some ⟨b,0,none⟩)) (hc:w.rangeAt b 0 cs) (hu:P.underlying ty=some d) (hr:d.isRow=true) (hi:(P.info? ty).map (·.size)=some cs.length):
 (results fn tmps).run P w=.ok (.tuple #[.agg cs.toArray,tmps.getD t undef]) w:=by
 have hp':tmps[p]?.getD undef=.pointer (some ⟨b,0,none⟩):=by simpa using hp
 simp[results,h,hp',asAddr,run_loadVar_mid w b 0 ty cs d hc hu hr hi]
theorem range_of {W:World} {b:Nat} {cs:List Value} {T:TypeId} (h:W.heap[b]?=some (.cells cs.toArray T (0,0))):W.rangeAt b 0 cs:=fun i v hv=>cells_i h (by simpa using hv)
structure Ent where
 kind:Int
 id:Int
 ver:Int
 day:Int
 gone:Bool
 frm:Int
 til:Int
 lab:Int
 item:Int
 person:Int
 skill:Int
 ln:ByteArray
 ld:ByteArray
 hn:ByteArray
 hd:ByteArray
 rn:ByteArray
 rd:ByteArray
 text:ByteArray
def Ent.cells (e:Ent):List Value:=[.int .i64 e.kind,.int .i64 e.id,.int .i64 e.ver,.int .i64 e.day,.bool e.gone,.int .i64 e.frm,.int .i64 e.til,.int .i64 e.lab,.int .i64 e.item,.int .i64 e.person,.int .i64 e.skill,
 .string e.ln,.string e.ld,.string e.hn,.string e.hd,.string e.rn,.string e.rd,.string e.text]
abbrev Ent.val (e:Ent):Value:=.agg e.cells.toArray
def EntAt (W:World) (b:Nat) (e:Ent):Prop:=W.heap[b]?=some (.cells e.cells.toArray 33 (0,0))
theorem EntAt.below {W W':World} {b:Nat} {e:Ent} (h:EntAt W b e) (hb:Below W.heap.size W W'):EntAt W' b e:=below_at2 hb h
theorem EntAt.cell {W:World} {b:Nat} {e:Ent} (h:EntAt W b e) {i:Nat} {v:Value} (hv:e.cells[i]?=some v):W.cell? ⟨b,i,none⟩=some v:=cells_i h (by simpa using hv)
theorem EntAt.free {W:World} {b:Nat} {e:Ent} (h:EntAt W b e) (i:Nat):W.frozen? ⟨b,i,none⟩=false:=cells_free h i
theorem id_walk (b:Nat) (w:World):Calls Tryz.prog 106 #[.pointer (some ⟨b,0,none⟩)] w fun e w'=>e=.returned (.pointer (some ⟨b,1,none⟩))∧w'=w:=by
 go_enter Tryz.func106,Tryz.ntmps106
 go_wp2;go_ret;exact⟨rfl,rfl⟩
theorem item_walk (b:Nat) (w:World):Calls Tryz.prog 107 #[.pointer (some ⟨b,0,none⟩)] w fun e w'=>e=.returned (.pointer (some ⟨b,8,none⟩))∧w'=w:=by
 go_enter Tryz.func107,Tryz.ntmps107
 go_wp2;go_ret;exact⟨rfl,rfl⟩
theorem fromF_walk (b:Nat) (w:World):Calls Tryz.prog 110 #[.pointer (some ⟨b,0,none⟩)] w fun e w'=>e=.returned (.pointer (some ⟨b,5,none⟩))∧w'=w:=by
 go_enter Tryz.func110,Tryz.ntmps110
 go_wp2;go_ret;exact⟨rfl,rfl⟩
theorem untilF_walk (b:Nat) (w:World):Calls Tryz.prog 116 #[.pointer (some ⟨b,0,none⟩)] w fun e w'=>e=.returned (.pointer (some ⟨b,6,none⟩))∧w'=w:=by
 go_enter Tryz.func116,Tryz.ntmps116
 go_wp2;go_ret;exact⟨rfl,rfl⟩
theorem lab_walk (b:Nat) (w:World):Calls Tryz.prog 111 #[.pointer (some ⟨b,0,none⟩)] w fun e w'=>e=.returned (.pointer (some ⟨b,7,none⟩))∧w'=w:=by
 go_enter Tryz.func111,Tryz.ntmps111
 go_wp2;go_ret;exact⟨rfl,rfl⟩
theorem person_walk (b:Nat) (w:World):Calls Tryz.prog 120 #[.pointer (some ⟨b,0,none⟩)] w fun e w'=>e=.returned (.pointer (some ⟨b,9,none⟩))∧w'=w:=by
 go_enter Tryz.func120,Tryz.ntmps120
 go_wp2;go_ret;exact⟨rfl,rfl⟩
theorem skill_walk (b:Nat) (w:World):Calls Tryz.prog 121 #[.pointer (some ⟨b,0,none⟩)] w fun e w'=>e=.returned (.pointer (some ⟨b,10,none⟩))∧w'=w:=by
 go_enter Tryz.func121,Tryz.ntmps121
 go_wp2;go_ret;exact⟨rfl,rfl⟩
def ptr (b:Nat) (i:Nat):Value:=.pointer (some ⟨b,i,none⟩)
def TxtP (w:World) (b:Nat) (l:List Nat) (e:Ending) (w':World):Prop:=∃v,e=.returned v∧OL w' w.heap.size 129 1 (one (ptr b)) v l∧Below w.heap.size w w'
theorem OL.cap0 {α:Type} {w:World} {B:Nat} {e:TypeId} {size:Nat} {f:α→List Value} {A:Option Addr} {n c:Nat} {l:List α} (h:OL w B e size f (.slice A n c) l):A=none→c=0:=fun hA=>by
 rcases h.2 with⟨he,-⟩|⟨g,cap,cur,he,-⟩
 · injection he
 · injection he with e1 _ _;rw[hA] at e1;cases e1
theorem flat_one {α:Type} (f:α→Value) (l:List α):l.flatMap (one f)=l.map f:=by
 induction l with
 |nil=>rfl
 |cons x l ih=>rw[List.flatMap_cons,List.map_cons,ih];rfl
theorem OL.lits {b:Nat} (W:World) (l:List Nat) (hm:l.length≤100) {B:Nat} (hB:B≤W.heap.size):OL (W.alloc (.cells (l.map (ptr b)).toArray 129)) B 129 1 (one (ptr b)) (.slice (some ⟨W.heap.size,0,none⟩) l.length l.length) l:=
 ⟨by rw[flat_one];simp,.inr ⟨W.heap.size,l.length,_,rfl,hB,World.alloc_heap_new _ _,Nat.le_refl _,by unfold maxLen;omega,by simp,by rw[flat_one];simp only[Nat.mul_one];exact List.take_of_length_le (by simp)⟩⟩
theorem LAt.cat {α:Type} {w:World} {B:Nat} {A:Option Addr} {f:α→Value} {l:List α} (h:LAt w B A f l):∀j x,(l.flatMap (one f))[j]?=some x→∃a,A=some a∧w.cell? (a.add j)=some x:=fun j x hx=>by
 rw[flat_one,List.getElem?_map] at hx;obtain⟨y,hy,rfl⟩:=Option.map_eq_some_iff.1 hx;obtain⟨a,ha,-,hc⟩:=h j y hy;exact⟨a,ha,hc⟩
theorem step_cat {P:Program} {α:Type} {w:World} {B:Nat} {e:TypeId} {size bytes:Nat} {f:α→List Value} {ops:Array Oper} {o:Oper} {a:Act} {K:Act→World→Prop} {Q:Exit→Act→World→Prop} {D:Prop} (hgd:o.guard=none) (s x:Operand) (t:TypeId)
 (ho:o.op=.call {callee:=.builtin .append,args:=#[s,x],argTypes:=#[t,t]}) (E:Elem P t e size bytes) (hf:∀x,(f x).length=size) (v:Value) (l:List α) (hs:a.eval s=v) (h:OL w B e size f v l) (A:Option Addr) (m:List α) (k c:Nat) (hk:m.length=k) (hx:a.eval x=.slice A k c) (hc0:A=none→c=0)
 (hA:∀j x,(m.flatMap f)[j]?=some x→∃a,A=some a∧w.cell? (a.add j)=some x) (hone:∀x∈m,∀u∈f x,u.oneCell'=true) (h63:l.length+k≤maxLen) (hby:(l.length+k)*bytes≤140737488355328) (hB:B≤w.heap.size)
 (hk':∀v' w',OL w' B e size f v' (l++m)→w.grownBy w' v.ownBlock→Below B w w'→K (a.put o.dst v') w'):
 if Region.wanted o (yielded ops a.tmps)=true then Oper.wp P o a w K Q else D:=by
 have hw:Region.wanted o (yielded ops a.tmps)=true:=by simp[Region.wanted,hgd]
 rw[if_pos hw];obtain⟨v',w',r1,r2,r3,r4⟩:=h.run_cat (P:=P) E o.type hf A m k c hk hc0 hA hone h63 hby hB;unfold Oper.wp execOp;simp only[ho,resolve,invoke,builtin,Sem.run_bind,Sem.run_pure,Result.andThen_ok,List.map_toArray,List.map_cons,List.map_nil,hs,hx,r1];exact hk' v' w' r2 r3 r4
theorem elemPtr:Elem Tryz.prog 127 129 1 8:=Elem.mk' (z:=.pointer none) Tryz.underlying127 (by kernel_rfl) rfl (by decide)
theorem ratio_walk (b k:Nat) (w:World):Calls Tryz.prog 166 #[.pointer (some ⟨b,k,none⟩)] w (TxtP w b [k,k+1]):=by
 have hT:TxtP w b [k,k+1] (.returned (.slice (some ⟨w.heap.size,0,none⟩) 2 2)) (w.drew.alloc (.cells #[ptr b k,ptr b (k+1)] 129)):=⟨_,rfl,OL.lits w.drew [k,k+1] (by simp) (Nat.le_refl _),(Below.drew (Below.refl _ _)).alloc (Nat.le_refl _) _⟩;unfold ptr at hT
 go_enter Tryz.func166,Tryz.ntmps166
 go_wp2;refine wp_region_noPanic ?_;refine wp_region_held_drew (S:=fun _=>True) (by kernel_rfl) trivial (fun hHeld=> ?_);refine tk 0 ?_;refine tk 1 ?_;refine tk 2 ?_;refine tk 3 ?_;refine tk 4 ?_;refine tk 5 ?_;refine rd [6] ?_;refine rcE fun K hK=> ?_;go_simp;refine kk hK (trivial) (fun hHeld=> ?_);clear hK K;refine tk 7 ?_;refine dn ?_;go_wp2;go_ret;exact hT
theorem rate_walk (b:Nat) (w:World):Calls Tryz.prog 114 #[.pointer (some ⟨b,0,none⟩)] w (TxtP w b [15,16]):=by
 go_enter Tryz.func114,Tryz.ntmps114
 go_wp2_with (first|(go_at_call 166;(with_reducible refine(ratio_walk _ _ _).mono ?_);rintro e w1 ⟨v,rfl,hv,hb⟩)|fail)
 go_ret;exact⟨_,rfl,hv,hb⟩
theorem textF_walk (b:Nat) (w:World):Calls Tryz.prog 118 #[.pointer (some ⟨b,0,none⟩)] w (TxtP w b [17]):=by
 have hT:TxtP w b [17] (.returned (.slice (some ⟨w.heap.size,0,none⟩) 1 1)) (w.alloc (.cells #[ptr b 17] 129)):=⟨_,rfl,OL.lits w [17] (by simp) (Nat.le_refl _),below_new _ _⟩;unfold ptr at hT
 go_enter Tryz.func118,Tryz.ntmps118
 go_wp2;go_ret;exact hT
theorem valueF_walk (b:Nat) (w:World):Calls Tryz.prog 112 #[.pointer (some ⟨b,0,none⟩)] w (TxtP w b [11,12,13,14]):=by
 go_enter Tryz.func112,Tryz.ntmps112
 go_wp2;refine wp_region_noPanic ?_;refine wp_region_held_drew (S:=fun _=>True) (by kernel_rfl) trivial (fun hHeld=> ?_);refine tk 0 ?_;refine tk 1 ?_;refine tk 2 ?_;refine tk 3 ?_;refine tk 5 ?_;refine tk 6 ?_;refine tk 7 ?_;refine tk 8 ?_;refine rd [4] ?_;refine rcE fun K hK=> ?_;go_simp
 (with_reducible refine(ratio_walk _ _ _).mono ?_)
 rintro e w1 ⟨v,rfl,hv,hb⟩;have HV:=hZ hv;have HB1:=hZ (show Below w.heap.size w w1 from(Below.drew (Below.refl w.heap.size w)).trans hb);obtain⟨A1,c1,rfl,-⟩:=hv.slice;clear hv hb;refine kk hK (trivial) (fun hHeld=> ?_);clear hK K;refine rd [9] ?_;refine rcE fun K hK=> ?_;go_simp
 (with_reducible refine(ratio_walk _ _ _).mono ?_)
 rintro e w2 ⟨v,rfl,hv2,hb2⟩;have HV2:=hZ hv2;have HB2:=hZ hb2;obtain⟨A2,c2,rfl,-⟩:=hv2.slice;have HL2:=hZ hv2.lat;clear hv2 hb2;refine kk hK (trivial) (fun hHeld=> ?_);clear hK K;refine rd [10] ?_;refine rcE fun K hK=> ?_;refine step_cat (by rfl) (.tmp 7) (.tmp 12) 127 (by rfl) elemPtr (fun _=>rfl) (.slice A1 2 c1) [11,12] (by rfl) (HV.out.below HB2.out (Nat.le_refl _)) A2 [13,14] 2 c2 rfl (by rfl) (OL.cap0 HV2.out) HL2.out.cat (fun x _ u hu=>by rw[List.mem_singleton.1 hu];rfl) (by unfold maxLen;decide) (by decide) (Nat.le_trans HB1.out.size HB2.out.size) ?_;intro v3 w3 h3 _ hb3;have HB3:=hZ ((HB1.out.trans (HB2.out.mono HB1.out.size)).trans (hb3.mono (by have:=HB1.out.size;simp at this⊢)));have H3:=hZ h3;clear hb3 h3;refine kk hK (trivial) (fun hHeld=> ?_);clear hK K;refine tk 11 ?_;refine dn ?_;go_wp2;go_ret;exact⟨_,rfl,H3.out.base (by simp),HB3.out⟩
structure Ent.Small (e:Ent):Prop where
 ln:e.ln.size≤1000000
 ld:e.ld.size≤1000000
 hn:e.hn.size≤1000000
 hd:e.hd.size≤1000000
 rn:e.rn.size≤1000000
 rd:e.rd.size≤1000000
 text:e.text.size≤1000000
theorem Ent.val_eq (e:Ent):e.val=.agg #[.int .i64 e.kind,.int .i64 e.id,.int .i64 e.ver,.int .i64 e.day,.bool e.gone,.int .i64 e.frm,.int .i64 e.til,.int .i64 e.lab,.int .i64 e.item,.int .i64 e.person,.int .i64 e.skill,
 .string e.ln,.string e.ld,.string e.hn,.string e.hd,.string e.rn,.string e.rd,.string e.text]:=rfl
theorem Ent.new (w:World) (e:Ent):EntAt (w.alloc (.cells e.cells.toArray 33)) w.heap.size e:=World.alloc_heap_new w _
theorem isSpan_walk (e:Ent) (w:World):Calls Tryz.prog 117 #[e.val] w (ValP w (decide (e.frm≤e.til))):=by
 obtain⟨b,hb⟩:=oQ (decide (e.frm≤e.til));have hT:ValP w b (.returned (.bool b)) (w.alloc (.cells e.cells.toArray 33)):=⟨rfl,below_new _ _⟩;rw[hb];unfold Ent.cells at hT;rw[Ent.val_eq]
 go_enter Tryz.func117,Tryz.ntmps117
 go_wp2;go_ret;exact hT
theorem isRoot_walk (e:Ent) (w:World):Calls Tryz.prog 119 #[e.val] w (ValP w (decide (e.text.size=32))):=by
 obtain⟨b,hb⟩:=oQ (decide (e.text.size=32));have hb2:(((e.text.size:Nat):Int)==32)=b:=by rw[←hb];by_cases h:e.text.size=32<;>simp[h]<;>omega
 have hT:ValP w b (.returned (.bool b)) (w.alloc (.cells e.cells.toArray 33)):=⟨rfl,below_new _ _⟩;rw[hb];clear hb;unfold Ent.cells at hT;rw[Ent.val_eq]
 go_enter Tryz.func119,Tryz.ntmps119
 go_wp2;go_ret;exact hT
def shortS (n d:List UInt8):Bool:=decide ((stripM n).length≤40)&&decide (d.length≤40)
theorem isShort_walk (n d:ByteArray) (w:World):Calls Tryz.prog 167 #[.agg #[.string n,.string d]] w (ValP w (shortS n.data.toList d.data.toList)):=by
 have htp:=fun W=>Tryz.strings_TrimPrefix n ⟨#[45]⟩ W;rw[show(⟨#[45]⟩:ByteArray).data.toList=[45] from rfl,trimPrefix_strip] at htp;obtain⟨T,hT⟩:∃T:ByteArray,(⟨(stripM n.data.toList).toArray⟩:ByteArray)=T:=⟨_,rfl⟩;rw[hT] at htp;have HTP:=hZ htp;have hts:(stripM n.data.toList).length=T.size:=by rw[←hT];rfl
 have hds:d.data.toList.length=d.size:=Array.length_toList;have hR:∀b,ValP w b (.returned (.bool b)) (w.alloc (.cells #[.string n,.string d] 29)):=fun b=>⟨rfl,below_new _ _⟩;unfold shortS;rw[hts,hds];obtain⟨b1,hb1⟩:=oQ (decide (T.size≤40));obtain⟨b2,hb2⟩:=oQ (decide (d.size≤40));rw[hb1,hb2];have hi1:decide ((T.size:Int)≤40)=b1:=by rw[←hb1];by_cases h:T.size≤40<;>simp[h]<;>omega
 have hi2:decide ((d.size:Int)≤40)=b2:=by rw[←hb2];by_cases h:d.size≤40<;>simp[h]<;>omega
 have HR:=hZ hR;clear hT htp hts hds hR hb1 hb2;cases b1
 · go_enter Tryz.func167,Tryz.ntmps167
   go_wp2_with (first|(go_at_call 139;(with_reducible refine(HTP.out _).mono ?_);rintro e w1 ⟨rfl,rfl⟩)|fail)
   go_ret;exact HR.out false
 · go_enter Tryz.func167,Tryz.ntmps167
   go_wp2_with (first|(go_at_call 139;(with_reducible refine(HTP.out _).mono ?_);rintro e w1 ⟨rfl,rfl⟩)|fail)
   go_ret;exact HR.out b2
def Ent.valueOk (e:Ent):Bool:=encOk e.ln.data.toList e.ld.data.toList e.hn.data.toList e.hd.data.toList&&(shortS e.ln.data.toList e.ld.data.toList&&shortS e.hn.data.toList e.hd.data.toList)
def Ent.rateOk (e:Ent):Bool:=ratOk e.rn.data.toList e.rd.data.toList&&(shortS e.rn.data.toList e.rd.data.toList&& !(Lib.hasPrefix e.rn.data.toList [45]))
theorem isValue_walk (e:Ent) (hs:e.Small) (w:World) (hp:Pow10 w):Calls Tryz.prog 113 #[e.val] w (ValP w e.valueOk):=by
 have B0:=hZ (below_new w (.cells e.cells.toArray 33));have X0:=hZ (Ent.new w e);have H1:=hZ (fun W (h:Below w.heap.size w W)=>evalid_walk e.ln e.ld e.hn e.hd hs.ln hs.ld hs.hn hs.hd W (hp.below h));have H2:=hZ (fun W=>isShort_walk e.ln e.ld W);have H3:=hZ (fun W=>isShort_walk e.hn e.hd W);unfold Ent.valueOk;obtain⟨b1,hb1⟩:=oQ (encOk e.ln.data.toList e.ld.data.toList e.hn.data.toList e.hd.data.toList);obtain⟨b2,hb2⟩:=oQ (shortS e.ln.data.toList e.ld.data.toList);obtain⟨b3,hb3⟩:=oQ (shortS e.hn.data.toList e.hd.data.toList);rw[hb1] at H1⊢;rw[hb2] at H2⊢;rw[hb3] at H3⊢;clear hb1 hb2 hb3 hs hp;unfold Ent.cells at B0;rw[Ent.val_eq];cases b1
 · go_enter Tryz.func113,Tryz.ntmps113
   go_wp2_with (first
    |(go_at_call 91;(with_reducible refine(H1.out _ B0.out).mono ?_);rintro e1 w1 ⟨rfl,hb⟩;have B1:=bTr B0 hb;clear hb)
    |fail)
   go_ret;exact⟨rfl,B1.out⟩
 cases b2
 · go_enter Tryz.func113,Tryz.ntmps113
   go_wp2_with (first
    |(go_at_call 91;(with_reducible refine(H1.out _ B0.out).mono ?_);rintro e1 w1 ⟨rfl,hb⟩;have B1:=bTr B0 hb;have X1:=hZ (X0.out.below hb);have y0:=X1.out.cell (i:=11) rfl;have y1:=X1.out.cell (i:=12) rfl;clear hb)
    |(go_at_call 167;(with_reducible refine(H2.out _).mono ?_);rintro e2 w2 ⟨rfl,hb⟩;have B2:=bTr B1 hb;clear hb)
    |fail)
   go_ret;exact⟨rfl,B2.out⟩
 · go_enter Tryz.func113,Tryz.ntmps113
   go_wp2_with (first
    |(go_at_call 91;(with_reducible refine(H1.out _ B0.out).mono ?_);rintro e1 w1 ⟨rfl,hb⟩;have B1:=bTr B0 hb;have X1:=hZ (X0.out.below hb);have y0:=X1.out.cell (i:=11) rfl;have y1:=X1.out.cell (i:=12) rfl;clear hb)
    |(go_at_call 167;(with_reducible refine(H2.out _).mono ?_);rintro e2 w2 ⟨rfl,hb⟩;have B2:=bTr B1 hb;have X2:=hZ (X1.out.below hb);have z0:=X2.out.cell (i:=13) rfl;have z1:=X2.out.cell (i:=14) rfl;clear hb)
    |(go_at_call 167;(with_reducible refine(H3.out _).mono ?_);rintro e3 w3 ⟨rfl,hb⟩;have B3:=bTr B2 hb;clear hb)
    |fail)
   go_ret;exact⟨rfl,B3.out⟩
theorem isRate_walk (e:Ent) (hs:e.Small) (w:World) (hp:Pow10 w):Calls Tryz.prog 115 #[e.val] w (ValP w e.rateOk):=by
 have B0:=hZ (below_new w (.cells e.cells.toArray 33));have X0:=hZ (Ent.new w e);have H1:=hZ (fun W (h:Below w.heap.size w W)=>rvalid_walk e.rn e.rd hs.rn hs.rd W (hp.below h));have H2:=hZ (fun W=>isShort_walk e.rn e.rd W);have H3:=hZ (fun W=>Tryz.strings_HasPrefix e.rn ⟨#[45]⟩ W);rw[show(⟨#[45]⟩:ByteArray).data.toList=[45] from rfl] at H3;unfold Ent.rateOk;obtain⟨b1,hb1⟩:=oQ (ratOk e.rn.data.toList e.rd.data.toList);obtain⟨b2,hb2⟩:=oQ (shortS e.rn.data.toList e.rd.data.toList);obtain⟨b3,hb3⟩:=oQ (Lib.hasPrefix e.rn.data.toList [45]);rw[hb1] at H1⊢;rw[hb2] at H2⊢;rw[hb3] at H3⊢;clear hb1 hb2 hb3 hs hp;unfold Ent.cells at B0;rw[Ent.val_eq];cases b1
 · go_enter Tryz.func115,Tryz.ntmps115
   go_wp2_with (first
    |(go_at_call 138;(with_reducible refine(H1.out _ B0.out).mono ?_);rintro e1 w1 ⟨rfl,hb⟩;have B1:=bTr B0 hb;clear hb)
    |fail)
   go_ret;exact⟨rfl,B1.out⟩
 cases b2
 · go_enter Tryz.func115,Tryz.ntmps115
   go_wp2_with (first
    |(go_at_call 138;(with_reducible refine(H1.out _ B0.out).mono ?_);rintro e1 w1 ⟨rfl,hb⟩;have B1:=bTr B0 hb;have X1:=hZ (X0.out.below hb);have y0:=X1.out.cell (i:=15) rfl;have y1:=X1.out.cell (i:=16) rfl;clear hb)
    |(go_at_call 167;(with_reducible refine(H2.out _).mono ?_);rintro e2 w2 ⟨rfl,hb⟩;have B2:=bTr B1 hb;clear hb)
    |fail)
   go_ret;exact⟨rfl,B2.out⟩
 · go_enter Tryz.func115,Tryz.ntmps115
   go_wp2_with (first
    |(go_at_call 138;(with_reducible refine(H1.out _ B0.out).mono ?_);rintro e1 w1 ⟨rfl,hb⟩;have B1:=bTr B0 hb;have X1:=hZ (X0.out.below hb);have y0:=X1.out.cell (i:=15) rfl;have y1:=X1.out.cell (i:=16) rfl;clear hb)
    |(go_at_call 167;(with_reducible refine(H2.out _).mono ?_);rintro e2 w2 ⟨rfl,hb⟩;have B2:=bTr B1 hb;have X2:=hZ (X1.out.below hb);have z0:=X2.out.cell (i:=15) rfl;clear hb)
    |(go_at_call 168;(with_reducible refine(H3.out _).mono ?_);rintro e3 w3 ⟨rfl,rfl⟩)
    |fail)
   go_ret;exact⟨rfl,B2.out⟩
end Go.Proofs.YteeifhlhpiimoaaGreatDoor
end
