/-
  Contracts of package integer's plus, minus, by on absolute values. Conditions: numbers of at most 1000 groups; a difference is not negative. Contracts of slices.Backward at package integer's numbers, of cmp.Compare, of compare and of sort.Search. Conditions: each contract's own. Long division in groups: plainly. No condition. Contracts of sort.Search at a function that makes memory, and of package integer's division of absolute values. Conditions: numbers of at most 900 groups. The contract of package integer's division of absolute values. Conditions: the divisor is not 0; numbers of at most 900 groups. A region that draws its order, inside a round of a loop over an iterator: walked by the plain laws, a condition on the world held. Conditions: no operation of the region is a defer; it does not panic.
-/
import Derived.Test.YteeifhlhpiimoaaGreatDoorZAa
import Derived.RangeFuncBox
import Derived.Deep.RegionHeld3
import Derived.Deep.OwnRows
import Derived.ArgAppend
import Derived.Laws.IdiomStrings
import Derived.OrdersIn
set_option maxHeartbeats 4000000
set_option maxRecDepth 100000
section
namespace Go.Proofs.YteeifhlhpiimoaaGreatDoor
open Go Go.RowKit Go.Shelf
attribute [local go_sem] Oper.semAt_some
theorem lt_pow_len (n:Nat):n<10000^(ofN n).length:=by have:=valN_lt (ofN_grp n);rwa[valN_ofN] at this
theorem ofN_len_mono {a b:Nat} (h:a≤b):(ofN a).length≤(ofN b).length:=by
 rcases Nat.lt_or_ge (ofN b).length (ofN a).length with q|q
 · have:=ofN_len_lt q;omega
 · exact q
theorem ofN_len_pow {n k:Nat} (h:n<10000^k):(ofN n).length≤k:=by
 rcases Nat.lt_or_ge k (ofN n).length with q|q
 · exfalso
   have h1:∀k,(ofN (10000^k)).length=k+1:=by
    intro k
    induction k with
    |zero=>rw[Nat.pow_zero,ofN_pos (by decide),show 1/10000=0 by decide,ofN_zero];rfl
    | succ k ih=>
      have hp:0<10000^k:=Nat.pow_pos (by decide);rw[ofN_pos (by rw[Nat.pow_succ];omega),List.length_cons,Nat.pow_succ,Nat.mul_div_cancel _ (by decide),ih]
   have h2:=h1 k;have h3:=ofN_len_lt (a:=n) (b:=10000^k);have h4:(ofN n).length≤(ofN (10000^k-1)).length:=ofN_len_mono (by omega)
   have h5:∀k,(ofN (10000^k-1)).length≤k:=by
    intro k
    induction k with
    |zero=>rw[Nat.pow_zero,Nat.sub_self,ofN_zero];exact Nat.le_refl _
    | succ k ih=>
      have hp:0<10000^k:=Nat.pow_pos (by decide);rw[ofN_pos (by rw[Nat.pow_succ];omega),List.length_cons,show(10000^(k+1)-1)/10000=10000^k-1 by rw[Nat.pow_succ];omega];omega
   have:=h5 k;omega
 · exact q
theorem ofN_len_add (a b:Nat):(ofN (a+b)).length≤max (ofN a).length (ofN b).length+1:=by
 apply ofN_len_pow;have h1:=lt_pow_len a;have h2:=lt_pow_len b;have h3:10000^(ofN a).length≤10000^(max (ofN a).length (ofN b).length):=Nat.pow_le_pow_right (by decide) (by omega);have h4:10000^(ofN b).length≤10000^(max (ofN a).length (ofN b).length):=Nat.pow_le_pow_right (by decide) (by omega);rw[Nat.pow_succ];omega
theorem ofN_len_mul (a:Nat) {d:Nat} (hd:d≤10000):(ofN (a*d)).length≤(ofN a).length+1:=by
 apply ofN_len_pow;have h1:=lt_pow_len a;rw[Nat.pow_succ];have h2:a*d≤a*10000:=Nat.mul_le_mul_left _ hd;omega
theorem getD_grp {l:List Nat} (h:Grp l) (j:Nat):l.getD j 0<10000:=by
 rw[List.getD_eq_getElem?_getD];rcases Nat.lt_or_ge j l.length with q|q
 · rw[List.getElem?_eq_getElem q];exact h _ (List.getElem_mem q)
 · rw[List.getElem?_eq_none q];decide
theorem getD_range {f:Nat→Int} (n j:Nat):((List.range n).map f).getD j 0=if j<n then f j else 0:=by
 rw[List.getD_eq_getElem?_getD,List.getElem?_map]
 split
 · rename_i h;rw[List.getElem?_range h];rfl
 · rename_i h;rw[List.getElem?_eq_none (by simpa using h)];rfl
theorem getD_out {l:List Nat} {j:Nat} (h:l.length≤j):l.getD j 0=0:=by rw[List.getD_eq_getElem?_getD,List.getElem?_eq_none h];rfl
theorem gsum_getD (l m:List Nat) (j:Nat):(gsum l m).getD j 0=((l.getD j 0:Nat):Int)+((m.getD j 0:Nat):Int):=by
 unfold gsum;rw[getD_range]
 split
 · rfl
 · rw[getD_out (l:=l) (by omega),getD_out (l:=m) (by omega)];rfl
theorem gsub_getD (l m:List Nat) (h:m.length≤l.length) (j:Nat):(gsub l m).getD j 0=((l.getD j 0:Nat):Int)-((m.getD j 0:Nat):Int):=by
 unfold gsub;rw[getD_range]
 split
 · rfl
 · rw[getD_out (l:=l) (by omega),getD_out (l:=m) (by omega)];rfl
theorem gmul_getD (l:List Nat) (k j:Nat):(gmul l k).getD j 0=((l.getD j 0:Nat):Int)*(k:Int):=by
 unfold gmul;rw[getD_range]
 split
 · rfl
 · rw[getD_out (l:=l) (by omega)];simp
def NumP (w:World) (n:Nat) (e:Ending) (w':World):Prop:=∃v,e=.returned v∧LsAt w' v (ofN n)∧Fresh w.heap.size v∧Below w.heap.size w w'
theorem box_cell (w:World) (v:Value) (t:TypeId):(w.alloc (.cells #[v] t)).cell? ⟨w.heap.size,0,none⟩=some v:=by simp
theorem below_box (w:World) (v:Value) (t:TypeId):Below w.heap.size w (w.alloc (.cells #[v] t)):=(Below.refl _ _).alloc (Nat.le_refl _) _
theorem plus_walk (a b:Nat) (v1 v2:Value) (w:World) (h1:LsAt w v1 (ofN a)) (h2:LsAt w v2 (ofN b)) (ha:(ofN a).length≤1000) (hb:(ofN b).length≤1000):
 Calls Tryz.prog 205 #[v1,v2] w (NumP w (a+b)):=by
 obtain⟨A,c,rfl,hc1,hc2,hc3,hA⟩:=h1;obtain⟨B,d,rfl,hd1,hd2,hd3,hB⟩:=h2;have hga:=ofN_grp a;have hgb:=ofN_grp b;have hlen:=ofN_len_add a b;have hval:=gsum_val (ofN a) (ofN b);rw[valN_ofN,valN_ofN] at hval;obtain⟨W1,hW1⟩:=oQ (w.alloc (.cells #[.slice A (ofN a).length c] 230));obtain⟨W0,hW0⟩:=oQ (W1.alloc (.cells #[.slice B (ofN b).length d] 230));have hb1:Below w.heap.size w W1:=by rw[←hW1];exact below_box _ _ _
 have hs1:W1.heap.size=w.heap.size+1:=by rw[←hW1];simp
 have hs0:W0.heap.size=w.heap.size+2:=by rw[←hW0];simp[hs1]
 have hb10:Below W1.heap.size W1 W0:=by rw[←hW0];exact below_box _ _ _
 have hb0:Below w.heap.size w W0:=hb1.trans (hb10.mono (by omega));have c1:W0.cell? ⟨w.heap.size,0,none⟩=some (.slice A (ofN a).length c):=(hb10.cell (p:=⟨w.heap.size,0,none⟩) (by simp;omega)).trans (by rw[←hW1];exact box_cell _ _ _);have c2:W0.cell? ⟨w.heap.size+1,0,none⟩=some (.slice B (ofN b).length d):=by rw[←hW0,←hs1];exact box_cell _ _ _
 have HF:=hZ (fold_walk (gsum (ofN a) (ofN b)) (max (ofN a).length (ofN b).length) (a+b) (ofN (a+b)).length (max (ofN a).length (ofN b).length+1) (by simp[gsum]) (by rw[hval];rfl) (lt_pow_len _) (by omega) hlen (by omega)
  (fun j=>by rw[gsum_getD];omega) (fun j=>by rw[gsum_getD];have:=getD_grp hga j;have:=getD_grp hgb j;omega) 250 #[.pointer (some ⟨w.heap.size,0,none⟩),.pointer (some ⟨w.heap.size+1,0,none⟩)]
  (enters_of Tryz.func250 (by kernel_rfl) rfl) W0 (fun W i hW=>by
    have hbW:Below w.heap.size w W:=hb0.trans (hW.mono (by omega))
    have:=plus1_walk A B c d (ofN a) (ofN b) _ _ rfl rfl i w.heap.size (w.heap.size+1) W (by omega) (by omega) ((hA.below hbW).more hbW.size) ((hB.below hbW).more hbW.size)
     ((hW.cell (p:=⟨w.heap.size,0,none⟩) (by simp;omega)).trans c1) ((hW.cell (p:=⟨w.heap.size+1,0,none⟩) (by simp;omega)).trans c2) (getD_grp hga) (getD_grp hgb)
    rw[gsum_getD]
    exact this))
 have HB0:=hZ hb0;obtain⟨n,hn⟩:=oQ ((ofN a).length);obtain⟨k,hk⟩:=oQ ((ofN b).length);obtain⟨m,hm⟩:=oQ (max n k);rw[hn,hk,hm] at HF;rw[hn] at hW1 ha;rw[hk] at hW0 hb;have hm1:m≤1000:=by omega
 rw[hn,hk];have hsz:w.heap.size≤W0.heap.size:=by omega
 have HSZ:=hZ hsz;clear hn hk hA hB hga hgb hlen hval hb0 hb1 hb10 c1 c2 hs1 hs0 hc1 hc2 hc3 hd1 hd2 hd3 hsz;subst hW0;subst hW1;rcases Nat.lt_or_ge n k with hnk|hnk
 · obtain rfl:k=m:=by omega
   clear hm
   go_enter Tryz.func205,Tryz.ntmps205
   go_wp2_with (first
    |(go_at_call 249;refine HF.out.mono ?_;rintro e w1 ⟨v,out,rfl,⟨A',c',rfl,hc1,hc2,hc3,hlat⟩,hfr,htr,hlen,hb⟩;have HFR:=hZ hfr;clear hfr;have HTR:=hZ htr;have HBB:=hZ hb;clear htr hb HF)
    |(go_at_call 245;refine(trimmed_walk A' c' out out.length rfl hc1 hc2 hc3 w1 hlat (by omega)).mono ?_;rintro e w2 ⟨⟨v2,rfl,hv2,hf2⟩,rfl⟩)
    |fail)
   go_ret;exact⟨_,rfl,by rw[←HTR.out];exact hv2,(hf2 _ HFR.out).base HSZ.out,HB0.out.trans (HBB.out.mono HSZ.out)⟩
 · obtain rfl:n=m:=by omega
   clear hm
   go_enter Tryz.func205,Tryz.ntmps205
   go_wp2_with (first
    |(go_at_call 249;refine HF.out.mono ?_;rintro e w1 ⟨v,out,rfl,⟨A',c',rfl,hc1,hc2,hc3,hlat⟩,hfr,htr,hlen,hb⟩;have HFR:=hZ hfr;clear hfr;have HTR:=hZ htr;have HBB:=hZ hb;clear htr hb HF)
    |(go_at_call 245;refine(trimmed_walk A' c' out out.length rfl hc1 hc2 hc3 w1 hlat (by omega)).mono ?_;rintro e w2 ⟨⟨v2,rfl,hv2,hf2⟩,rfl⟩)
    |fail)
   go_ret;exact⟨_,rfl,by rw[←HTR.out];exact hv2,(hf2 _ HFR.out).base HSZ.out,HB0.out.trans (HBB.out.mono HSZ.out)⟩
theorem minus_walk (a b:Nat) (hab:b≤a) (v1 v2:Value) (w:World) (h1:LsAt w v1 (ofN a)) (h2:LsAt w v2 (ofN b)) (ha:(ofN a).length≤1000):
 Calls Tryz.prog 207 #[v1,v2] w (NumP w (a-b)):=by
 obtain⟨A,c,rfl,hc1,hc2,hc3,hA⟩:=h1;obtain⟨B,d,rfl,hd1,hd2,hd3,hB⟩:=h2;have hga:=ofN_grp a;have hgb:=ofN_grp b;have hlab:=ofN_len_mono hab;have hlen:(ofN (a-b)).length≤(ofN a).length:=ofN_len_mono (by omega);have hval:=gsub_val (ofN a) (ofN b) hlab;rw[valN_ofN,valN_ofN] at hval;obtain⟨W1,hW1⟩:=oQ (w.alloc (.cells #[.slice A (ofN a).length c] 230));obtain⟨W0,hW0⟩:=oQ (W1.alloc (.cells #[.slice B (ofN b).length d] 230));have hb1:Below w.heap.size w W1:=by rw[←hW1];exact below_box _ _ _
 have hs1:W1.heap.size=w.heap.size+1:=by rw[←hW1];simp
 have hs0:W0.heap.size=w.heap.size+2:=by rw[←hW0];simp[hs1]
 have hb10:Below W1.heap.size W1 W0:=by rw[←hW0];exact below_box _ _ _
 have hb0:Below w.heap.size w W0:=hb1.trans (hb10.mono (by omega));have c1:W0.cell? ⟨w.heap.size,0,none⟩=some (.slice A (ofN a).length c):=(hb10.cell (p:=⟨w.heap.size,0,none⟩) (by simp;omega)).trans (by rw[←hW1];exact box_cell _ _ _);have c2:W0.cell? ⟨w.heap.size+1,0,none⟩=some (.slice B (ofN b).length d):=by rw[←hW0,←hs1];exact box_cell _ _ _
 have HF:=hZ (fold_walk (gsub (ofN a) (ofN b)) (ofN a).length (a-b) (ofN (a-b)).length (ofN a).length (by simp[gsub]) (by rw[hval];omega) (lt_pow_len _) (by omega) hlen (by omega)
  (fun j=>by rw[gsub_getD _ _ hlab];have:=getD_grp hgb j;omega) (fun j=>by rw[gsub_getD _ _ hlab];have:=getD_grp hga j;omega) 252 #[.pointer (some ⟨w.heap.size,0,none⟩),.pointer (some ⟨w.heap.size+1,0,none⟩)]
  (enters_of Tryz.func252 (by kernel_rfl) rfl) W0 (fun W i hW=>by
    have hbW:Below w.heap.size w W:=hb0.trans (hW.mono (by omega))
    have:=minus1_walk A B c d (ofN a) (ofN b) _ _ rfl rfl i w.heap.size (w.heap.size+1) W (by omega) (by omega) ((hA.below hbW).more hbW.size) ((hB.below hbW).more hbW.size)
     ((hW.cell (p:=⟨w.heap.size,0,none⟩) (by simp;omega)).trans c1) ((hW.cell (p:=⟨w.heap.size+1,0,none⟩) (by simp;omega)).trans c2) (getD_grp hga) (getD_grp hgb)
    rw[gsub_getD _ _ hlab]
    exact this))
 have HB0:=hZ hb0;obtain⟨n,hn⟩:=oQ ((ofN a).length);obtain⟨k,hk⟩:=oQ ((ofN b).length);rw[hn] at HF;rw[hn] at hW1 ha;rw[hk] at hW0;rw[hn,hk];have hsz:w.heap.size≤W0.heap.size:=by omega
 have HSZ:=hZ hsz;clear hn hk hA hB hga hgb hlen hval hlab hb0 hb1 hb10 c1 c2 hs1 hs0 hc1 hc2 hc3 hd1 hd2 hd3 hsz hab;subst hW0;subst hW1
 go_enter Tryz.func207,Tryz.ntmps207
 go_wp2_with (first
  |(go_at_call 249;refine HF.out.mono ?_;rintro e w1 ⟨v,out,rfl,⟨A',c',rfl,hc1,hc2,hc3,hlat⟩,hfr,htr,hlen,hb⟩;have HFR:=hZ hfr;clear hfr;have HTR:=hZ htr;have HBB:=hZ hb;clear htr hb HF)
  |(go_at_call 245;refine(trimmed_walk A' c' out out.length rfl hc1 hc2 hc3 w1 hlat (by omega)).mono ?_;rintro e w2 ⟨⟨v2,rfl,hv2,hf2⟩,rfl⟩)
  |fail)
 go_ret;exact⟨_,rfl,by rw[←HTR.out];exact hv2,(hf2 _ HFR.out).base HSZ.out,HB0.out.trans (HBB.out.mono HSZ.out)⟩
theorem by_walk (a f:Nat) (hf:f≤10000) (v1:Value) (w:World) (h1:LsAt w v1 (ofN a)) (ha:(ofN a).length≤1000):
 Calls Tryz.prog 246 #[v1,.int .i64 (f:Int)] w (NumP w (a*f)):=by
 obtain⟨A,c,rfl,hc1,hc2,hc3,hA⟩:=h1;have hga:=ofN_grp a;have hlen:=ofN_len_mul a hf;have hval:=gmul_val (ofN a) f;rw[valN_ofN] at hval;obtain⟨W1,hW1⟩:=oQ (w.alloc (.cells #[.slice A (ofN a).length c] 230));obtain⟨W0,hW0⟩:=oQ (W1.alloc (.cells #[.int .i64 (f:Int)] 3));have hb1:Below w.heap.size w W1:=by rw[←hW1];exact below_box _ _ _
 have hs1:W1.heap.size=w.heap.size+1:=by rw[←hW1];simp
 have hs0:W0.heap.size=w.heap.size+2:=by rw[←hW0];simp[hs1]
 have hb10:Below W1.heap.size W1 W0:=by rw[←hW0];exact below_box _ _ _
 have hb0:Below w.heap.size w W0:=hb1.trans (hb10.mono (by omega));have c1:W0.cell? ⟨w.heap.size,0,none⟩=some (.slice A (ofN a).length c):=(hb10.cell (p:=⟨w.heap.size,0,none⟩) (by simp;omega)).trans (by rw[←hW1];exact box_cell _ _ _);have c2:W0.cell? ⟨w.heap.size+1,0,none⟩=some (.int .i64 (f:Int)):=by rw[←hW0,←hs1];exact box_cell _ _ _
 have hmul:∀j,((ofN a).getD j 0)*f≤9999*10000:=fun j=>Nat.mul_le_mul (by have:=getD_grp hga j;omega) hf
 have HF:=hZ (fold_walk (gmul (ofN a) f) (ofN a).length (a*f) (ofN (a*f)).length ((ofN a).length+1) (by simp[gmul]) (by rw[hval,Int.natCast_mul]) (lt_pow_len _) (by omega) hlen (by omega)
  (fun j=>by rw[gmul_getD,←Int.natCast_mul];omega) (fun j=>by rw[gmul_getD,←Int.natCast_mul];have:=hmul j;omega) 266 #[.pointer (some ⟨w.heap.size,0,none⟩),.pointer (some ⟨w.heap.size+1,0,none⟩)]
  (enters_of Tryz.func266 (by kernel_rfl) rfl) W0 (fun W i hW=>by
    have hbW:Below w.heap.size w W:=hb0.trans (hW.mono (by omega))
    have:=by1_walk A c (ofN a) _ rfl i f (by omega) w.heap.size (w.heap.size+1) W (by omega) ((hA.below hbW).more hbW.size)
     ((hW.cell (p:=⟨w.heap.size,0,none⟩) (by simp;omega)).trans c1) ((hW.cell (p:=⟨w.heap.size+1,0,none⟩) (by simp;omega)).trans c2) (getD_grp hga)
    rw[gmul_getD]
    exact this))
 have HB0:=hZ hb0;obtain⟨n,hn⟩:=oQ ((ofN a).length);rw[hn] at HF;rw[hn] at hW1 ha;rw[hn];have hsz:w.heap.size≤W0.heap.size:=by omega
 have HSZ:=hZ hsz;clear hn hA hga hlen hval hmul hb0 hb1 hb10 c1 c2 hs1 hs0 hc1 hc2 hc3 hsz;subst hW0;subst hW1
 go_enter Tryz.func246,Tryz.ntmps246
 go_wp2_with (first
  |(go_at_call 249;refine HF.out.mono ?_;rintro e w1 ⟨v,out,rfl,⟨A',c',rfl,hc1,hc2,hc3,hlat⟩,hfr,htr,hlen,hb⟩;have HFR:=hZ hfr;clear hfr;have HTR:=hZ htr;have HBB:=hZ hb;clear htr hb HF)
  |(go_at_call 245;refine(trimmed_walk A' c' out out.length rfl hc1 hc2 hc3 w1 hlat (by omega)).mono ?_;rintro e w2 ⟨⟨v2,rfl,hv2,hf2⟩,rfl⟩)
  |fail)
 go_ret;exact⟨_,rfl,by rw[←HTR.out];exact hv2,(hf2 _ HFR.out).base HSZ.out,HB0.out.trans (HBB.out.mono HSZ.out)⟩
theorem not_books {w:World} {k:Nat} (h:k<w.heap.size):¬((fun _=>False) k∨books w k):=by
 rintro(e|e|e)
 · exact e
 · omega
 · omega
theorem far_books {w:World} {n:Nat} (h:n≤w.heap.size) (k:Nat) (e:(fun _=>False) k∨books w k):n≤k:=by
 rcases e with e|e|e
 · exact(e:False).elim
 · omega
 · omega
def encB {n:Nat} (v:Fin n→Value) (i:Fin n):Array Value:=#[.int .i64 (i.val:Int),v i]
def KpB (b1:Nat) (A:Option Addr) (U V:World):Prop:=V.heap[b1]?=U.heap[b1]?∧∀a,A=some a→V.heap[a.block]?=U.heap[a.block]?
theorem KpB.trans {b1:Nat} {A:Option Addr} {U V W:World} (h:KpB b1 A U V) (k:KpB b1 A V W):KpB b1 A U W:=⟨k.1.trans h.1,fun a ha=>(k.2 a ha).trans (h.2 a ha)⟩
theorem KpB.of_below {b1 n:Nat} {A:Option Addr} {U V:World} (hb:b1<n) (hA:∀a,A=some a→a.block<n) (hn:n≤U.heap.size) (h:Below U.heap.size U V):KpB b1 A U V:=
 ⟨h.block _ (by omega),fun a ha=>h.block _ (by have:=hA a ha;omega)⟩
theorem KpB.put {b1 n k:Nat} {A:Option Addr} (hb:b1<n) (hA:∀a,A=some a→a.block<n) (hk:n≤k) (W:World) (o:Obj):KpB b1 A W (W.putObj k o):=
 ⟨World.putObj_heap_other (by omega),fun a ha=>World.putObj_heap_other (by have:=hA a ha;omega)⟩
theorem LAt.kp {α:Type} {w w':World} {B b1:Nat} {A:Option Addr} {f:α→Value} {l:List α} (h:LAt w B A f l) (k:KpB b1 A w w'):LAt w' B A f l:=fun i x hx=>by
 obtain⟨a,e,hl,hc⟩:=h i x hx;exact⟨a,e,hl,(World.cell?_of_block (a:=a.add i) (by rw[addr_add_block];exact k.2 a e)).trans hc⟩
theorem rev_range (k:Nat):(List.range (k+1)).reverse=k::(List.range k).reverse:=by rw[List.range_succ,List.reverse_append];rfl
theorem LAt.addr {α:Type} {w:World} {A:Option Addr} {f:α→Value} {l:List α} {B:Nat} (h:LAt w B A f l):∃A0:Option Addr,(0<l.length→A0=A)∧∀a,A0=some a→a.block<B:=by
 rcases Nat.eq_zero_or_pos l.length with h0|h0
 · exact⟨none,fun h=>by omega,fun a ha=>by cases ha⟩
 · obtain⟨a,rfl,hab,_⟩:=h.get h0
   exact⟨_,fun _=>rfl,fun a' ha=>by cases ha;exact hab⟩
theorem backN_any (A:Option Addr) (n c:Nat) (w:World):
 Calls Tryz.prog 244 #[.slice A n c] w fun e w'=>e=.returned (.func (.func 265) #[] #[.pointer (some ⟨w.heap.size,0,none⟩)])∧w'=w.alloc (.cells #[.slice A n c] 230):=by
 go_enter Tryz.func244,Tryz.ntmps244
 go_wp2;go_ret;exact⟨rfl,rfl⟩
theorem backN_iter (A A0:Option Addr) (l:List Nat) (n:Nat) (hn:l.length=n) (h00:0<n→A0=A) (cap b1:Nat) (hmax:n≤1000000) (w:World) (h1:Boxed w b1 230 (.slice A n cap)) (hA:LAt w w.heap.size A nv l):
 IterZ Tryz.prog 265 #[.pointer (some ⟨b1,0,none⟩)] (encB fun i:Fin l.length=>.int .i64 (l[i.val]:Int)) (fun _=>False) (KpB b1 A0) (fun xs=>xs.map Fin.val=(List.range l.length).reverse) (fun pre=> ∃k,pre.map Fin.val++(List.range k).reverse=(List.range l.length).reverse) l.length w:=by
 subst hn;intro l0 J Jx W hW hJ hJx hY h0;have k1:Boxed W b1 230 (.slice A l.length cap):=(hW.block b1 h1.lt).trans h1;have hAW:=hA.below hW;refine callsIn_of_wp Tryz.func265 rfl trivial ?_ rfl;simp only[Tryz.ntmps265,List.size_toArray,List.length_cons,List.length_nil,Nat.reduceAdd,Nat.reduceSub,Array.replicate_succ,Array.replicate_zero,List.push_toArray,List.append_toArray,List.nil_append,List.cons_append];have c0:=k1.cell;have HA:=hZ hAW;have H00:=hZ h00;clear hA hAW h1 h00
 gi_wp2_with fail
 gi_loopw [3] (fun i wr=> ∃(k:Nat) (pre:List (Fin l.length)),pre.map Fin.val++(List.range k).reverse=(List.range l.length).reverse∧k≤l.length∧i=.int .i64 ((k:Int)-1)∧Boxed wr b1 230 (.slice A l.length cap)∧LAt wr w.heap.size A nv l∧J pre wr) (fun i _=>(intOf i+1).toNat)
 case atStart=>exact⟨l.length,[],rfl,by omega,rfl,k1,HA.out,h0⟩
 case round=>
  obtain⟨k,pre,hpre,hk,rfl,hb1,hA,hj⟩:=hrel;have c1:=hb1.cell;have hpl:pre.length+k=l.length:=by have:=congrArg List.length hpre;simpa using this
  have HPRE:=hZ hpre;have HPL:=hZ hpl;clear k1 h0 c0 HA hpre hpl
  by_cases hlt:0<k
  · obtain⟨m,hm⟩:∃m:Nat,k=m+1:=⟨k-1,by omega⟩
    (have hmi:(k:Int)-1=(m:Int):=by omega);(have hml:m<l.length:=by omega);obtain⟨a,rfl,hab,hac⟩:=hA.get hml;unfold nv at hac;obtain rfl:=H00.out (by omega);obtain⟨fn,tmps,assign,body,hy,hR⟩:=hY pre ⟨m,by omega⟩ wr hj (by have:=HPL.out;omega)
    dsimp only[encB] at hy
    (have z1:(0:Int)≤(m:Int):=by omega);(have z2:(m:Int)<(l.length:Int):=by omega);have HMI:=hZ hmi;have HLA:=hZ hA;have HJ:=hZ hj;have HM:=hZ hm;rw[hmi];clear hmi hA hj hm
    gi_wp2_with fail
    refine hR.mono ?_;rintro e W3 (⟨rfl,hJ3,hk3⟩|⟨rfl,hJx3⟩)
    · have hb3:Boxed W3 b1 230 (.slice (some a) l.length cap):=hk3.1.trans hb1
      have hA3:=HLA.out.kp hk3;have c3:=hb3.cell;have HA3:=hZ hA3;clear c1 hac hA3
      gi_wp2
      refine⟨⟨m,pre++[⟨m,by omega⟩],?_,by omega,rfl,hb3,HA3.out,hJ3⟩,?_⟩
      · have hr:=HPRE.out
        rw[HM.out,rev_range] at hr;rw[←hr];simp
      · simp[intOf]<;>omega
    · gi_wp2
      refine bodyPost_ret (results_none rfl _ _ _) rfl ?_;refine⟨⟨_,rfl⟩,.inr ⟨_,⟨m,?_⟩,hJx3⟩⟩;have hr:=HPRE.out;rw[HM.out,rev_range] at hr;rw[←hr];simp
  · obtain rfl:k=0:=by omega
    gi_wp2_with fail
    go_end0
    exact⟨⟨_,rfl⟩,.inl ⟨_,by simpa using HPRE.out,hj⟩⟩
def cmpZ' (a b:Int):Int:=if a<b then -1 else if b<a then 1 else 0
theorem isNaN_walk (a:Int) (w:World):Calls Tryz.prog 104 #[.int .i64 a] w fun e w'=>e=.returned (.bool false)∧w=w':=by
 go_enter Tryz.func104,Tryz.ntmps104
 go_wp2_with fail;go_ret;exact⟨by simp,rfl⟩
theorem cmp_walk (a b:Int) (w:World):Calls Tryz.prog 60 #[.int .i64 a,.int .i64 b] w fun e w'=>e=.returned (.int .i64 (cmpZ' a b))∧w=w':=by
 have H1:=hZ (fun w=>isNaN_walk a w);have H2:=hZ (fun w=>isNaN_walk b w);unfold cmpZ'
 by_cases h:a<b
 · have d1:decide (a<b)=true:=by simp[h]
   rw[if_pos h]
   go_enter Tryz.func60,Tryz.ntmps60
   go_wp2_with (first|(go_at_call 104;(with_reducible refine(H1.out _).mono ?_);rintro e w' ⟨rfl,rfl⟩)|(go_at_call 104;(with_reducible refine(H2.out _).mono ?_);rintro e w' ⟨rfl,rfl⟩)|fail)
   go_ret;exact⟨rfl,rfl⟩
 · have d1:decide (a<b)=false:=by simpa using h
   rw[if_neg h]
   by_cases h2:b<a
   · have d2:decide (b<a)=true:=by simp[h2]
     rw[if_pos h2]
     go_enter Tryz.func60,Tryz.ntmps60
     go_wp2_with (first|(go_at_call 104;(with_reducible refine(H1.out _).mono ?_);rintro e w' ⟨rfl,rfl⟩)|(go_at_call 104;(with_reducible refine(H2.out _).mono ?_);rintro e w' ⟨rfl,rfl⟩)|fail)
     go_ret;exact⟨rfl,rfl⟩
   · have d2:decide (b<a)=false:=by simpa using h2
     rw[if_neg h2]
     go_enter Tryz.func60,Tryz.ntmps60
     go_wp2_with (first|(go_at_call 104;(with_reducible refine(H1.out _).mono ?_);rintro e w' ⟨rfl,rfl⟩)|(go_at_call 104;(with_reducible refine(H2.out _).mono ?_);rintro e w' ⟨rfl,rfl⟩)|fail)
     go_ret;exact⟨rfl,rfl⟩
theorem cmpZ'_nat (a b:Nat):cmpZ' (a:Int) (b:Int)=cmpI a b:=by
 unfold cmpZ' cmpI
 by_cases h:a<b
 · rw[if_pos (by omega),if_pos h]
 · rw[if_neg (by omega),if_neg h]
   by_cases h2:b<a
   · rw[if_pos (by omega),if_pos h2]
   · rw[if_neg (by omega),if_neg h2]
theorem results_cell1 {P:Program} {fn:Func} {p:Tmp} {ty:TypeId} {a:Addr} {v:Value} (h:fn.results=#[.cell p ty]) (tmps:Array Value) (w:World) (hp:tmps.getD p undef=.pointer (some a))
 (ha:∀w,(isAgg ty).run P w=.ok false w) (hc:w.cell? a=some v):(results fn tmps).run P w=.ok v w:=by
 have hp':tmps[p]?.getD undef=.pointer (some a):=by simpa using hp
 simp[results,h,hp',asAddr,loadVar,ha,hc,go_sem]
theorem rev_mem {n k x:Nat} {p:List Nat} (h:(p++[x])++(List.range k).reverse=(List.range n).reverse):x<n∧∀j,x<j→j<n→j∈p:=by
 have h':List.range k++(x::p.reverse)=List.range n:=by
  have:=congrArg List.reverse h;simpa using this
 have hl:k+(p.length+1)=n:=by have:=congrArg List.length h';simpa using this
 have hx:x=k:=by
  have e:(List.range k++(x::p.reverse))[k]?=(List.range n)[k]?:=by rw[h']
  rw[List.getElem?_append_right (by simp),List.getElem?_range (by omega)] at e;simpa using e
 refine⟨by omega,fun j h1 h2=> ?_⟩;have hm:j∈List.range k++(x::p.reverse):=by rw[h'];simpa using h2
 rcases List.mem_append.1 hm with q|q
 · have:=List.mem_range.1 q;omega
 · rcases List.mem_cons.1 q with e|e
   · omega
   · exact List.mem_reverse.1 e
theorem getD_get {l:List Nat} {i:Nat} (h:i<l.length):l.getD i 0=l[i]:=by rw[List.getD_eq_getElem?_getD,List.getElem?_eq_getElem h];rfl
theorem cmp_stop {l m:List Nat} (hl:Grp l) (hm:Grp m) (hlm:l.length=m.length) {p:List (Fin l.length)} {x:Fin l.length} {k:Nat} (h:(p++[x]).map Fin.val++(List.range k).reverse=(List.range l.length).reverse)
 (he:∀i∈p,l.getD i.val 0=m.getD i.val 0) (hne:l.getD x.val 0≠m.getD x.val 0):cmpI (valN l) (valN m)=cmpI (l.getD x.val 0) (m.getD x.val 0):=by
 rw[List.map_append,List.map_singleton] at h;obtain⟨h1,h2⟩:=rev_mem h;have hxm:x.val<m.length:=by have:=x.isLt;omega
 rw[getD_get x.isLt,getD_get hxm] at hne⊢;refine cmp_top hl hm x.isLt hlm ?_ hne;apply List.ext_getElem (by simp[hlm]);intro i h3 h4;rw[List.getElem_drop,List.getElem_drop];have h5:x.val+1+i<l.length:=by rw[List.length_drop] at h3;omega
 obtain⟨q,hq,hqe⟩:=List.mem_map.1 (h2 (x.val+1+i) (by omega) h5);have:=he q hq;rw[hqe,getD_get h5,getD_get (by omega)] at this;exact this
theorem cmp_done {l m:List Nat} (hlm:l.length=m.length) {p:List (Fin l.length)} (h:p.map Fin.val=(List.range l.length).reverse) (he:∀i∈p,l.getD i.val 0=m.getD i.val 0):l=m:=by
 apply List.ext_getElem hlm;intro i h1 h2;have hm:i∈p.map Fin.val:=by rw[h];simpa using h1
 obtain⟨q,hq,hqe⟩:=List.mem_map.1 hm;have:=he q hq;rw[hqe,getD_get h1,getD_get h2] at this;exact this
def CmpQ (w:World) (z:Int) (e:Ending) (w':World):Prop:=e=.returned (.int .i64 z)∧Below w.heap.size w w'
theorem compare_walk (a b:Nat) (v1 v2:Value) (w:World) (h1:LsAt w v1 (ofN a)) (h2:LsAt w v2 (ofN b)) (ha:(ofN a).length≤1000) (hb:(ofN b).length≤1000):
 Calls Tryz.prog 209 #[v1,v2] w (CmpQ w (cmpI a b)):=by
 obtain⟨A,c,rfl,hc1,hc2,hc3,hA⟩:=h1;obtain⟨B,d,rfl,hd1,hd2,hd3,hB⟩:=h2;obtain⟨n,hn⟩:=oQ ((ofN a).length);obtain⟨k,hk⟩:=oQ ((ofN b).length);rw[hn] at ha;rw[hk] at hb;rw[hn,hk]
 by_cases hnk:n=k
 · subst hnk
   refine(callsIn_wide (n:=3)).1 ?_;refine callsIn_of_wp_marks Tryz.func209 rfl trivial ?_ rfl;simp only[Tryz.ntmps209,List.size_toArray,List.length_cons,List.length_nil,Nat.reduceAdd,Nat.reduceSub,Array.replicate_succ,Array.replicate_zero,List.push_toArray,List.append_toArray,List.nil_append,List.cons_append];have HA:=hZ hA;have HB:=hZ hB;have HN:=hZ hn;have HK:=hZ hk;clear hA hB hn hk;refine wpIn_wide.2 ?_
   go_wp2_with (first
    |(go_at_call 244;refine(backN_any _ _ _ _).mono ?_;rintro e w5 ⟨rfl,rfl⟩)
    |fail)
   obtain⟨W0,hW0⟩:=oQ ((w.alloc (.cells #[.slice B n d] 230)).alloc (.cells #[.int .i64 0] 3));obtain⟨W1,hW1⟩:=oQ (W0.alloc (.cells #[.slice A n c] 230));(have hs0:W0.heap.size=w.heap.size+2:=by rw[←hW0];simp);(have hs1:W1.heap.size=w.heap.size+3:=by rw[←hW1];simp[hs0]);(have hb01:Below W0.heap.size W0 W1:=by rw[←hW1];exact below_box _ _ _);(have hb0:Below w.heap.size w W0:=by rw[←hW0];exact((Below.refl _ _).alloc (Nat.le_refl _) _).alloc (by simp) _);have hB1:Below w.heap.size w W1:=hb0.trans (hb01.mono (by omega));have x0:Boxed W1 w.heap.size 230 (.slice B n d):=by rw[←hW1,←hW0];exact((Boxed.new w _ _).alloc _).alloc _
   have x1:Boxed W1 (w.heap.size+1) 3 (.int .i64 0):=by
    have:=(Boxed.new (w.alloc (.cells #[.slice B n d] 230)) 3 (.int .i64 0)).alloc (.cells #[.slice A n c] 230);rw[World.size_alloc,hW0,hW1] at this;exact this
   have x2:Boxed W1 (w.heap.size+2) 230 (.slice A n c):=by
    have:=Boxed.new W0 230 (.slice A n c);rw[hs0,hW1] at this;exact this
   obtain⟨A0,hA0,hA1⟩:=HA.out.addr;obtain⟨B0,hB0,hB00⟩:=HB.out.addr;(have hlm:(ofN a).length=(ofN b).length:=by rw[HN.out,HK.out]);rw[HN.out] at hA0;rw[HK.out] at hB0;have HLM:=hZ hlm;have HA1:=hZ ((HA.out.below hB1).more hB1.size);have HBv:=hZ HB.out;have x2:Boxed W1 (w.heap.size+1+1) 230 (.slice A n c):=x2;rw[hW0,hW1];clear hW0 hW1 hlm hb01 hb0;have hs2:W0.heap.size=w.heap.size+2:=hs0;refine(wpIn_wide (n:=3)).1 ?_
   refine wp_rangeZ (gf:=265) (lb:=#[.pointer (some ⟨w.heap.size+1+1,0,none⟩)]) rfl (enters_of Tryz.func265 (by kernel_rfl) rfl)
    (backN_iter A A0 (ofN a) n HN.out hA0 c (w.heap.size+1+1) (by omega) W1 x2 HA1.out) (Below.refl _ _) (fun k hk=>hk.elim) (fun _=>rfl) (fun h k=>h.trans k)
    (fun W o=>KpB.put (n:=w.heap.size+3) (by omega) (fun q hq=>by have:=hA1 q hq;omega) (by omega) W o)
    (fun pre W=>Boxed W w.heap.size 230 (.slice B n d)∧Boxed W (w.heap.size+1) 3 (.int .i64 0)∧Hid (∀i∈pre,(ofN a).getD i.val 0=(ofN b).getD i.val 0)∧Below w.heap.size w W)
    (fun cd pre W=>cd=.ret∧∃p x,pre=p++[x]∧Hid (∀i∈p,(ofN a).getD i.val 0=(ofN b).getD i.val 0)∧(ofN a).getD x.val 0≠(ofN b).getD x.val 0∧Boxed W (w.heap.size+1) 3 (.int .i64 (cmpI ((ofN a).getD x.val 0) ((ofN b).getD x.val 0)))∧Below w.heap.size w W)
    (fun s U V h t=>⟨t.boxed h.1 (not_books (by omega)),t.boxed h.2.1 (not_books (by omega)),h.2.2.1,t.below h.2.2.2 (Nat.le_refl _) (far_books (by omega))⟩)
    (fun cd s U V h t=>by
      obtain⟨e,p,x,e2,h1,h2,h3,h4⟩:=h
      exact⟨e,p,x,e2,h1,h2,t.boxed h3 (not_books (by omega)),t.below h4 (Nat.le_refl _) (far_books (by omega))⟩)
    ⟨x0,x1,hZ (fun i hi=>by cases hi),hB1⟩ ?a1 ?assign ?body ?done ?stop
   case assign=>
    intro l x W K hK
    dsimp only[encB]
    gi_wp2
    exact hK
   case body=>
    rintro l0 pre x W hW ⟨hx0,hx1,hpre,hbW⟩ hlt2;(have hxl:x.val<n:=by have:=x.isLt;have:=HN.out;omega);obtain⟨p,hp⟩:=oQ ((ofN a).getD x.val 0);obtain⟨q,hq⟩:=oQ ((ofN b).getD x.val 0);have hp9:=getD_grp (ofN_grp a) x.val;have hq9:=getD_grp (ofN_grp b) x.val;obtain⟨bb,rfl,hbb,hbc⟩:=(HBv.out.below hbW).get (i:=x.val) (by have:=HLM.out;have:=x.isLt;omega);unfold nv at hbc;rw[←getD_get,hq] at hbc;rw[hp] at hp9;rw[hq] at hq9;rw[←getD_get,hp];have c0:=hx0.cell;have c1:=hx1.cell;have f1:=hx1.frozen;(have z1:(0:Int)≤(x.val:Int):=by omega);(have z2:(x.val:Int)<(n:Int):=by omega);have HP:=hZ hp;have HQ:=hZ hq;have HX0:=hZ hx0;have HX1:=hZ hx1;have HBW:=hZ hbW;obtain⟨xi,hxi⟩:=oQ (x.val);rw[hxi] at z1 z2 hbc⊢;have HXI:=hZ hxi;have hkp:∀V,Below W.heap.size W V→KpB (w.heap.size+1+1) A0 W V:=fun V h=>KpB.of_below (n:=w.heap.size+3) (by omega) (fun q hq=>by have:=hA1 q hq;omega) (by have:=hW;omega) h;have HKP:=hZ hkp;clear hp hq hx0 hx1 hbW x0 x1 x2 hxi hxl hkp hA0 hA1 hB0 hB00
    by_cases hpq:p=q
    · subst hpq
      have d1:((p:Int)==(p:Int))=true:=by simp
      gi_wp2_with fail
      refine⟨KeepsFrom.of_below (Below.refl _ _),HKP.out _ (Below.refl _ _),HX0.out,HX1.out,hZ ?_,HBW.out⟩;intro i hi;rcases List.mem_append.1 hi with h|h
      · exact hpre.out i h
      · obtain rfl:=List.mem_singleton.1 h
        rw[HP.out,HQ.out]
    · have d1:((p:Int)==(q:Int))=false:=by simp;omega
      have HX1s:=hZ (HX1.out.set (.int .i64 (cmpI p q)));have HBs:=hZ (HBW.out.setCell (p:=⟨w.heap.size+1,0,none⟩) (by simp) (.int .i64 (cmpI p q)))
      gi_wp2_with fail
      refine⟨trivial,CallsIn.mono (F:=Fence.wide) (n:=0) (callsIn_wide.2 (cmp_walk _ _ _)) ?_⟩;rintro e W2 ⟨rfl,rfl⟩;rw[cmpZ'_nat];obtain⟨z,hz⟩:=oQ (cmpI p q);have HZ:=hZ hz;rw[hz] at HX1s HBs⊢;clear hz
      gi_wp2_with fail
      refine⟨(KeepsOthers.setCell _ _ _).from _,rfl,pre,x,rfl,hpre,?_,?_,HBs.out⟩
      · rw[HP.out,HQ.out];exact hpq
      · rw[HP.out,HQ.out,HZ.out];exact HX1s.out
   case done=>
    rintro xs W hS ⟨hx0,hx1,hpre,hbW⟩ hK
    have hab:a=b:=by
     have:=cmp_done HLM.out hS hpre.out;rw[←valN_ofN a,this,valN_ofN]
    (have hz:cmpI a b=0:=by rw[hab];unfold cmpI;simp);have HZ0:=hZ hz;have c1:=hx1.cell;have f1:=hx1.frozen;have hbs:=hbW.setCell (p:=⟨w.heap.size+1,0,none⟩) (by simp) (.int .i64 0);have HX:=hZ (hx1.set (.int .i64 0));have HKK:=hZ hK;have HBW:=hZ hbs;clear hS hx0 hx1 hpre hbW hK hab hz hbs x0 x1 x2 hA0 hA1 hB0 hB00;go_wp2_with fail;refine⟨by simp,.inl ⟨_,_,rfl,run_takeDeferred (((KeepsOthers.setCell _ _ _).from 0).2 _ _ (Nat.zero_le _) HKK.out rfl),?_⟩⟩;have hX2:Boxed ((W.setCell ⟨w.heap.size+1,0,none⟩ (.int .i64 0)).putObj W1.heap.size (.deferred none)) (w.heap.size+1) 3 (.int .i64 0):=(Turns.putObj (Z:=fun k=>k=W1.heap.size) _ _ _ rfl).boxed HX.out (by omega);refine⟨_,results_cell1 (a:=(⟨w.heap.size+1,0,none⟩:Addr)) rfl _ _ rfl Tryz.isAgg3 hX2.cell,by rw[HZ0.out],?_⟩;exact(Turns.putObj (Z:=fun k=>k=W1.heap.size) _ _ _ rfl).below HBW.out (Nat.le_refl _) (fun k hk=>by omega)
   case stop=>
    rintro cd pre W ⟨k,hk⟩ ⟨rfl,p,x,rfl,hpre,hne,hx1,hbW⟩ hK;have hz:=cmp_stop (ofN_grp a) (ofN_grp b) HLM.out hk hpre.out hne;rw[valN_ofN,valN_ofN] at hz;rw[←hz] at hx1;have HX:=hZ hx1;have HKK:=hZ hK;have HBW:=hZ hbW;clear hk hpre hne hx1 hbW hK hz x0 x1 x2 hA0 hA1 hB0 hB00
    gi_wp2_with fail
    refine⟨by simp,.inl ⟨_,_,rfl,run_takeDeferred HKK.out,?_⟩⟩;have hX2:Boxed (W.putObj W1.heap.size (.deferred none)) (w.heap.size+1) 3 (.int .i64 (cmpI a b)):=(Turns.putObj (Z:=fun k=>k=W1.heap.size) _ _ _ rfl).boxed HX.out (by omega);refine⟨_,results_cell1 (a:=(⟨w.heap.size+1,0,none⟩:Addr)) rfl _ _ rfl Tryz.isAgg3 hX2.cell,rfl,?_⟩;exact(Turns.putObj (Z:=fun k=>k=W1.heap.size) _ _ _ rfl).below HBW.out (Nat.le_refl _) (fun k hk=>by omega)
 · have hz:cmpZ' (n:Int) (k:Int)=cmpI a b:=by
    rw[cmpZ'_nat];unfold cmpI;rcases Nat.lt_or_ge n k with h|h
    · have:=ofN_len_lt (a:=a) (b:=b) (by omega)
      rw[if_pos h,if_pos this]
    · have:=ofN_len_lt (a:=b) (b:=a) (by omega)
      rw[if_neg (by omega),if_pos (by omega),if_neg (by omega),if_pos this]
   have HZ:=hZ hz;(have d1:((n:Int)==(k:Int))=false:=by simp;omega);clear hz hA hB hn hk hnk
   go_enter Tryz.func209,Tryz.ntmps209
   go_wp2_with (first
    |(go_at_call 60;refine(cmp_walk _ _ _).mono ?_;rintro e w5 ⟨rfl,rfl⟩)
    |fail)
   rw[HZ.out];refine bodyPost_ret (v:=.int .i64 (cmpI a b)) (results_cell1 (a:=(⟨w.heap.size+1,0,none⟩:Addr)) rfl _ _ rfl Tryz.isAgg3 (by simp)) rfl ⟨rfl,?_⟩;exact((Below.refl _ _).alloc (Nat.le_refl _) _).alloc (by simp) _
end Go.Proofs.YteeifhlhpiimoaaGreatDoor
end
section
namespace Go.Proofs.YteeifhlhpiimoaaGreatDoor
open Go
theorem over_step {X Q R M d:Nat} (hM:0<M) (hX:X=Q*M+R) (hR:R<M) (hd:d<10000):
 d+10000*X=((d+10000*R)/M+10000*Q)*M+(d+10000*R)%M∧(d+10000*R)/M<10000∧(d+10000*R)%M<M:=by
 have h1:=Nat.div_add_mod (d+10000*R) M;have h2:=Nat.mod_lt (d+10000*R) hM;refine⟨?_,?_,h2⟩
 · rw[Nat.add_mul,Nat.mul_comm ((d+10000*R)/M) M,hX,Nat.mul_add,Nat.mul_assoc]
   omega
 · rw[Nat.div_lt_iff_lt_mul hM]
   have:10000*(R+1)≤10000*M:=Nat.mul_le_mul_left _ hR;omega
theorem too_much {R M d:Nat} (hM:0<M):R<(d+1)*M↔R/M≤d:=by
 rw[←Nat.div_lt_iff_lt_mul hM];omega
structure OInv (l q:List Nat) (M i R:Nat):Prop where
 len:q.length=l.length
 grp:Grp q
 val:valN (l.drop i)=valN (q.drop i)*M+R
 lt:R<M
theorem OInv.start (l:List Nat) {M:Nat} (hM:0<M):OInv l (List.replicate l.length 0) M l.length 0:=
 ⟨by simp,fun d hd=>by rw[List.eq_of_mem_replicate hd];decide,by rw[List.drop_eq_nil_of_le (Nat.le_refl _),List.drop_eq_nil_of_le (by simp)];simp[valN],hM⟩
theorem OInv.step {l q:List Nat} {M i R:Nat} (h:OInv l q M (i+1) R) (hl:Grp l) (hi:i<l.length) (hM:0<M):OInv l (q.set i ((l[i]+10000*R)/M)) M i ((l[i]+10000*R)%M):=by
 have hd:=hl l[i] (List.getElem_mem hi);obtain⟨s1,s2,s3⟩:=over_step hM h.val h.lt hd;refine⟨by rw[List.length_set];exact h.len,fun d hd'=> ?_,?_,s3⟩
 · rcases List.mem_or_eq_of_mem_set hd' with e|e
   · exact h.grp d e
   · rw[e];exact s2
 · have hq:i<(q.set i ((l[i]+10000*R)/M)).length:=by rw[List.length_set,h.len];exact hi
   rw[List.drop_eq_getElem_cons hi,List.drop_eq_getElem_cons hq,valN,valN,s1,List.getElem_set_self,List.drop_set_of_lt (by omega)]
theorem OInv.done {l q:List Nat} {M R:Nat} (h:OInv l q M 0 R) (hM:0<M):trimN q=ofN (valN l/M)∧R=valN l%M:=by
 have hv:=h.val;rw[List.drop_zero,List.drop_zero] at hv;have hq:valN l/M=valN q:=by rw[hv,Nat.mul_comm,Nat.mul_add_div hM,Nat.div_eq_of_lt h.lt,Nat.add_zero]
 refine⟨by rw[hq,ofN_valN h.grp],?_⟩;rw[hv,Nat.mul_comm,Nat.mul_add_mod,Nat.mod_eq_of_lt h.lt]
theorem trim_cons {d R:Nat} (hd:d<10000):trimN (d::ofN R)=ofN (d+10000*R):=by
 have hg:Grp (d::ofN R):=fun x hx=>by
  rcases List.mem_cons.1 hx with rfl|q
  · exact hd
  · exact ofN_grp R x q
 rw[←ofN_valN hg,valN,valN_ofN]
end Go.Proofs.YteeifhlhpiimoaaGreatDoor
end
section
namespace Go.Proofs.YteeifhlhpiimoaaGreatDoor
open Go Go.RowKit Go.Shelf
attribute [local go_sem] Oper.semAt_some
def SearchP (w:World) (n:Nat) (p:Nat→Bool) (e:Ending) (w':World):Prop:=∃q:Nat,e=.returned (.int .i64 (q:Int))∧q≤n∧(∀i,i<q→p i=false)∧(q<n→p q=true)∧Below w.heap.size w w'
theorem search_walk (n:Nat) (hn:n≤1000000) (p:Nat→Bool) (hmono:∀i j,i≤j→p i=true→p j=true) (g:Nat) (cb:Array Value) (eg:∀args w,(callFunc g args).run Tryz.prog w=.ok (.enter g args) w) (w:World)
 (hf:∀(W:World) (i:Nat),Below w.heap.size w W→i<n→Calls Tryz.prog g (#[.int .i64 (i:Int)]++cb) W fun e W'=>e=.returned (.bool (p i))∧Below W.heap.size W W'):
 Calls Tryz.prog 248 #[.int .i64 (n:Int),.func (.func g) #[] cb] w (SearchP w n p):=by
 have HF:=hZ hf;have HM:=hZ hmono;clear hf hmono
 go_enter Tryz.func248,Tryz.ntmps248
 go_wp2_with fail
 go_loopw [5,6,7] (fun a b _ wr=> ∃(lo hi:Nat),a=.int .i64 (lo:Int)∧b=.int .i64 (hi:Int)∧lo≤hi∧hi≤n∧Hid (∀i,i<lo→p i=false)∧Hid (hi<n→p hi=true)∧Below w.heap.size w wr) (fun a b _ _=>(intOf b-intOf a).toNat)
 case atStart=>exact⟨0,n,rfl,rfl,by omega,by omega,hZ (fun i h=>by omega),hZ (fun h=>by omega),Below.refl _ _⟩
 case round=>
  obtain⟨lo,hi,rfl,rfl,h1,h2,HL,HH,hB⟩:=hrel;have HB:=hZ hB;clear hB
  by_cases hlt:lo<hi
  · obtain⟨m,hm⟩:=oQ ((lo+hi)/2)
    (have hm1:lo≤m:=by omega);(have hm2:m<hi:=by omega);(have d1:decide (lo<hi)=true:=by simp[hlt]);have HC:=hZ (HF.out wr m HB.out (by omega));(have hmi:((lo:Int)+(hi:Int))/2=(m:Int):=by omega);clear hm;obtain⟨b,hb⟩:=oQ (p m);rw[hb] at HC;have HPB:=hZ hb;clear hb;cases b
    · go_wp2_with (first|(go_at_fn g;refine HC.out.mono ?_;rintro e w2 ⟨rfl,hb2⟩)|fail)
      go_roundw
      case rel=>
       refine⟨m+1,hi,by go_num,rfl,by omega,by omega,hZ (fun i h=> ?_),HH,HB.out.trans (hb2.mono HB.out.size)⟩;obtain⟨c,hc⟩:=oQ (p i);cases c
       · exact hc
       · have:=HM.out i m (by omega) hc;rw[HPB.out] at this;cases this
      case measure=>simp[intOf];omega
    · go_wp2_with (first|(go_at_fn g;refine HC.out.mono ?_;rintro e w2 ⟨rfl,hb2⟩)|fail)
      go_roundw
      case rel=>exact⟨lo,m,rfl,rfl,by omega,by omega,HL,hZ (fun _=>HPB.out),HB.out.trans (hb2.mono HB.out.size)⟩
      case measure=>simp[intOf];omega
  · obtain rfl:lo=hi:=by omega
    (have d1:decide (lo<lo)=false:=by simp);go_wp2_with fail;go_ret;exact⟨lo,rfl,h2,HL.out,HH.out,HB.out⟩
def tooB (R M d:Nat):Bool:=decide (R<(d+1)*M)
theorem too_cmp (R M d:Nat):decide (0<cmpI ((d+1)*M) R)=tooB R M d:=by
 unfold tooB cmpI
 by_cases h:R<(d+1)*M
 · rw[if_neg (by omega),if_pos h];simp[h]
 · by_cases h2:(d+1)*M<R
   · rw[if_pos h2];simp[h]
   · rw[if_neg h2,if_neg h];simp[h]
theorem over1_walk (d M R:Nat) (hd:d≤9998) (vm vr:Value) (b1 b2:Nat) (w:World) (h1:w.cell? ⟨b1,0,none⟩=some (.func (.func 246) #[vm] #[])) (h2:w.cell? ⟨b2,0,none⟩=some vr)
 (hM:LsAt w vm (ofN M)) (hR:LsAt w vr (ofN R)) (hlM:(ofN M).length≤900) (hlR:(ofN R).length≤1000):
 Calls Tryz.prog 247 #[.int .i64 (d:Int),.pointer (some ⟨b1,0,none⟩),.pointer (some ⟨b2,0,none⟩)] w fun e w'=>e=.returned (.bool (tooB R M d))∧Below w.heap.size w w':=by
 have hb1:=cell_lt h1;have hb2:=cell_lt h2;have w1:IntKind.i64.wrap ((d:Int)+1)=((d+1:Nat):Int):=by rw[IntKind.wrap_i64];omega
 have HBY:=hZ (by_walk M (d+1) (by omega) vm w.drew (show LsAt w.drew vm (ofN M) from hM) (by omega))
 have HCM:Hid (∀W v,Below w.heap.size w W→LsAt W v (ofN (M*(d+1)))→Calls Tryz.prog 209 #[v,vr] W (CmpQ W (cmpI (M*(d+1)) R))):=hZ (fun W v hb hv=>
  compare_walk _ _ v vr W hv (hR.below hb) (by have:=ofN_len_mul M (d:=d+1) (by omega);omega) hlR)
 have HT:=hZ (too_cmp R M d);rw[Nat.mul_comm] at HT;obtain⟨t,ht⟩:=oQ (tooB R M d);rw[ht] at HT⊢;have HS:Hid (∀W,Below w.heap.size w W→W.cell? ⟨b1,0,none⟩=some (.func (.func 246) #[vm] #[])∧W.cell? ⟨b2,0,none⟩=some vr):=hZ (fun W hb=>⟨(hb.cell (p:=⟨b1,0,none⟩) hb1).trans h1,(hb.cell (p:=⟨b2,0,none⟩) hb2).trans h2⟩);have HD:Hid (Below w.heap.size w w.drew):=hZ (Below.drew (Below.refl _ _));clear hM hR ht h1 h2 hb1 hb2
 go_enter Tryz.func247,Tryz.ntmps247
 go_wp2_with fail
 go_region_held3 (fun W=>W.cell? ⟨b1,0,none⟩=some (.func (.func 246) #[vm] #[])∧W.cell? ⟨b2,0,none⟩=some vr)
  (first|exact HS.out _ HD.out|exact HS.out _ ‹Below w.heap.size w _›|fail)
  (first
    |(go_at_call 246;refine HBY.out.mono ?_;rintro e w2 ⟨v,rfl,hv,-,hbb⟩;have hbb2:=HD.out.trans hbb;clear hbb)
    |(go_at_call 209;refine(HCM.out _ _ hbb2 hv).mono ?_;rintro e w3 ⟨rfl,hcc⟩;have hcc2:=hbb2.trans (hcc.mono hbb2.size);clear hcc hbb2)
    |fail)
 go_wp2_with fail;go_ret;exact⟨congrArg (fun b=>Ending.returned (.bool b)) HT.out,hcc2⟩
def ovF (l:List Nat) (M:Nat) (pre:List (Fin l.length)):List Nat×Nat:=pre.foldl (fun s i=>(s.1.set i.val ((l.getD i.val 0+10000*s.2)/M),(l.getD i.val 0+10000*s.2)%M)) (List.replicate l.length 0,0)
theorem ovF_snoc (l:List Nat) (M:Nat) (pre:List (Fin l.length)) (i:Fin l.length):ovF l M (pre++[i])=((ovF l M pre).1.set i.val ((l.getD i.val 0+10000*(ovF l M pre).2)/M),(l.getD i.val 0+10000*(ovF l M pre).2)%M):=by
 unfold ovF;rw[List.foldl_append];rfl
theorem ovF_lt {l:List Nat} {M:Nat} (hM:0<M) (pre:List (Fin l.length)):(ovF l M pre).2<M∧(ovF l M pre).1.length=l.length:=by
 rcases nil_or_snoc pre with rfl|⟨p,x,rfl⟩
 · exact⟨hM,by simp[ovF]⟩
 · rw[ovF_snoc]
   refine⟨Nat.mod_lt _ hM,?_⟩;rw[List.length_set]
   have:∀(q:List (Fin l.length)),(ovF l M q).1.length=l.length:=by
    intro q
    have:∀(q:List (Fin l.length)) (s:List Nat×Nat),s.1.length=l.length→(q.foldl (fun s i=>(s.1.set i.val ((l.getD i.val 0+10000*s.2)/M),(l.getD i.val 0+10000*s.2)%M)) s).1.length=l.length:=by
     intro q
     induction q with
     |nil=>intro s h;exact h
     |cons y q ih=>intro s h;exact ih _ (by simpa using h)
    exact this q _ (by simp)
   exact this p
theorem ovF_inv {l:List Nat} {M:Nat} (hl:Grp l) (hM:0<M):∀(m k:Nat) (pre:List (Fin l.length)),pre.length=m→pre.map Fin.val++(List.range k).reverse=(List.range l.length).reverse→OInv l (ovF l M pre).1 M k (ovF l M pre).2:=by
 intro m
 induction m with
 | zero=>
   intro k pre h0 h;obtain rfl:=List.length_eq_zero_iff.1 h0;(have:k=l.length:=by have:=congrArg List.length h;simpa using this);subst this
   exact OInv.start l hM
 | succ m ih=>
   intro k pre h0 h;rcases nil_or_snoc pre with rfl|⟨p,x,rfl⟩
   · simp at h0
   · rw[List.map_append,List.map_singleton] at h
     have hx:x.val=k:=by
      obtain⟨h1,h2⟩:=rev_mem h
      have h':List.range k++(x.val::(p.map Fin.val).reverse)=List.range l.length:=by
       have:=congrArg List.reverse h;simpa using this
      (have hl2:k+(p.length+1)=l.length:=by have:=congrArg List.length h';simpa using this);(have e:(List.range k++(x.val::(p.map Fin.val).reverse))[k]?=(List.range l.length)[k]?:=by rw[h']);rw[List.getElem?_append_right (by simp),List.getElem?_range (by omega)] at e;simpa using e
     have hi:=ih (k+1) p (by simpa using h0) (by rw[rev_range,←h,hx];simp);(have hk:k<l.length:=by have:=x.isLt;omega);have hs:=hi.step hl hk hM;rw[ovF_snoc,hx,getD_get hk];exact hs
theorem over_digit {R M q:Nat} (hM:0<M) (hR:R/M<10000) (h1:∀i,i<q→tooB R M i=false) (h2:q<9999→tooB R M q=true) (h3:q≤9999):q=R/M:=by
 have ht:∀d,tooB R M d=true↔R/M≤d:=fun d=>by unfold tooB;rw[decide_eq_true_iff];exact too_much hM
 have hq:q≤R/M:=by
  rcases Nat.lt_or_ge (R/M) q with h|h
  · have:=h1 _ h
    rw[(ht _).2 (Nat.le_refl _)] at this;cases this
  · exact h
 rcases Nat.lt_or_ge q 9999 with h|h
 · have:=(ht _).1 (h2 h);omega
 · omega
theorem tooB_mono {R M:Nat}:∀i j,i≤j→tooB R M i=true→tooB R M j=true:=fun i j h hi=>by
 unfold tooB at*;simp only[decide_eq_true_eq] at*;exact Nat.lt_of_lt_of_le hi (Nat.mul_le_mul_right _ (by omega))
theorem wpListIn_cat {α:Type} {F:Fence} {nn:Nat} {P:Program} {w:World} {B:Nat} {e:TypeId} {size bytes:Nat} {f:α→List Value} {ops:Array Oper} {rest:List Oper} {o:Oper} {a:Act} {Q:Exit→Act→World→Prop} (hgd:o.guard=none) (s x:Operand) (t:TypeId)
 (ho:o.op=.call {callee:=.builtin .append,args:=#[s,x],argTypes:=#[t,t]}) (E:Elem P t e size bytes) (hf:∀x,(f x).length=size) (v:Value) (l:List α) (hs:a.eval s=v) (h:OL w B e size f v l) (A:Option Addr) (m:List α) (k c:Nat) (hk:m.length=k) (hx:a.eval x=.slice A k c) (hc0:A=none→c=0)
 (hA:∀j x,(m.flatMap f)[j]?=some x→∃a,A=some a∧w.cell? (a.add j)=some x) (hone:∀x∈m,∀u∈f x,u.oneCell'=true) (h63:l.length+k≤maxLen) (hby:(l.length+k)*bytes≤140737488355328) (hB:B≤w.heap.size)
 (hk':∀v' w',OL w' B e size f v' (l++m)→w.grownBy w' v.ownBlock→Below B w w'→wpListIn F nn P ops Q rest (a.put o.dst v') w'):wpListIn F nn P ops Q (o::rest) a w:=by
 refine wpListIn_plain hgd fun K hK=> ?_;obtain⟨v',w',r1,r2,r3,r4⟩:=h.run_cat (P:=P) E o.type hf A m k c hk hc0 hA hone h63 hby hB;unfold Oper.wpIn;refine⟨?_,?_⟩
 · simp[Oper.about,ho,resolve,Target.leads,Sem.run_pure]
 · rw[Oper.semAt_plain F _ _ (by rw[ho];intro c hc';cases hc')]
   simp[execOp,ho,resolve,invoke,builtin,hs,hx,r1,Result.andThen];exact hK _ _ (hk' v' w' r2 r3 r4)
end Go.Proofs.YteeifhlhpiimoaaGreatDoor
end
section
namespace Go.Proofs.YteeifhlhpiimoaaGreatDoor
open Go Go.RowKit
def Tight (Q:Exit→Act→World→Prop):Exit→Act→World→Prop
 |.panic _,_,_=>False
 |.outgrown,_,_=>False
 |e,a,w=>Q e a w
theorem Tight.normal {Q:Exit→Act→World→Prop} {a:Act} {w:World} (h:Q .normal a w):Tight Q .normal a w:=h
theorem Tight.lets {Q:Exit→Act→World→Prop} (h:LetsOut (Tight Q)):False:=by
 obtain⟨a,w,h⟩:=h;exact h
def noDefer (ops:Array Oper):Bool:=ops.toList.all fun o=>match o.op with|.defer _=>false|_=>true
theorem noDefer_at {ops:Array Oper} (h:noDefer ops=true) {i:Nat} {o:Oper} (hi:ops[i]?=some o):∀c,o.op≠.defer c:=by
 intro c;intro e;unfold noDefer at h;rw[List.all_eq_true] at h
 have hm:o∈ops.toList:=by
  obtain⟨h1,h2⟩:=Array.getElem?_eq_some_iff.1 hi;rw[←h2];exact Array.mem_toList_iff.2 (Array.getElem_mem h1)
 have:=h o hm;rw[e] at this;cases this
theorem opIn_of_op {l n:Nat} {P:Program} {o:Oper} {a:Act} {w:World} {K K':Act→World→Prop} {Q:Exit→Act→World→Prop} (hnd:∀c,o.op≠.defer c) (hK:∀a w,K a w→K' a w) (h:o.wp P a w K (Tight Q)):
 o.wpIn (Fence.wide.inRound l) n P a w K' Q:=by
 refine⟨fun _ _=>trivial,?_⟩;rw[Oper.semAt_plain _ _ _ hnd];unfold Oper.wp at h;generalize (execOp a.eval o).run P w=r at*
 cases r with
 | ok x w'=>
   cases x<;>simp only[Oper.upon,Oper.uponIn] at h⊢
   case value u=>exact hK _ _ h
   case skip=>exact hK _ _ h
   case defer d=>exact hK _ _ h
   case enter f args=>
    refine⟨fun h=>by simp[Fence.wide] at h,?_⟩;refine CallsIn.mono (F:=Fence.wide) (n:=n-1) (callsIn_wide.2 h) ?_;intro e w'' he
    cases e with
    |returned v=>exact hK _ _ he
    |panicked c=>exact(he:False).elim
    |outgrown=>exact(Tight.lets he).elim
   case row row args=>
    refine⟨fun h=>by simp[Fence.wide] at h,?_⟩;intro c cs _;obtain⟨v,w'',hr,hs⟩:=h c cs
    exact⟨v,w'',hK _ _ hr,stepsIn_wide.2 hs⟩
 | halt x w'=>
   cases x<;>simp only[Oper.upon,Oper.uponIn] at h⊢
   case panic v=>exact(h:False).elim
theorem anyIn_of_held {l n:Nat} {P:Program} {md:Region.Mode} {ops:Array Oper} {Q:Exit→Act→World→Prop} {S:World→Prop} (hnd:noDefer ops=true):
 ∀(fuel:Nat) (listed:Array Bool) (a:Act) (w:World),wpAnyH P md ops (Tight Q) S fuel listed a w→wpAnyIn (Fence.wide.inRound l) n P md ops Q fuel listed a w
 |0,_,_,_,h=>h
 | fuel+1,listed,a,w,h=>by
   refine⟨h.1,fun i hi=> ?_⟩;have h2:=h.2 i hi;unfold wpOp at h2;unfold wpOpIn
   cases ho:ops[i]? with
   |none=>rw[ho] at h2;exact anyIn_of_held hnd fuel _ a w h2.2
   | some o=>
     rw[ho] at h2;simp only at h2⊢
     split
     · rename_i hw
       rw[if_pos hw] at h2;rcases h2 with h2|⟨_,h2⟩
       · exact opIn_of_op (noDefer_at hnd ho) (fun a w h=>anyIn_of_held hnd fuel _ a w h.2) h2
       · exact(Tight.lets h2).elim
     · rename_i hw
       rw[if_neg hw] at h2;exact⟨fun _ _=>trivial,anyIn_of_held hnd fuel _ _ _ h2.2⟩
theorem wpIn_region_held {l n:Nat} {P:Program} {ops:Array Oper} {Q:Exit→Act→World→Prop} {S:World→Prop} {id:Nat} {a:Act} {w:World} (hm:P.follows .mixedOrders=true) (hnd:noDefer ops=true) (hS:S w.drew)
 (h:S w.drew→wpAnyH P .any ops (Tight Q) S ops.size (Array.replicate ops.size false) a w.drew):(Code.region id ops true).wpIn (Fence.wide.inRound l) n P Q a w:=
 wpIn_region_any hm (anyIn_of_held hnd _ _ _ _ (h hS))
end Go.Proofs.YteeifhlhpiimoaaGreatDoor
end
