/-
  Parts of a list exchanged and rotated, plainly; the like for what stands beside it. No condition.
-/
import Derived.Test.YteeifhlhpiimoaaGreatDoorXAn
import Derived.Test.YteeifhlhpiimoaaGreatDoorXAa
import Derived.Test.YteeifhlhpiimoaaGreatDoorXAl
set_option maxHeartbeats 8000000
set_option maxRecDepth 100000
open And renaming intro→ay
open Go.Act renaming put→sV
open Go.Addr renaming add→jy
open Go.IntKind renaming i64→aQ,wrap_i64→aS
open Go.Proofs.Tryz renaming func232→UA,ntmps232→UO,prog→ah,results232→aeV,underlying33→bk
open Go.RowKit renaming Hid→ag
open Go.RowKit.Below renaming drew→eR,refl→bK
open Go.Sort renaming insInner→B_,insOuter→Eg,insertionSort→GD,size_swp→UZ,swp_other→U2
open List renaming append_assoc→Ek,drop_drop→Vk,ext_getElem?→pO,extract_eq_take_drop→agD,foldl_cons→agL,getElem?_append→Vl,getElem?_drop→s8,getElem?_eq_getElem→bp,getElem?_eq_none→jz,getElem?_eq_some_iff→dL,getElem?_set_ne→GM,getElem?_set_self→GN,getElem?_take→s9,length_cons→eF,length_drop→pP,length_take→gD,map_cons→nM,setIfInBounds_toArray→ta,set_cons_succ→tc,set_cons_zero→td,take_append_drop→tg
open List.Perm renaming refl→Om
open Nat renaming add_zero→Ce,le_refl→aB,le_trans→aV,lt_succ_self→OC
section
namespace Go.Proofs.YteeifhlhpiimoaaGreatDoor
open Go Go.RowKit Go.Shelf
attribute [local go_sem] Oper.semAt_some
theorem xu (l:List TE) {a b:Nat}:∀(k:Nat),a+k≤b→b+k≤l.length→∀j,(jw l a b k)[j]?=if a≤j∧j<a+k then l[j-a+b]? else if b≤j∧j<b+k then l[j-b+a]? else l[j]?
 |0,_,_,j=>by rw[if_neg (show ¬(a≤j∧j<a+0) by omega),if_neg (show ¬(b≤j∧j<b+0) by omega)];rfl
 | k + 1,h1,h2,j=>by
   have ih:=xu l (a:=a) (b:=b) k (by omega) (by omega);have hl:=Ga l a b k;obtain⟨x,hx⟩:∃x,l[a+k]?=some x:=⟨_,bp (by omega)⟩;obtain⟨y,hy⟩:∃y,l[b+k]?=some y:=⟨_,bp (by omega)⟩;(have e1:(jw l a b k)[a+k]?=some x:=by rw[ih,if_neg (by omega),if_neg (by omega),hx]);(have e2:(jw l a b k)[b+k]?=some y:=by rw[ih,if_neg (by omega),if_neg (by omega),hy]);rw[jw,e1,e2];simp only
   by_cases hb:j=b+k
   · subst hb
     rw[GN (by rw[List.length_set];omega),if_neg (by omega),if_pos (by omega),←hx]
     congr 1;omega
   · rw [GM (by omega)]
     by_cases ha:j=a+k
     · subst ha
       rw[GN (by omega),if_pos (by omega),←hy]
       congr 1;omega
     · rw[GM (by omega),ih j]
       by_cases c1:a≤j∧j<a+k
       · rw[if_pos c1,if_pos (by omega)]
       · rw[if_neg c1,if_neg (c:=a≤j∧j<a+(k+1)) (by omega)]
         by_cases c2:b≤j∧j<b+k
         · rw[if_pos c2,if_pos (by omega)]
         · rw[if_neg c2,if_neg (by omega)]
def dp (l:List TE) (a m b:Nat):List TE:=l.take a++((l.drop m).take (b-m)++((l.drop a).take (m-a)++l.drop b))
theorem mc (l:List TE) {a m b:Nat} (h1:a≤m) (h2:m≤b) (h3:b≤l.length) (j:Nat):(dp l a m b)[j]?=if a≤j∧j<a+(b-m) then l[j-a+m]? else if a+(b-m)≤j∧j<b then l[j-(b-m)]? else l[j]?:=by
 unfold dp;have l1:(l.take a).length=a:=by rw[gD];omega
 have l2:((l.drop m).take (b-m)).length=b-m:=by rw[gD,pP];omega
 have l3:((l.drop a).take (m-a)).length=m-a:=by rw[gD,pP];omega
 rw[Vl,l1]
 by_cases c1:j<a
 · rw[if_pos c1,if_neg (by omega),if_neg (by omega),s9,if_pos c1]
 · rw [if_neg c1,Vl,l2]
   by_cases c2:j-a<b-m
   · rw[if_pos c2,if_pos (by omega),s9,if_pos c2,s8]
     congr 1;omega
   · rw[if_neg c2,if_neg (by omega),Vl,l3]
     by_cases c3:j-a-(b-m)<m-a
     · rw[if_pos c3,if_pos (by omega),s9,if_pos c3,s8]
       congr 1;omega
     · rw[if_neg c3,if_neg (by omega),s8]
       congr 1;omega
theorem M8 (l:List TE) {a m b:Nat} (h1:a≤m) (h2:m≤b) (h3:b≤l.length):(dp l a m b).length=l.length:=by
 unfold dp;simp only[List.length_append,gD,pP];omega
theorem amV (l:List TE) {m i j:Nat} (hi:i≤m) (hj:m+j≤l.length) (dh:j<i):dp (jw l (m-i) m j) (m-(i-j)) m (m+j)=dp l (m-i) m (m+j):=by
 apply pO;intro q;have hl:=Ga l (m-i) m j;rw[mc _ (by omega) (by omega) (by omega),mc _ (by omega) (by omega) (by omega),xu l j (by omega) (by omega),xu l j (by omega) (by omega),xu l j (by omega) (by omega)]
 repeat' split
 all_goals first|omega|(congr 1;omega)|rfl
theorem amW (l:List TE) {m i j:Nat} (hi:i≤m) (hj:m+j≤l.length) (dh:i<j):dp (jw l (m-i) (m+j-i) i) (m-i) m (m+(j-i))=dp l (m-i) m (m+j):=by
 apply pO;intro q;have hl:=Ga l (m-i) (m+j-i) i;rw[mc _ (by omega) (by omega) (by omega),mc _ (by omega) (by omega) (by omega),xu l i (by omega) (by omega),xu l i (by omega) (by omega),xu l i (by omega) (by omega)]
 repeat' split
 all_goals first|omega|(congr 1;omega)|rfl
theorem amU (l:List TE) {m i:Nat} (hi:i≤m) (hj:m+i≤l.length):jw l (m-i) m i=dp l (m-i) m (m+i):=by
 apply pO;intro q;rw[mc _ (by omega) (by omega) (by omega),xu l i (by omega) (by omega)]
 repeat' split
 all_goals first|omega|(congr 1;omega)|rfl
def Sd (lt:TE→TE→Bool) (l:List TE) (i j:Nat):Prop:=∀p q x y,i≤p→p<q→q<j→l[p]?=some x→l[q]?=some y→lt y x=false
def lQ (lt:TE→TE→Bool) (l:List TE) (i j k n:Nat):Prop:=∀p q x y,i≤p→p<j→k≤q→q<n→l[p]?=some x→l[q]?=some y→lt y x=false
theorem Sd.join {lt:TE→TE→Bool} {l:List TE} {a m b:Nat} (h1:Sd lt l a m) (h2:Sd lt l m b) (h:lQ lt l a m m b):Sd lt l a b:=fun p q x y hp kz hq hx hy=>by
 by_cases c1:q<m
 · exact h1 p q x y hp kz c1 hx hy
 · by_cases c2:p<m
   · exact h p q x y hp c2 (by omega) hq hx hy
   · exact h2 p q x y (by omega) kz hq hx hy
def From (l' l:List TE) (a b:Nat):Prop:=∀k,a≤k→k<b→∃k',a≤k'∧k'<b∧l'[k]?=l[k']?
theorem lQ.from_ {lt:TE→TE→Bool} {l l':List TE} {a m b:Nat} (h:lQ lt l a m m b) (h1:From l' l a m) (h2:From l' l m b):lQ lt l' a m m b:=fun p q x y hp R8 hq nw hx hy=>by
 obtain⟨p',a1,a2,a3⟩:=h1 p hp R8;obtain⟨q',b1,b2,b3⟩:=h2 q hq nw;exact h p' q' x y a1 a2 b1 b2 (a3▸hx) (b3▸hy)
theorem alm {lt:TE→TE→Bool} (O:p7 lt) {l:List TE} {a m b s0 s r0 mid n:Nat} (d_:a≤m∧m≤b∧b≤l.length) (hn:n=mid+m) (DE:2*mid≤a+b∧a+b≤2*mid+1)
 (h1:Sd lt l a m) (h2:Sd lt l m b) (bU:(m≤mid∧s0=a∧r0=m)∨(mid<m∧s0+b=n∧r0=mid)) (hs:s0≤s∧s≤r0)
 (Bl:s0<s→∀x y,l[s-1]?=some x→l[n-s]?=some y→lt y x=false) (Bf:s<r0→∀x y,l[n-1-s]?=some x→l[s]?=some y→lt x y=true):
 lQ lt l a s s m∧lQ lt l a s (n-s) b∧lQ lt l m (n-s) s m∧lQ lt l m (n-s) (n-s) b:=by
 refine⟨fun p q x y hp nu hq Sa hx hy=>h1 p q x y hp (by omega) Sa hx hy,fun p q x y hp nu hq nw hx hy=>?_,fun p q x y hp yY hq Sa hx hy=>?_,fun p q x y hp yY hq nw hx hy=>h2 p q x y hp (by omega) nw hx hy⟩
 · have t_:s0<s:=by omega
   obtain⟨u,hu⟩:∃u,l[s-1]?=some u:=⟨_,bp (by omega)⟩;obtain⟨v,hv⟩:∃v,l[n-s]?=some v:=⟨_,bp (by omega)⟩;have e1:=Bl t_ u v hu hv
   have e2:lt u x=false:=by
    by_cases c:p=s-1
    · subst c;rw[hu] at hx;injection hx with hx;subst hx
      cases h:lt u u
      · rfl
      · have:=O.asym u u h;rw[h] at this;cases this
    · exact h1 p (s-1) x u hp (by omega) (by omega) hx hu
   have e3:lt y v=false:=by
    by_cases c:q=n-s
    · subst c;rw[hv] at hy;injection hy with hy;subst hy
      cases h:lt v v
      · rfl
      · have:=O.asym v v h;rw[h] at this;cases this
    · exact h2 (n-s) q v y (by omega) (by omega) nw hv hy
   exact O.neg y u x (O.neg y v u e3 e1) e2
 · have Bx:s<r0:=by omega
   obtain⟨u,hu⟩:∃u,l[n-1-s]?=some u:=⟨_,bp (by omega)⟩;obtain⟨v,hv⟩:∃v,l[s]?=some v:=⟨_,bp (by omega)⟩;have e1:=O.asym _ _ (Bf Bx u v hu hv)
   have e2:lt u x=false:=by
    by_cases c:p=n-1-s
    · subst c;rw[hu] at hx;injection hx with hx;subst hx
      cases h:lt u u
      · rfl
      · have:=O.asym u u h;rw[h] at this;cases this
    · exact h2 p (n-1-s) x u hp (by omega) (by omega) hx hu
   have e3:lt y v=false:=by
    by_cases c:q=s
    · subst c;rw[hv] at hy;injection hy with hy;subst hy
      cases h:lt v v
      · rfl
      · have:=O.asym v v h;rw[h] at this;cases this
    · exact h1 s q v y (by omega) (by omega) Sa hv hy
   exact O.neg y u x (O.neg y v u e3 e1) e2
theorem ab5 {lt:TE→TE→Bool} {l:List TE} {a m b s mid n:Nat} (d_:a≤s∧m≤b∧b≤l.length) (hn:n=mid+m) (js:s≤m) (Bo:m≤n-s) (he:n-s≤b) (tZ:s≤n) (DE:s≤mid)
 (h1:Sd lt l a m) (h2:Sd lt l m b) (h:lQ lt l a s s m∧lQ lt l a s (n-s) b∧lQ lt l m (n-s) s m∧lQ lt l m (n-s) (n-s) b):
 Sd lt (dp l s m (n-s)) a s∧Sd lt (dp l s m (n-s)) s mid∧Sd lt (dp l s m (n-s)) mid (n-s)∧Sd lt (dp l s m (n-s)) (n-s) b∧lQ lt (dp l s m (n-s)) a mid mid b:=by
 have G:∀j,_:=fun j=>mc l js Bo (by omega) j;have g1:∀j,j<s→(dp l s m (n-s))[j]?=l[j]?:=fun j hj=>by rw[G,if_neg (by omega),if_neg (by omega)]
 have g2:∀j,s≤j→j<mid→(dp l s m (n-s))[j]?=l[j-s+m]?:=fun j hj hk=>by rw[G,if_pos (by omega)]
 have g3:∀j,mid≤j→j<n-s→(dp l s m (n-s))[j]?=l[j-(n-s-m)]?:=fun j hj hk=>by rw[G,if_neg (by omega),if_pos (by omega)]
 have g4:∀j,n-s≤j→(dp l s m (n-s))[j]?=l[j]?:=fun j hj=>by rw[G,if_neg (by omega),if_neg (by omega)]
 refine⟨fun p q x y hp kz hq hx hy=>?_,fun p q x y hp kz hq hx hy=>?_,fun p q x y hp kz hq hx hy=>?_,fun p q x y hp kz hq hx hy=>?_,fun p q x y hp R8 hq nw hx hy=>?_⟩
 · rw[g1 _ (by omega)] at hx hy
   exact h1 p q x y hp kz (by omega) hx hy
 · rw[g2 _ (by omega) (by omega)] at hx hy
   exact h2 _ _ x y (by omega) (by omega) (by omega) hx hy
 · rw[g3 _ (by omega) (by omega)] at hx hy
   exact h1 _ _ x y (by omega) (by omega) (by omega) hx hy
 · rw[g4 _ (by omega)] at hx hy
   exact h2 p q x y (by omega) kz (by omega) hx hy
 · by_cases c1:p<s
   · rw[g1 _ c1] at hx
     by_cases c2:q<n-s
     · rw[g3 _ hq c2] at hy
       exact h.1 _ _ x y hp c1 (by omega) (by omega) hx hy
     · rw[g4 _ (by omega)] at hy
       exact h.2.1 _ _ x y hp c1 (by omega) nw hx hy
   · rw[g2 _ (by omega) R8] at hx
     by_cases c2:q<n-s
     · rw[g3 _ hq c2] at hy
       exact h.2.2.1 _ _ x y (by omega) (by omega) (by omega) (by omega) hx hy
     · rw[g4 _ (by omega)] at hy
       exact h.2.2.2 _ _ x y (by omega) (by omega) (by omega) nw hx hy
theorem Tk (l:List TE) {a m b:Nat} (h1:a≤m) (h2:m≤b):(dp l a m b).Perm l:=by
 have e:l=l.take a++((l.drop a).take (m-a)++((l.drop m).take (b-m)++l.drop b)):=by
  have e1:l.drop m=(l.drop m).take (b-m)++l.drop b:=by
   have:=(tg (b-m) (l.drop m)).symm
   rwa[Vk,show m+(b-m)=b by omega] at this
  have e2:l.drop a=(l.drop a).take (m-a)++l.drop m:=by
   have:=(tg (m-a) (l.drop a)).symm
   rwa[Vk,show a+(m-a)=m by omega] at this
  rw[←e1,←e2,tg]
 unfold dp
 conv=>rhs;rw[e]
 refine List.Perm.append_left _ ?_;rw[←Ek,←Ek];exact List.Perm.append_right _ List.perm_append_comm
theorem Ti (l:List TE) {a m b:Nat} (h1:a≤m) (h2:m≤b) (h3:b≤l.length):From (dp l a m b) l a b:=fun k hk ku=>by
 have G:=mc l h1 h2 h3 k
 by_cases c:k<a+(b-m)
 · exact⟨k-a+m,by omega,by omega,by rw[G,if_pos (by omega)]⟩
 · exact⟨k-(b-m),by omega,by omega,by rw[G,if_neg (by omega),if_pos (by omega)]⟩
theorem Tj (l:List TE) {a m b:Nat} (h1:a≤m) (h2:m≤b) (h3:b≤l.length) {k:Nat} (hk:k<a∨b≤k):(dp l a m b)[k]?=l[k]?:=by
 rw[mc l h1 h2 h3 k,if_neg (by omega),if_neg (by omega)]
structure lR (lt:TE→TE→Bool) (l' l:List TE) (a b:Nat):Prop where
 perm:l'.Perm l
 out:∀k,(k<a∨b≤k)→l'[k]?=l[k]?
 MG:From l' l a b
 up:Sd lt l' a b
theorem From.xj {l' l:List TE} {a b:Nat} (h:∀k,a≤k→k<b→l'[k]?=l[k]?):From l' l a b:=fun k h1 h2=>⟨k,h1,h2,h k h1 h2⟩
theorem From.trans {l'' l' l:List TE} {a b:Nat} (h:From l'' l' a b) (k:From l' l a b):From l'' l a b:=fun j h1 h2=>by
 obtain⟨q,q1,q2,q3⟩:=h j h1 h2;obtain⟨r,r1,r2,r3⟩:=k q q1 q2;exact⟨r,r1,r2,q3.trans r3⟩
theorem Sd.xj {lt:TE→TE→Bool} {l' l:List TE} {i j:Nat} (h:∀k,i≤k→k<j→l'[k]?=l[k]?) (hs:Sd lt l i j):Sd lt l' i j:=fun p q x y hp kz hq hx hy=>by
 rw[h _ hp (by omega)] at hx;rw[h _ (by omega) hq] at hy;exact hs p q x y hp kz hq hx hy
theorem aln {lt:TE→TE→Bool} {l L2 L3:List TE} {a m b s mid n:Nat} (d_:a≤s∧m≤b∧b≤l.length) (hn:n=mid+m) (js:s≤m) (Bo:m≤n-s) (he:n-s≤b) (tZ:s≤n) (DE:s≤mid)
 (h1:Sd lt l a m) (h2:Sd lt l m b) (h:lQ lt l a s s m∧lQ lt l a s (n-s) b∧lQ lt l m (n-s) s m∧lQ lt l m (n-s) (n-s) b)
 (hA:(a<s∧s<mid∧lR lt L2 (dp l s m (n-s)) a mid)∨(¬(a<s∧s<mid)∧L2=dp l s m (n-s)))
 (hB:(mid<n-s∧n-s<b∧lR lt L3 L2 mid b)∨(¬(mid<n-s∧n-s<b)∧L3=L2)):lR lt L3 l a b:=by
 obtain⟨p1,p2,p3,p4,p5⟩:=ab5 d_ hn js Bo he tZ DE h1 h2 h;have rp:=Tk l js Bo;have ro:∀k,(k<s∨n-s≤k)→(dp l s m (n-s))[k]?=l[k]?:=fun k hk=>Tj l js Bo (by omega) hk;have rf:=Ti l js Bo (by omega:n-s≤l.length);obtain⟨L1,qg⟩:=oQ (dp l s m (n-s));rw[qg] at p1 p2 p3 p4 p5 rp ro rf hA
 have a2:Sd lt L2 a mid∧From L2 L1 a mid∧(∀k,(k<a∨mid≤k)→L2[k]?=L1[k]?)∧L2.Perm L1:=by
  rcases hA with⟨_,_,q⟩|⟨q,rfl⟩
  · exact⟨q.up,q.MG,q.out,q.perm⟩
  · refine⟨?_,From.xj fun _ _ _=>rfl,fun _ _=>rfl,Om _⟩
    by_cases c:s=a
    · rw[←c];exact p2
    · rw[show mid=s by omega];exact p1
 have b3:Sd lt L3 mid b∧From L3 L2 mid b∧(∀k,(k<mid∨b≤k)→L3[k]?=L2[k]?)∧L3.Perm L2:=by
  rcases hB with⟨_,_,q⟩|⟨q,rfl⟩
  · exact⟨q.up,q.MG,q.out,q.perm⟩
  · refine⟨?_,From.xj fun _ _ _=>rfl,fun _ _=>rfl,Om _⟩
    refine Sd.xj (fun k hk _=>a2.2.2.1 k (.inr hk)) ?_
    by_cases c:n-s=mid
    · rw[←c];exact p4
    · rw[show b=n-s by omega];exact p3
 have fl:From L1 l a b:=fun k hk ku=>by
  by_cases c:s≤k∧k<n-s
  · obtain⟨r,r1,r2,r3⟩:=rf k c.1 c.2
    exact⟨r,by omega,by omega,r3⟩
  · exact⟨k,hk,ku,ro k (by omega)⟩
 have o3:∀k,a≤k→k<mid→L3[k]?=L2[k]?:=fun k _ hk=>b3.2.2.1 k (.inl hk);have o2:∀k,mid≤k→k<b→L2[k]?=L1[k]?:=fun k hk _=>a2.2.2.1 k (.inr hk);have fa:From L3 L1 a mid:=(From.xj o3).trans a2.2.1;have fb:From L3 L1 mid b:=b3.2.1.trans (From.xj o2);refine⟨b3.2.2.2.trans (a2.2.2.2.trans rp),fun k hk=>?_,fun k hk ku=>?_,?_⟩
 · rw[b3.2.2.1 k (by omega),a2.2.2.1 k (by omega),ro k (by omega)]
 · by_cases c:k<mid
   · obtain⟨r,r1,r2,r3⟩:=fa k hk c
     obtain⟨t,t1,t2,t3⟩:=fl r r1 (by omega);exact⟨t,t1,t2,r3.trans t3⟩
   · obtain⟨r,r1,r2,r3⟩:=fb k (by omega) ku
     obtain⟨t,t1,t2,t3⟩:=fl r (by omega) r2;exact⟨t,t1,t2,r3.trans t3⟩
 · exact(Sd.xj o3 a2.1).join b3.1 (p5.from_ fa fb)
theorem alH {lt:TE→TE→Bool} (O:p7 lt) {l:List TE} {a b i:Nat} {e:TE} (hi:a+1≤i) (hib:i≤b) (hb:b≤l.length) (he:l[a]?=some e) (h2:Sd lt l (a+1) b)
 (Bl:∀k x,a+1≤k→k<i→l[k]?=some x→lt x e=true) (Bf:∀k x,i≤k→k<b→l[k]?=some x→lt x e=false):lR lt (dp l a (a+1) i) l a b:=by
 have G:=fun j=>mc l (a:=a) (m:=a+1) (b:=i) (by omega) hi (by omega) j;have g1:∀j,a≤j→j<i-1→(dp l a (a+1) i)[j]?=l[j+1]?:=fun j h h'=>by rw[G,if_pos (by omega)];congr 1;omega
 have g2:(dp l a (a+1) i)[i-1]?=some e:=by rw[G,if_neg (by omega),if_pos (by omega),←he];congr 1;omega
 have g3:∀j,i≤j→(dp l a (a+1) i)[j]?=l[j]?:=fun j h=>by rw[G,if_neg (by omega),if_neg (by omega)]
 refine⟨Tk l (by omega) hi,fun k hk=>Tj l (by omega) hi (by omega) (by omega),fun k hk ku=>?_,fun p q x y hp kz hq hx hy=>?_⟩
 · by_cases c:k<i
   · obtain⟨r,r1,r2,r3⟩:=Ti l (by omega) hi (by omega) k hk c
     exact⟨r,r1,by omega,r3⟩
   · exact⟨k,hk,ku,g3 k (by omega)⟩
 · by_cases c1:p<i-1
   · rw [g1 p hp c1] at hx
     by_cases c2:q<i-1
     · rw[g1 q (by omega) c2] at hy
       exact h2 _ _ x y (by omega) (by omega) (by omega) hx hy
     · by_cases c3:q=i-1
       · subst c3;rw[g2] at hy;injection hy with hy;subst hy
         exact O.asym _ _ (Bl (p+1) x (by omega) (by omega) hx)
       · rw[g3 q (by omega)] at hy
         exact h2 _ _ x y (by omega) (by omega) hq hx hy
   · by_cases c3:p=i-1
     · subst c3;rw[g2] at hx;injection hx with hx;subst hx
       rw[g3 q (by omega)] at hy;exact Bf q y (by omega) hq hy
     · rw[g3 p (by omega)] at hx
       rw[g3 q (by omega)] at hy;exact h2 p q x y (by omega) kz hq hx hy
theorem alI {lt:TE→TE→Bool} (O:p7 lt) {l:List TE} {a m i:Nat} {e:TE} (hi:a≤i) (Mp:i≤m) (hb:m+1≤l.length) (he:l[m]?=some e) (h1:Sd lt l a m)
 (Bl:∀k x,a≤k→k<i→l[k]?=some x→lt e x=false) (Bf:∀k x,i≤k→k<m→l[k]?=some x→lt e x=true):lR lt (dp l i m (m+1)) l a (m+1):=by
 have G:=fun j=>mc l (a:=i) (m:=m) (b:=m+1) Mp (by omega) (by omega) j;have g1:∀j,j<i→(dp l i m (m+1))[j]?=l[j]?:=fun j h=>by rw[G,if_neg (by omega),if_neg (by omega)]
 have g2:(dp l i m (m+1))[i]?=some e:=by rw[G,if_pos (by omega),←he];congr 1;omega
 have g3:∀j,i<j→j<m+1→(dp l i m (m+1))[j]?=l[j-1]?:=fun j h h'=>by rw[G,if_neg (by omega),if_pos (by omega)];congr 1;omega
 refine⟨Tk l Mp (by omega),fun k hk=>Tj l Mp (by omega) (by omega) (by omega),fun k hk ku=>?_,fun p q x y hp kz hq hx hy=>?_⟩
 · by_cases c:i≤k
   · obtain⟨r,r1,r2,r3⟩:=Ti l Mp (by omega) (by omega) k c ku
     exact⟨r,by omega,r2,r3⟩
   · exact⟨k,hk,ku,g1 k (by omega)⟩
 · by_cases c1:p<i
   · rw [g1 p c1] at hx
     by_cases c2:q<i
     · rw[g1 q c2] at hy
       exact h1 p q x y hp kz (by omega) hx hy
     · by_cases c3:q=i
       · subst c3;rw[g2] at hy;injection hy with hy;subst hy
         exact Bl p x hp c1 hx
       · rw[g3 q (by omega) hq] at hy
         exact h1 _ _ x y hp (by omega) (by omega) hx hy
   · by_cases c3:p=i
     · subst c3;rw[g2] at hx;injection hx with hx;subst hx
       rw[g3 q (by omega) hq] at hy;exact O.asym _ _ (Bf _ y (by omega) (by omega) hy)
     · rw[g3 p (by omega) (by omega)] at hx
       rw[g3 q (by omega) hq] at hy;exact h1 _ _ x y (by omega) (by omega) (by omega) hx hy
theorem amX (l:List TE) {a k:Nat} (hk:a≤k) (hl:k+1<l.length):jw (dp l a (a+1) (k+1)) k (k+1) 1=dp l a (a+1) (k+2):=by
 apply pO;intro j;have hlen:=M8 l (a:=a) (m:=a+1) (b:=k+1) (by omega) (by omega) (by omega);rw[xu _ 1 (by omega) (by omega),mc l (by omega) (by omega) (by omega),mc l (by omega) (by omega) (by omega),mc l (by omega) (by omega) (by omega),mc l (by omega) (by omega) (by omega)]
 repeat' split
 all_goals first|omega|(congr 1;omega)|rfl
theorem amT (l:List TE) {m k:Nat} (hk:0<k) (dR:k≤m) (hl:m<l.length):jw (dp l k m (m+1)) (k-1) k 1=dp l (k-1) m (m+1):=by
 apply pO;intro j;have hlen:=M8 l (a:=k) (m:=m) (b:=m+1) (by omega) (by omega) (by omega);rw[xu _ 1 (by omega) (by omega),mc l (by omega) (by omega) (by omega),mc l (by omega) (by omega) (by omega),mc l (by omega) (by omega) (by omega),mc l (by omega) (by omega) (by omega)]
 repeat' split
 all_goals first|omega|(congr 1;omega)|rfl
theorem amY (l:List TE) (B g n c a m b:Nat) (cv:Value) (h1:a<m) (h2:m<b) (h3:b≤n) (hm:n≤1000000) (w:World) (hO:OL w B 33 18 TE.cells (.slice (some ⟨g,0,none⟩) n c) l):
 Calls ah 259 #[.slice (some ⟨g,0,none⟩) n c,.int .i64 (a:Int),.int .i64 (m:Int),.int .i64 (b:Int),cv] w fun r w'=>r=.returned (.tuple #[])∧OL w' B 33 18 TE.cells (.slice (some ⟨g,0,none⟩) n c) (dp l a m b)∧Below B w w':=by
 have HO:=hZ hO;have dO:ag (l.length=n):=hZ hO.len.1.symm;have HK:=hZ (ay h1 (ay h2 (ay h3 hm)));have de:ag (Below B w w):=hZ (bK _ _);have w1:aQ.wrap ((m:Int)-(a:Int))=((m-a:Nat):Int):=by rw[aS];omega
 have w2:aQ.wrap ((b:Int)-(m:Int))=((b-m:Nat):Int):=by rw[aS];omega
 obtain⟨i0,Zy⟩:=oQ (m-a);obtain⟨j0,Bj⟩:=oQ (b-m);rw[Zy] at w1;rw[Bj] at w2;have nT:ag (0<i0∧0<j0∧i0≤m∧m+j0≤n∧dp l (m-i0) m (m+j0)=dp l a m b):=hZ ⟨by omega,by omega,by omega,by omega,by rw[show m-i0=a by omega,show m+j0=b by omega]⟩;clear hO h1 h2 h3 hm Zy Bj
 go_enter Tryz.func259,Tryz.ntmps259
 go_wp2_with fail
 go_loopw [10,11] (fun iv jv wr=> ∃(i j:Nat) (L:List TE),iv=.int .i64 (i:Int)∧jv=.int .i64 (j:Int)∧ag (0<i∧0<j∧i≤m∧m+j≤n∧dp L (m-i) m (m+j)=dp l a m b)∧ag (OL wr B 33 18 TE.cells (.slice (some ⟨g,0,none⟩) n c) L)∧ag (Below B w wr)) (fun x y _=>(intOf x).toNat+(intOf y).toNat)
 case atStart=>exact⟨i0,j0,l,rfl,rfl,nT,HO,de⟩
 case round=>
  clear HO de nT;obtain⟨i,j,L,rfl,rfl,HI,HV,HB⟩:=hrel;have lA:=HK.out.2.2.2;have hi:=HI.out;have tz:ag (L.length=n):=hZ HV.out.len.1.symm;obtain⟨p,hp⟩:=oQ (m-i);have wp:aQ.wrap ((m:Int)-(i:Int))=(p:Int):=by rw[aS];omega
  have HP:=hZ hp;rcases Nat.lt_trichotomy i j with dh|dh|dh
  · obtain⟨q,hq⟩:=oQ (m+j-i)
    obtain⟨k,hk⟩:=oQ (j-i);obtain⟨s,hs⟩:=oQ (m+j);(have ws:aQ.wrap ((m:Int)+(j:Int))=(s:Int):=by rw[aS];omega);(have wq:aQ.wrap ((s:Int)-(i:Int))=(q:Int):=by rw[aS];omega);(have wk:aQ.wrap ((j:Int)-(i:Int))=(k:Int):=by rw[aS];omega);(have d1:((i:Int) !=(j:Int))=true:=by simp;omega);(have d2:decide (j<i)=false:=by simp;omega);have C:=hZ (TF L B g n c p q i cv (by omega) (by omega) lA wr HV.out);have HJ:ag (0<i∧0<k∧i≤m∧m+k≤n∧dp (jw L p q i) (m-i) m (m+k)=dp l a m b):=hZ ⟨hi.1,by omega,hi.2.2.1,by omega,by rw[←hi.2.2.2.2,←hp,←hq,←hk];exact amW L hi.2.2.1 (by rw[tz.out];exact hi.2.2.2.1) dh⟩;have HM:ag (k<j):=hZ (by omega);clear hi hp hq hk hs dh lA
    go_wp2_with (first
     |(go_at_call 273;(with_reducible refine C.out.mono ?_);rintro r W ⟨rfl,ho,hb⟩;have cI:=hZ ho;have aG:=hZ (HB.out.trans hb);clear ho hb C)
     |fail)
    go_roundw
    case rel=>exact⟨i,k,_,rfl,rfl,HJ,cI,aG⟩
    case measure=>simp[intOf];have:=HM.out;omega
  · subst dh
    (have d1:((i:Int) !=(i:Int))=false:=by simp);have C:=hZ (TF L B g n c p m i cv (by omega) (by omega) lA wr HV.out);have HJ:ag (jw L p m i=dp l a m b):=hZ (by rw[←hi.2.2.2.2,←hp];exact amU L hi.2.2.1 (by rw[tz.out];exact hi.2.2.2.1));clear hi hp lA
    go_wp2_with (first
     |(go_at_call 273;(with_reducible refine C.out.mono ?_);rintro r W ⟨rfl,ho,hb⟩;have cI:=hZ ho;have aG:=hZ (HB.out.trans hb);clear ho hb C)
     |fail)
    go_end0
    exact⟨rfl,by rw[←HJ.out];exact cI.out,aG.out⟩
  · obtain⟨k,hk⟩:=oQ (i-j)
    (have wk:aQ.wrap ((i:Int)-(j:Int))=(k:Int):=by rw[aS];omega);(have d1:((i:Int) !=(j:Int))=true:=by simp;omega);(have d2:decide (j<i)=true:=by simp;omega);have C:=hZ (TF L B g n c p m j cv (by omega) (by omega) lA wr HV.out);have HJ:ag (0<k∧0<j∧k≤m∧m+j≤n∧dp (jw L p m j) (m-k) m (m+j)=dp l a m b):=hZ ⟨by omega,hi.2.1,by omega,hi.2.2.2.1,by rw[←hi.2.2.2.2,←hp,←hk];exact amV L hi.2.2.1 (by rw[tz.out];exact hi.2.2.2.1) dh⟩;have HM:ag (k<i):=hZ (by omega);clear hi hp hk dh lA
    go_wp2_with (first
     |(go_at_call 273;(with_reducible refine C.out.mono ?_);rintro r W ⟨rfl,ho,hb⟩;have cI:=hZ ho;have aG:=hZ (HB.out.trans hb);clear ho hb C)
     |fail)
    go_roundw
    case rel=>exact⟨k,j,_,rfl,rfl,HJ,cI,aG⟩
    case measure=>simp[intOf];have:=HM.out;omega
theorem RG (x y:TE) (W:World):Calls ah 78 #[x.val,y.val] W fun e w'=>e=.returned (.int .i64 (pk x.e y.e))∧Below W.heap.size W w':=
 (ZB x.e y.e W).mono fun _ _ h=>⟨h.1,h.2.below⟩
theorem ab4 (l:List TE) {a m:Nat} (h:a≤m) (hl:m≤l.length):dp l a m m=l:=by
 apply pO;intro j;rw[mc l h (aB _) hl,if_neg (by omega)]
 split
 · congr 1;omega
 · rfl
theorem an0 (l:List TE) (B g n c a b:Nat) (d_:a+1≤b) (hb:b≤n) (hm:n≤1000000) (w:World) (hO:OL w B 33 18 TE.cells (.slice (some ⟨g,0,none⟩) n c) l) (h2:Sd cV l (a+1) b) (hs:Sep l a (a+1) b):
 Calls ah 232 #[.slice (some ⟨g,0,none⟩) n c,.int .i64 (a:Int),.int .i64 ((a+1:Nat):Int),.int .i64 (b:Int),.func (.func 78) #[] #[]] w fun r w'=>r=.returned (.tuple #[])∧Below B w w'∧∃l',OL w' B 33 18 TE.cells (.slice (some ⟨g,0,none⟩) n c) l'∧lR cV l' l a b:=by
 have IE:=fun e:TE=>hZ (di (e:=e.e));have IS:=fun e:TE=>hZ (show(ah.info? 33).map (·.size)=some e.cells.toArray.size from di (e:=e.e));have pV:ag (B≤g):=hZ (hO.lt g rfl).1;have dO:ag (l.length=n):=hZ hO.len.1.symm;obtain⟨e,he⟩:∃e,l[a]?=some e:=⟨_,bp (by rw[dO.out];omega)⟩;have HE:=hZ he;have HO:=hZ hO;have de:ag (Below B w w):=hZ (bK _ _);have G2:ag (B≤w.heap.size):=hZ (by have:=hO.lt g rfl;omega);have wg:=hZ h2;have CM:=hZ hs;have fR:=hZ (ay d_ (ay hb hm));have w1:aQ.wrap (((a+1:Nat):Int)-(a:Int))=1:=by rw[aS];omega
 obtain⟨m,l5⟩:=oQ (a+1);rw[l5] at w1 wg CM⊢;have HM:=hZ l5;have z1:(0:Int)≤(a:Int):=by omega
 have z2:(a:Int)<(n:Int):=by omega
 have Az:ag (∀k x,m≤k→k<m→l[k]?=some x→cV x e=true):=hZ fun k x h h'=>by omega
 have nT:ag (∀k x,b≤k→k<b→l[k]?=some x→cV x e=false):=hZ fun k x h h'=>by omega
 have RS:m≤b:=by omega
 have eB:b≤1000000:=by omega
 have gw:b≤n:=hb;have I0:a<m:=by omega
 clear hO he h2 hs d_ hb hm l5
 go_enter UA,UO
 go_wp2_with fail
 go_loopw [10,11,12] (fun iv jv _ wr=> ∃i j:Nat,iv=.int .i64 (i:Int)∧jv=.int .i64 (j:Int)∧m≤i∧i≤j∧j≤b∧ag (∀k x,m≤k→k<i→l[k]?=some x→cV x e=true)∧ag (∀k x,j≤k→k<b→l[k]?=some x→cV x e=false)∧ag (OL wr B 33 18 TE.cells (.slice (some ⟨g,0,none⟩) n c) l)∧ag (Below B w wr)) (fun x y _ _=>(intOf y).toNat-(intOf x).toNat)
 case atStart=>exact⟨m,b,rfl,rfl,aB _,RS,aB _,Az,nT,HO,de⟩
 case round=>
  clear HO de Az nT;obtain⟨i,j,rfl,rfl,h1,h2,h3,pb,rY,HV,HB⟩:=hrel
  by_cases dh:i<j
  · have d1:decide (i<j)=true:=by simp[dh]
    obtain⟨h,hh⟩:=oQ ((i+j)/2);(have eh:((i:Int)+(j:Int))/2=(h:Int):=by omega);(have Bi:i≤h∧h<j:=by omega);obtain⟨x,hx⟩:∃x,l[h]?=some x:=⟨_,bp (by rw[dO.out];omega)⟩;have HX:=hZ hx;have HY:=HE;(have z3:(0:Int)≤(h:Int):=by omega);(have z4:(h:Int)<(n:Int):=by omega);(have wh:aQ.wrap ((h:Int)+1)=((h+1:Nat):Int):=by rw[aS];omega);have fM:=hZ HV.out.drew;have fC:ag (Below B w wr.drew):=hZ (eR HB.out);have eS:ag (B≤wr.drew.heap.size):=hZ (aV G2.out HB.out.size);have As:=hZ (fM.out.nG hx);have Au:=hZ (fM.out.nG HE.out);obtain⟨q,hq⟩:=oQ (decide (pk x.e e.e<0));have HQ:ag (cV x e=q):=hZ ((ML (CM.out a h e x (aB _) I0 (by omega) (by omega) HE.out hx)).trans hq);have uH:=hZ (ay Bi (ay h1 h3));have HHH:=hZ hh;clear hx hh Bi h1 h2;go_wp2_with fail;refine cJ (fun U=>U.rangeAt g (h*18) x.cells∧U.rangeAt g (a*18) e.cells) ⟨As.out,Au.out⟩ fun hHeld=>?_;obtain⟨U5,fN⟩:=oQ (wr.drew);rw[fN] at fM fC eS As Au hHeld⊢;clear fN;refine bg 0 1 2 3 ?_;refine dr 5 6 7 ?_;refine tl 4 rfl (yx g (h*18) (IE _).out bk (fun w hw=>hw.1)) ?_;refine tl 8 rfl (yx g (a*18) (IE _).out bk (fun w hw=>hw.2)) ?_;refine rE 9 fun K hK=>?_;go_simp
    (with_reducible refine(RG x e _).mono ?_)
    rintro r V5 ⟨rfl,hb⟩;have pd:=hZ (fM.out.below hb (aB _));have cT:=hZ (fC.out.trans (hb.mono eS.out));clear hb;refine kk hK (⟨pd.out.nG HX.out,pd.out.nG HY.out⟩) fun hHeld=>?_;clear hK K;refine tk 10 ?_;refine dn ?_;clear hHeld;have HF:=uH.out;cases q
    · go_wp2_with fail
      go_round
      case rel=>exact⟨i,h,rfl,rfl,HF.2.1,HF.1.1,by omega,pb,hZ fun k y hk ku hy=>(by
       by_cases c:k=h
       · subst c;have:=HX.out;rw[this] at hy;injection hy with hy;subst hy;exact HQ.out
       · exact vH.neg y x e (wg.out h k x y (by omega) (by omega) ku HX.out hy) HQ.out),pd,cT⟩
      case measure=>simp[intOf];have:=uH.out.1;omega
    · go_wp2_with fail
      go_round
      case rel=>exact⟨h+1,j,rfl,rfl,by omega,by omega,HF.2.2,hZ fun k y hk hkh hy=>(by
       by_cases c:k=h
       · subst c;have:=HX.out;rw[this] at hy;injection hy with hy;subst hy;exact HQ.out
       · cases hc:cV y e
         · have h5:=vH.neg x y e (wg.out k h y x hk (by omega) (by omega) hy HX.out) hc
           rw[HQ.out] at h5;cases h5
         · rfl),rY,pd,cT⟩
      case measure=>simp[intOf];have:=uH.out.1;omega
  · have d1:decide (i<j)=false:=by simp;omega
    (obtain rfl:i=j:=by omega);obtain⟨i1,Mn⟩:=oQ (i-1);(have wi:aQ.wrap ((i:Int)-1)=(i1:Int):=by rw[aS];omega);have o_:ag (i=i1+1∧a≤i1∧i≤b):=hZ (by have:=HM.out;omega)
    have Pd:ag (lR cV (dp l a m (i1+1)) l a b):=hZ (by
     have e1:=HM.out;have:=alH (i:=i) vH (by omega) h3 (by rw[dO.out];omega) HE.out (by rw[e1];exact wg.out) (by rw[e1];exact pb.out) rY.out
     rw[←o_.out.1,←e1];exact this)
    have mU:ag (OL wr B 33 18 TE.cells (.slice (some ⟨g,0,none⟩) n c) (dp l a m (a+1))):=hZ (by have e1:=HM.out;rw[e1,ab4 l (by omega) (by rw[dO.out];omega)];exact HV.out);(have hi6:i1≤1000000:=by omega);clear dh h1 h2 h3 Mn pb rY HV;go_wp2_with fail;obtain⟨wo,vF⟩:∃wo:World,wo=wr:=⟨_,rfl⟩;clear d1 vF
    go_loopw [13] (fun kv wr=> ∃k:Nat,kv=.int .i64 (k:Int)∧a≤k∧k≤i1∧ag (OL wr B 33 18 TE.cells (.slice (some ⟨g,0,none⟩) n c) (dp l a m (k+1)))∧ag (Below B w wr)) (fun x _=>i1-(intOf x).toNat)
    case atStart=>exact⟨a,rfl,aB _,o_.out.2.1,mU,HB⟩
    case round=>
     clear mU HB;obtain⟨k,rfl,h1,h2,HV,HB⟩:=hrel
     by_cases hk:k<i1
     · have d1:decide (k<i1)=true:=by simp[hk]
       have hi9:=o_.out;have gG:=dO.out;have tW:=HM.out;obtain⟨L,hL⟩:=oQ (dp l a m (k+1));(have iE:L.length=n:=by rw[←hL,M8 l (by omega) (by omega) (by omega)];exact gG);obtain⟨k1,fJ⟩:=oQ (k+1);(have wk:aQ.wrap ((k:Int)+1)=(k1:Int):=by rw[aS];omega);obtain⟨ek,Dr⟩:∃e,L[k]?=some e:=⟨_,bp (by omega)⟩;obtain⟨kK,Ds⟩:∃e,L[k1]?=some e:=⟨_,bp (by omega)⟩;rw[hL] at HV;have fM:=hZ HV.out.drew;have fC:ag (Below B w wr.drew):=hZ (eR HB.out);have uN:=hZ (fM.out.nG Dr);have uO:=hZ (fM.out.nG Ds);have lN:ag (k<n):=hZ (by omega);have oB:ag (k1<n):=hZ (by omega);(have y1:(0:Int)≤(k:Int):=by omega);(have y2:(k:Int)<(n:Int):=by omega);(have y3:(0:Int)≤(k1:Int):=by omega);have y4:(k1:Int)<(n:Int):=by omega
       have HS:ag ((L.set k kK).set k1 ek=dp l a m (k1+1)):=hZ (by
        have h5:=amX l (a:=a) (k:=k) h1 (by omega);rw[tW,hL] at h5
        rw[show k1+1=k+2 by omega,←h5,jw,jw,Ce,Ce,fJ,Dr,Ds])
       have rZ:ag (k<i1∧a≤k∧k1=k+1):=hZ ⟨hk,h1,fJ.symm⟩;clear hi9 gG tW hL iE fJ Dr Ds h1 h2 hk HV HB;go_wp2_with fail;refine cJ (fun _=>True) trivial fun hHeld=>?_;obtain⟨U5,fN⟩:=oQ (wr.drew);rw[fN] at fM fC uN uO⊢;clear fN;refine bg 0 1 2 3 ?_;refine bg 4 5 6 7 ?_;refine bg 8 10 11 12 ?_;refine rd [9,13] ?_;refine rc (fun K hK=>?_) ?_
       ·
        refine mf (S:=fun U=>U.rangeAt g (k1*18) kK.cells) (yx g (k1*18) (IE _).out bk (fun w hw=>hw)) (by rfl) uO.out ?_;refine kk hK trivial fun hHeld=>?_;clear hK K;refine rE 13 fun K hK=>?_;refine mf (S:=fun U=>U.rangeAt g (k*18) ek.cells) (yx g (k*18) (IE _).out bk (fun w hw=>hw)) (by rfl) uN.out ?_;refine kk hK trivial fun hHeld=>?_;clear hK K;refine tk 14 ?_;refine rE 15 fun K hK=>?_;refine um (by rfl) (.tmp 75) (.tmp 70) (by rfl) (by rfl) g (k*18) kK (by first|rfl|simp[jy]) (by rfl) (IS _).out (fM.out.uo lN.out) ?_;have cA:=hZ (fM.out.uh lN.out kK);have oy:=hZ (Below.setCells pV.out kK.cells (k*18) fC.out);obtain⟨V1,oJ⟩:=oQ (U5.setCells g (k*18) kK.cells);rw[oJ] at cA oy⊢;clear oJ;refine kk hK trivial fun hHeld=>?_;clear hK K;refine tk 16 ?_;refine rE 17 fun K hK=>?_;refine um (by rfl) (.tmp 76) (.tmp 74) (by rfl) (by rfl) g (k1*18) ek (by first|rfl|simp[jy]) (by rfl) (IS _).out (cA.out.uo oB.out) ?_;have cI:=hZ (cA.out.uh oB.out ek);have jQ:=hZ (Below.setCells pV.out ek.cells (k1*18) oy.out);obtain⟨V2,lW⟩:=oQ (V1.setCells g (k1*18) ek.cells);rw[lW] at cI jQ⊢;clear lW;refine kk hK trivial fun hHeld=>?_;clear hK K;refine dn ?_;clear hHeld;go_wp2_with fail
        go_round
        case rel=>exact⟨k1,rfl,by have:=rZ.out;omega,by have:=rZ.out;omega,hZ (by rw[←HS.out];exact cI.out),jQ⟩
        case measure=>simp[intOf];have:=rZ.out;omega
       refine dx fun K hK=>?_;refine mf (S:=fun U=>U.rangeAt g (k*18) ek.cells) (yx g (k*18) (IE _).out bk (fun w hw=>hw)) (by rfl) uN.out ?_;refine kk hK trivial fun hHeld=>?_;clear hK K;refine rE 9 fun K hK=>?_;refine mf (S:=fun U=>U.rangeAt g (k1*18) kK.cells) (yx g (k1*18) (IE _).out bk (fun w hw=>hw)) (by rfl) uO.out ?_;refine kk hK trivial fun hHeld=>?_;clear hK K;refine tk 14 ?_;refine rE 15 fun K hK=>?_;refine um (by rfl) (.tmp 75) (.tmp 70) (by rfl) (by rfl) g (k*18) kK (by first|rfl|simp[jy]) (by rfl) (IS _).out (fM.out.uo lN.out) ?_;have cA:=hZ (fM.out.uh lN.out kK);have oy:=hZ (Below.setCells pV.out kK.cells (k*18) fC.out);obtain⟨V1,oJ⟩:=oQ (U5.setCells g (k*18) kK.cells);rw[oJ] at cA oy⊢;clear oJ;refine kk hK trivial fun hHeld=>?_;clear hK K;refine tk 16 ?_;refine rE 17 fun K hK=>?_;refine um (by rfl) (.tmp 76) (.tmp 74) (by rfl) (by rfl) g (k1*18) ek (by first|rfl|simp[jy]) (by rfl) (IS _).out (cA.out.uo oB.out) ?_;have cI:=hZ (cA.out.uh oB.out ek);have jQ:=hZ (Below.setCells pV.out ek.cells (k1*18) oy.out);obtain⟨V2,lW⟩:=oQ (V1.setCells g (k1*18) ek.cells);rw[lW] at cI jQ⊢;clear lW;refine kk hK trivial fun hHeld=>?_;clear hK K;refine dn ?_;clear hHeld;go_wp2_with fail
       go_round
       case rel=>exact⟨k1,rfl,by have:=rZ.out;omega,by have:=rZ.out;omega,hZ (by rw[←HS.out];exact cI.out),jQ⟩
       case measure=>simp[intOf];have:=rZ.out;omega
     · have d1:decide (k<i1)=false:=by simp;omega
       (obtain rfl:i1=k:=by omega);go_wp2_with fail;exact bodyPost_ret (v:=.tuple #[]) (by simp[results,aeV,go_sem]) rfl ⟨rfl,HB.out,_,HV.out,Pd.out⟩
theorem Tl (l:List TE) {m b:Nat} (h:m≤b) (hl:b≤l.length):dp l m m b=l:=by
 apply pO;intro j;rw[mc l (aB _) h hl]
 split
 · congr 1;omega
 · rw[if_neg (by omega)]
theorem an1 (l:List TE) (B g n c a m:Nat) (I0:a+1<m) (hb:m+1≤n) (hm:n≤1000000) (w:World) (hO:OL w B 33 18 TE.cells (.slice (some ⟨g,0,none⟩) n c) l) (h1:Sd cV l a m) (hs:Sep l a m (m+1)):
 Calls ah 232 #[.slice (some ⟨g,0,none⟩) n c,.int .i64 (a:Int),.int .i64 (m:Int),.int .i64 ((m+1:Nat):Int),.func (.func 78) #[] #[]] w fun r w'=>r=.returned (.tuple #[])∧Below B w w'∧∃l',OL w' B 33 18 TE.cells (.slice (some ⟨g,0,none⟩) n c) l'∧lR cV l' l a (m+1):=by
 have IE:=fun e:TE=>hZ (di (e:=e.e));have IS:=fun e:TE=>hZ (show(ah.info? 33).map (·.size)=some e.cells.toArray.size from di (e:=e.e));have pV:ag (B≤g):=hZ (hO.lt g rfl).1;have dO:ag (l.length=n):=hZ hO.len.1.symm;obtain⟨e,he⟩:∃e,l[m]?=some e:=⟨_,bp (by rw[dO.out];omega)⟩;have HE:=hZ he;have HO:=hZ hO;have de:ag (Below B w w):=hZ (bK _ _);have G2:ag (B≤w.heap.size):=hZ (by have:=hO.lt g rfl;omega);have xY:=hZ h1;have CM:=hZ hs;obtain⟨d,hd⟩:=oQ (m-a);have w0:aQ.wrap ((m:Int)-(a:Int))=(d:Int):=by rw[aS];omega
 have d0:((d:Int)==1)=false:=by simp;omega
 have w1:aQ.wrap (((m+1:Nat):Int)-(m:Int))=1:=by rw[aS];omega
 obtain⟨b,aq⟩:=oQ (m+1);rw[aq] at w1 hb⊢;have HM:=hZ aq;have z1:(0:Int)≤(m:Int):=by omega
 have z2:(m:Int)<(n:Int):=by omega
 have Az:ag (∀k x,a≤k→k<a→l[k]?=some x→cV e x=false):=hZ fun k x h h'=>by omega
 have nT:ag (∀k x,m≤k→k<m→l[k]?=some x→cV e x=true):=hZ fun k x h h'=>by omega
 have Fx:m≤1000000:=by omega
 have Bq:m<n:=by omega
 have hal:a≤m:=by omega
 have mU:ag (OL w B 33 18 TE.cells (.slice (some ⟨g,0,none⟩) n c) (dp l m m b)):=hZ (by rw[Tl l (by omega) (by rw[dO.out];exact hb)];exact hO);clear hO he h1 hs I0 hb hm aq hd mU
 go_enter UA,UO
 go_wp2_with fail
 go_loopw [14,15,16] (fun iv jv _ wr=> ∃i j:Nat,iv=.int .i64 (i:Int)∧jv=.int .i64 (j:Int)∧a≤i∧i≤j∧j≤m∧ag (∀k x,a≤k→k<i→l[k]?=some x→cV e x=false)∧ag (∀k x,j≤k→k<m→l[k]?=some x→cV e x=true)∧ag (OL wr B 33 18 TE.cells (.slice (some ⟨g,0,none⟩) n c) l)∧ag (Below B w wr)) (fun x y _ _=>(intOf y).toNat-(intOf x).toNat)
 case atStart=>exact⟨a,m,rfl,rfl,aB _,hal,aB _,Az,nT,HO,de⟩
 case round=>
  clear HO de Az nT;obtain⟨i,j,rfl,rfl,h1,h2,h3,pb,rY,HV,HB⟩:=hrel
  by_cases dh:i<j
  · have d1:decide (i<j)=true:=by simp[dh]
    obtain⟨h,hh⟩:=oQ ((i+j)/2);(have eh:((i:Int)+(j:Int))/2=(h:Int):=by omega);(have Bi:i≤h∧h<j:=by omega);obtain⟨x,hx⟩:∃x,l[h]?=some x:=⟨_,bp (by rw[dO.out];omega)⟩;have HY:=hZ hx;have HX:=HE;(have z3:(0:Int)≤(h:Int):=by omega);(have z4:(h:Int)<(n:Int):=by omega);(have wh:aQ.wrap ((h:Int)+1)=((h+1:Nat):Int):=by rw[aS];omega);have fM:=hZ HV.out.drew;have fC:ag (Below B w wr.drew):=hZ (eR HB.out);have eS:ag (B≤wr.drew.heap.size):=hZ (aV G2.out HB.out.size);have As:=hZ (fM.out.nG HE.out);have Au:=hZ (fM.out.nG hx);obtain⟨q,hq⟩:=oQ (decide (pk e.e x.e<0));have HQ:ag (cV e x=q):=hZ ((ML (CM.out h m x e (by omega) (by omega) (aB _) (OC _) hx HE.out)).trans hq);have uH:=hZ (ay Bi (ay h1 h3));clear hx hh Bi h1 h2;go_wp2_with fail;refine cJ (fun U=>U.rangeAt g (m*18) e.cells∧U.rangeAt g (h*18) x.cells) ⟨As.out,Au.out⟩ fun hHeld=>?_;obtain⟨U5,fN⟩:=oQ (wr.drew);rw[fN] at fM fC eS As Au hHeld⊢;clear fN;refine bg 0 1 2 3 ?_;refine dr 5 6 7 ?_;refine tl 4 rfl (yx g (m*18) (IE _).out bk (fun w hw=>hw.1)) ?_;refine tl 8 rfl (yx g (h*18) (IE _).out bk (fun w hw=>hw.2)) ?_;refine rE 9 fun K hK=>?_;go_simp
    (with_reducible refine(RG e x _).mono ?_)
    rintro r V5 ⟨rfl,hb⟩;have pd:=hZ (fM.out.below hb (aB _));have cT:=hZ (fC.out.trans (hb.mono eS.out));clear hb;refine kk hK (⟨pd.out.nG HX.out,pd.out.nG HY.out⟩) fun hHeld=>?_;clear hK K;refine eC 10 11 ?_;refine dn ?_;clear hHeld;have HF:=uH.out;cases q
    · go_wp2_with fail
      go_round
      case rel=>exact⟨h+1,j,rfl,rfl,by omega,by omega,HF.2.2,hZ fun k y hk hkh hy=>(by
       by_cases c:k=h
       · subst c;have:=HY.out;rw[this] at hy;injection hy with hy;subst hy;exact HQ.out
       · exact vH.neg e x y HQ.out (xY.out k h y x hk (by omega) (by omega) hy HY.out)),rY,pd,cT⟩
      case measure=>simp[intOf];have:=uH.out.1;omega
    · go_wp2_with fail
      go_round
      case rel=>exact⟨i,h,rfl,rfl,HF.2.1,HF.1.1,by omega,pb,hZ fun k y hk ku hy=>(by
       by_cases c:k=h
       · subst c;have:=HY.out;rw[this] at hy;injection hy with hy;subst hy;exact HQ.out
       · cases hc:cV e y
         · have h5:=vH.neg e y x hc (xY.out h k x y (by omega) (by omega) ku HY.out hy)
           rw[HQ.out] at h5;cases h5
         · rfl),pd,cT⟩
      case measure=>simp[intOf];have:=uH.out.1;omega
  · have d1:decide (i<j)=false:=by simp;omega
    obtain rfl:i=j:=by omega
    have Pd:ag (lR cV (dp l i m b) l a b):=hZ (by
     have e1:=HM.out;have:=alI vH h1 h3 (by rw[dO.out];omega) HE.out xY.out pb.out rY.out
     rw[←e1];exact this)
    have mU:ag (OL wr B 33 18 TE.cells (.slice (some ⟨g,0,none⟩) n c) (dp l m m b)):=hZ (by have e1:=HM.out;rw[Tl l (by omega) (by rw[dO.out];omega)];exact HV.out);have K7:=hZ h3;clear dh h1 h2 h3 pb rY HV;go_wp2_with fail;clear d1
    go_loopw [17] (fun kv wr=> ∃k:Nat,kv=.int .i64 (k:Int)∧i≤k∧k≤m∧ag (OL wr B 33 18 TE.cells (.slice (some ⟨g,0,none⟩) n c) (dp l k m b))∧ag (Below B w wr)) (fun x _=>(intOf x).toNat)
    case atStart=>exact⟨m,rfl,K7.out,aB _,mU,HB⟩
    case round=>
     clear mU HB;obtain⟨k,rfl,h1,h2,HV,HB⟩:=hrel
     by_cases hk:i<k
     · have d1:decide (i<k)=true:=by simp[hk]
       have gG:=dO.out;have tW:=HM.out;obtain⟨L,hL⟩:=oQ (dp l k m b);(have iE:L.length=n:=by rw[←hL,M8 l (by omega) (by omega) (by omega)];exact gG);obtain⟨k1,fJ⟩:=oQ (k-1);(have wk:aQ.wrap ((k:Int)-1)=(k1:Int):=by rw[aS];omega);obtain⟨ek,Dr⟩:∃e,L[k]?=some e:=⟨_,bp (by omega)⟩;obtain⟨kK,Ds⟩:∃e,L[k1]?=some e:=⟨_,bp (by omega)⟩;rw[hL] at HV;have fM:=hZ HV.out.drew;have fC:ag (Below B w wr.drew):=hZ (eR HB.out);have uN:=hZ (fM.out.nG Dr);have uO:=hZ (fM.out.nG Ds);have lN:ag (k<n):=hZ (by omega);have oB:ag (k1<n):=hZ (by omega);(have y1:(0:Int)≤(k:Int):=by omega);(have y2:(k:Int)<(n:Int):=by omega);(have y3:(0:Int)≤(k1:Int):=by omega);have y4:(k1:Int)<(n:Int):=by omega
       have HS:ag ((L.set k kK).set k1 ek=dp l k1 m b):=hZ (by
        have h5:=amT l (m:=m) (k:=k) (by omega) h2 (by omega);rw[tW,hL] at h5;rw[←fJ,←h5,jw,jw,Ce,Ce,fJ,Dr,Ds]
        exact List.set_comm _ _ (by omega))
       have rZ:ag (i<k∧k≤m∧k1+1=k):=hZ ⟨hk,h2,by omega⟩;clear gG tW hL iE fJ Dr Ds h1 h2 hk HV HB;go_wp2_with fail;refine cJ (fun _=>True) trivial fun hHeld=>?_;obtain⟨U5,fN⟩:=oQ (wr.drew);rw[fN] at fM fC uN uO⊢;clear fN;refine bg 0 1 2 3 ?_;refine bg 4 5 6 7 ?_;refine bg 8 10 11 12 ?_;refine rd [9,13] ?_;refine rc (fun K hK=>?_) ?_
       ·
        refine mf (S:=fun U=>U.rangeAt g (k1*18) kK.cells) (yx g (k1*18) (IE _).out bk (fun w hw=>hw)) (by rfl) uO.out ?_;refine kk hK trivial fun hHeld=>?_;clear hK K;refine rE 13 fun K hK=>?_;refine mf (S:=fun U=>U.rangeAt g (k*18) ek.cells) (yx g (k*18) (IE _).out bk (fun w hw=>hw)) (by rfl) uN.out ?_;refine kk hK trivial fun hHeld=>?_;clear hK K;refine tk 14 ?_;refine rE 15 fun K hK=>?_;refine um (by rfl) (.tmp 127) (.tmp 122) (by rfl) (by rfl) g (k*18) kK (by first|rfl|simp[jy]) (by rfl) (IS _).out (fM.out.uo lN.out) ?_;have cA:=hZ (fM.out.uh lN.out kK);have oy:=hZ (Below.setCells pV.out kK.cells (k*18) fC.out);obtain⟨V1,oJ⟩:=oQ (U5.setCells g (k*18) kK.cells);rw[oJ] at cA oy⊢;clear oJ;refine kk hK trivial fun hHeld=>?_;clear hK K;refine tk 16 ?_;refine rE 17 fun K hK=>?_;refine um (by rfl) (.tmp 128) (.tmp 126) (by rfl) (by rfl) g (k1*18) ek (by first|rfl|simp[jy]) (by rfl) (IS _).out (cA.out.uo oB.out) ?_;have cI:=hZ (cA.out.uh oB.out ek);have jQ:=hZ (Below.setCells pV.out ek.cells (k1*18) oy.out);obtain⟨V2,lW⟩:=oQ (V1.setCells g (k1*18) ek.cells);rw[lW] at cI jQ⊢;clear lW;refine kk hK trivial fun hHeld=>?_;clear hK K;refine dn ?_;clear hHeld;go_wp2_with fail
        go_round
        case rel=>exact⟨k1,rfl,by have:=rZ.out;omega,by have:=rZ.out;omega,hZ (by rw[←HS.out];exact cI.out),jQ⟩
        case measure=>simp[intOf];have:=rZ.out;omega
       refine dx fun K hK=>?_;refine mf (S:=fun U=>U.rangeAt g (k*18) ek.cells) (yx g (k*18) (IE _).out bk (fun w hw=>hw)) (by rfl) uN.out ?_;refine kk hK trivial fun hHeld=>?_;clear hK K;refine rE 9 fun K hK=>?_;refine mf (S:=fun U=>U.rangeAt g (k1*18) kK.cells) (yx g (k1*18) (IE _).out bk (fun w hw=>hw)) (by rfl) uO.out ?_;refine kk hK trivial fun hHeld=>?_;clear hK K;refine tk 14 ?_;refine rE 15 fun K hK=>?_;refine um (by rfl) (.tmp 127) (.tmp 122) (by rfl) (by rfl) g (k*18) kK (by first|rfl|simp[jy]) (by rfl) (IS _).out (fM.out.uo lN.out) ?_;have cA:=hZ (fM.out.uh lN.out kK);have oy:=hZ (Below.setCells pV.out kK.cells (k*18) fC.out);obtain⟨V1,oJ⟩:=oQ (U5.setCells g (k*18) kK.cells);rw[oJ] at cA oy⊢;clear oJ;refine kk hK trivial fun hHeld=>?_;clear hK K;refine tk 16 ?_;refine rE 17 fun K hK=>?_;refine um (by rfl) (.tmp 128) (.tmp 126) (by rfl) (by rfl) g (k1*18) ek (by first|rfl|simp[jy]) (by rfl) (IS _).out (cA.out.uo oB.out) ?_;have cI:=hZ (cA.out.uh oB.out ek);have jQ:=hZ (Below.setCells pV.out ek.cells (k1*18) oy.out);obtain⟨V2,lW⟩:=oQ (V1.setCells g (k1*18) ek.cells);rw[lW] at cI jQ⊢;clear lW;refine kk hK trivial fun hHeld=>?_;clear hK K;refine dn ?_;clear hHeld;go_wp2_with fail
       go_round
       case rel=>exact⟨k1,rfl,by have:=rZ.out;omega,by have:=rZ.out;omega,hZ (by rw[←HS.out];exact cI.out),jQ⟩
       case measure=>simp[intOf];have:=rZ.out;omega
     · have d1:decide (i<k)=false:=by simp;omega
       (obtain rfl:i=k:=by omega);go_wp2_with fail;exact bodyPost_ret (v:=.tuple #[]) (by simp[results,aeV,go_sem]) rfl ⟨rfl,HB.out,_,HV.out,Pd.out⟩
def Qc (lt:TE→TE→Bool) (l:List TE) (p s0 s:Nat):Prop:=∀k x y,s0≤k→k<s→l[k]?=some x→l[p-k]?=some y→lt y x=false
def Qb (lt:TE→TE→Bool) (l:List TE) (p r r0:Nat):Prop:=∀k x y,r≤k→k<r0→l[k]?=some x→l[p-k]?=some y→lt y x=true
theorem als {lt:TE→TE→Bool} (O:p7 lt) {l:List TE} {a m b p s0 r0 c:Nat} {x y:TE} (_hm:m≤b∧b≤l.length) (h1:Sd lt l a m) (h2:Sd lt l m b) (iD:∀k,s0≤k→k<r0→a≤k∧k<m∧m≤p-k∧p-k<b∧k≤p)
 (hc:s0≤c∧c<r0) (hx:l[c]?=some x) (hy:l[p-c]?=some y) (hq:lt y x=false):Qc lt l p s0 (c+1):=fun k x' y' hk Ft vG jt=>by
 by_cases e:k=c
 · subst e;rw[hx] at vG;rw[hy] at jt;injection vG with vG;injection jt with jt;subst vG jt;exact hq
 · have i1:=iD k hk (by omega)
   have i2:=iD c hc.1 hc.2;exact O.neg y' x x' (O.neg y' y x (h2 (p-c) (p-k) y y' (by omega) (by omega) (by omega) hy jt) hq) (h1 k c x' x (by omega) (by omega) (by omega) vG hx)
theorem alr {lt:TE→TE→Bool} (O:p7 lt) {l:List TE} {a m b p s0 r0 c:Nat} {x y:TE} (_hm:m≤b∧b≤l.length) (h1:Sd lt l a m) (h2:Sd lt l m b) (iD:∀k,s0≤k→k<r0→a≤k∧k<m∧m≤p-k∧p-k<b∧k≤p)
 (hc:s0≤c∧c<r0) (hx:l[c]?=some x) (hy:l[p-c]?=some y) (hq:lt y x=true):Qb lt l p c r0:=fun k x' y' hk yU vG jt=>by
 by_cases e:k=c
 · subst e;rw[hx] at vG;rw[hy] at jt;injection vG with vG;injection jt with jt;subst vG jt;exact hq
 · have i1:=iD k (by omega) yU
   have i2:=iD c hc.1 hc.2;cases h:lt y' x'
   · have h3:=O.neg y x' x (O.neg y y' x' (h2 (p-k) (p-c) y' y (by omega) (by omega) (by omega) jt hy) h) (h1 c k x x' (by omega) (by omega) (by omega) hx vG)
     rw[hq] at h3;cases h3
   · rfl
theorem ang {l:List TE} {a m b s mid n:Nat} (d_:a≤s∧m≤b∧b≤l.length) (hn:n=mid+m) (js:s≤m) (Bo:m≤n-s) (he:n-s≤b) (tZ:s≤n) (DE:s≤mid) (h:Sep l a m b):Sep (dp l s m (n-s)) a s mid∧Sep (dp l s m (n-s)) mid (n-s) b:=by
 have G:∀j,_:=fun j=>mc l js Bo (by omega) j;refine⟨fun p q x y h1 h2 h3 h4 hx hy=>?_,fun p q x y h1 h2 h3 h4 hx hy=>?_⟩
 · rw[G,if_neg (by omega),if_neg (by omega)] at hx
   rw[G,if_pos (by omega)] at hy;exact h p _ x y h1 (by omega) (by omega) (by omega) hx hy
 · rw[G,if_neg (by omega),if_pos (by omega)] at hx
   rw[G,if_neg (by omega),if_neg (by omega)] at hy;exact h _ q x y (by omega) (by omega) (by omega) h4 hx hy
inductive EP (u t v:Nat) (L' L:List TE):Prop
 |did (h1:u<t) (h2:t<v) (h:lR cV L' L u v)
 |SI (h:¬(u<t∧t<v)) (e:L'=L)
theorem an2 (d:Nat):∀(l:List TE) (B g n c a m b:Nat),b-a≤d→a<m→m<b→b≤n→n≤1000000→∀w:World,OL w B 33 18 TE.cells (.slice (some ⟨g,0,none⟩) n c) l→Sd cV l a m→Sd cV l m b→Sep l a m b→
 Calls ah 232 #[.slice (some ⟨g,0,none⟩) n c,.int .i64 (a:Int),.int .i64 (m:Int),.int .i64 (b:Int),.func (.func 78) #[] #[]] w fun r w'=>r=.returned (.tuple #[])∧Below B w w'∧∃l',OL w' B 33 18 TE.cells (.slice (some ⟨g,0,none⟩) n c) l'∧lR cV l' l a b:=by
 induction d with
 |zero=>intro l B g n c a m b hd h1 h2;omega
 | succ d ih=>
   intro l B g n c a m b hd I0 RS gw hm w hO s1 s2 hs
   by_cases cl:m=a+1
   · subst cl;exact an0 l B g n c a b (by omega) gw hm w hO s2 hs
   by_cases cr:b=m+1
   · subst cr;exact an1 l B g n c a m (by omega) gw hm w hO s1 hs
   have IH:=hZ ih;clear ih;have IE:=fun e:TE=>hZ (di (e:=e.e));have pV:ag (B≤g):=hZ (hO.lt g rfl).1;have dO:ag (l.length=n):=hZ hO.len.1.symm;have HO:=hZ hO;have de:ag (Below B w w):=hZ (bK _ _);have G2:ag (B≤w.heap.size):=hZ (by have:=hO.lt g rfl;omega);have xY:=hZ s1;have wg:=hZ s2;have CM:=hZ hs;obtain⟨da,hda⟩:=oQ (m-a);obtain⟨db,hdb⟩:=oQ (b-m);obtain⟨mid,DE⟩:=oQ ((a+b)/2);obtain⟨nn,rk⟩:=oQ (mid+m);obtain⟨p,hp⟩:=oQ (nn-1);(have w1:aQ.wrap ((m:Int)-(a:Int))=(da:Int):=by rw[aS];omega);(have w2:aQ.wrap ((b:Int)-(m:Int))=(db:Int):=by rw[aS];omega);(have d1:((da:Int)==1)=false:=by simp;omega);(have d2:((db:Int)==1)=false:=by simp;omega);(have em:((a:Int)+(b:Int))/2=(mid:Int):=by omega);(have w3:aQ.wrap ((mid:Int)+(m:Int))=(nn:Int):=by rw[aS];omega);(have w4:aQ.wrap ((nn:Int)-1)=(p:Int):=by rw[aS];omega);obtain⟨t0,ht0⟩:=oQ (nn-b)
   obtain⟨s0,r0,Bx⟩:∃s0 r0:Nat,(m≤mid∧s0=a∧r0=m)∨(mid<m∧s0+b=nn∧r0=mid):=by
    by_cases h:m≤mid
    · exact⟨a,m,.inl ⟨h,rfl,rfl⟩⟩
    · exact⟨nn-b,mid,.inr ⟨by omega,by omega,rfl⟩⟩
   have HG:=hZ (ay hd (ay I0 (ay RS (ay gw (ay hm (ay DE (ay rk (ay hp Bx))))))));(have K8:ag (∀k,s0≤k→k<r0→a≤k∧k<m∧m≤p-k∧p-k<b∧k≤p):=hZ fun k h1 h2=>by rcases Bx with⟨q1,q2,q3⟩|⟨q1,q2,q3⟩<;>omega);have WK:ag (s0≤r0):=hZ (by rcases Bx with⟨q1,q2,q3⟩|⟨q1,q2,q3⟩<;>omega);have eB:b≤1000000:=by omega
   have ways:(decide (mid<m)=false∧ag (a=s0∧m=r0))∨(decide (mid<m)=true∧aQ.wrap ((nn:Int)-(b:Int))=(s0:Int)∧ag (mid=r0)):=by
    rcases Bx with⟨q1,q2,q3⟩|⟨q1,q2,q3⟩
    · exact .inl ⟨by simp;omega,hZ ⟨q2.symm,q3.symm⟩⟩
    · exact .inr ⟨by simp;omega,by rw[aS];omega,hZ q3.symm⟩
   (have Az:ag (Qc cV l p s0 s0):=hZ fun k x y h h'=>by omega);(have nT:ag (Qb cV l p r0 r0):=hZ fun k x y h h'=>by omega);(have hr6:r0≤1000000:=by rcases Bx with⟨q1,q2,q3⟩|⟨q1,q2,q3⟩<;>omega);clear hO s1 s2 hs cl cr hd gw hm hda hdb DE rk hp ht0 Bx;rcases ways with⟨dm,HQ⟩|⟨dm,w5,HQ⟩
   all_goals
    go_enter UA,UO
    go_wp2_with fail
    go_loopw [20,21,23] (fun iv jv _ wr=> ∃i j:Nat,iv=.int .i64 (i:Int)∧jv=.int .i64 (j:Int)∧s0≤i∧i≤j∧j≤r0∧ag (Qc cV l p s0 i)∧ag (Qb cV l p j r0)∧ag (OL wr B 33 18 TE.cells (.slice (some ⟨g,0,none⟩) n c) l)∧ag (Below B w wr)) (fun x y _ _=>(intOf y).toNat-(intOf x).toNat)
    case atStart=>exact⟨s0,r0,by first|rfl|rw[HQ.out.1],by first|rw[HQ.out.2]|rw[HQ.out],aB _,WK.out,aB _,Az,nT,HO,de⟩
    case round=>
     clear HO de Az nT;obtain⟨i,j,rfl,rfl,h1,h2,h3,pb,rY,HV,HB⟩:=hrel
     by_cases dh:i<j
     · have d3:decide (i<j)=true:=by simp[dh]
       obtain⟨h,hh⟩:=oQ ((i+j)/2);(have eh:((i:Int)+(j:Int))/2=(h:Int):=by omega);(have Bi:i≤h∧h<j:=by omega);have iD:=K8.out h (by omega) (by omega);have hg:=HG.out;obtain⟨pc,gx⟩:=oQ (p-h);have ar:=dO.out;obtain⟨x,hx⟩:∃x,l[h]?=some x:=⟨_,bp (by omega)⟩;obtain⟨y,hy⟩:∃x,l[pc]?=some x:=⟨_,bp (by omega)⟩;have HY:=hZ hx;have HX:=hZ hy;have CA:=hZ gx;(have wpc:aQ.wrap ((p:Int)-(h:Int))=(pc:Int):=by rw[aS];omega);(have z1:(0:Int)≤(pc:Int):=by omega);(have z2:(pc:Int)<(n:Int):=by omega);(have z3:(0:Int)≤(h:Int):=by omega);(have z4:(h:Int)<(n:Int):=by omega);(have wh:aQ.wrap ((h:Int)+1)=((h+1:Nat):Int):=by rw[aS];omega);have fM:=hZ HV.out.drew;have fC:ag (Below B w wr.drew):=hZ (eR HB.out);have eS:ag (B≤wr.drew.heap.size):=hZ (aV G2.out HB.out.size);have As:=hZ (fM.out.nG hy);have Au:=hZ (fM.out.nG hx);obtain⟨q,hq⟩:=oQ (decide (pk y.e x.e<0));have Le:ag (cV y x=q):=hZ ((ML (CM.out h pc x y (by omega) (by omega) (by omega) (by omega) hx hy)).trans hq);have uH:=hZ (ay Bi (ay h1 h3));clear hx hy hh Bi iD hg ar gx h1 h2;go_wp2_with fail;refine cJ (fun U=>U.rangeAt g (pc*18) y.cells∧U.rangeAt g (h*18) x.cells) ⟨As.out,Au.out⟩ fun hHeld=>?_;obtain⟨U5,fN⟩:=oQ (wr.drew);rw[fN] at fM fC eS As Au hHeld⊢;clear fN;refine bg 0 1 2 3 ?_;refine bg 4 5 7 8 ?_;refine tk 9 ?_;refine tl 6 rfl (yx g (pc*18) (IE _).out bk (fun w hw=>hw.1)) ?_;refine tl 10 rfl (yx g (h*18) (IE _).out bk (fun w hw=>hw.2)) ?_
       refine rE 11 fun K hK=>?_;go_simp
       (with_reducible refine(RG y x _).mono ?_)
       rintro r V5 ⟨rfl,hb⟩;have pd:=hZ (fM.out.below hb (aB _));have cT:=hZ (fC.out.trans (hb.mono eS.out));clear hb;refine kk hK (⟨pd.out.nG HX.out,pd.out.nG HY.out⟩) fun hHeld=>?_;clear hK K;refine eC 12 13 ?_;refine dn ?_;clear hHeld;have HF:=uH.out;have hg:=HG.out;cases q
       · go_wp2_with fail
         go_round
         case rel=>exact⟨h+1,j,rfl,rfl,by omega,by omega,HF.2.2,hZ (als vH (by rw[dO.out];omega) xY.out wg.out K8.out (by omega) HY.out (by rw[CA.out];exact HX.out) Le.out),rY,pd,cT⟩
         case measure=>simp[intOf];have:=uH.out.1;omega
       · go_wp2_with fail
         go_round
         case rel=>exact⟨i,h,rfl,rfl,HF.2.1,HF.1.1,by omega,pb,hZ (alr vH (by rw[dO.out];omega) xY.out wg.out K8.out (by omega) HY.out (by rw[CA.out];exact HX.out) Le.out),pd,cT⟩
         case measure=>simp[intOf];have:=uH.out.1;omega
     · have d3:decide (i<j)=false:=by simp;omega
       (obtain rfl:i=j:=by omega);have hg:=HG.out;obtain⟨e,he⟩:=oQ (nn-i);(have we:aQ.wrap ((nn:Int)-(i:Int))=(e:Int):=by rw[aS];omega);(have hp:i≤m∧m≤e∧e≤b∧i≤nn∧i≤mid∧mid≤e∧a≤i∧e≤n∧a<mid∧mid<b:=by rcases hg.2.2.2.2.2.2.2.2 with⟨q1,q2,q3⟩|⟨q1,q2,q3⟩<;>omega);have ar:=dO.out
       have jR:ag (lQ cV l a i i m∧lQ cV l a i (nn-i) b∧lQ cV l m (nn-i) i m∧lQ cV l m (nn-i) (nn-i) b):=hZ
        (alm (s0:=s0) (r0:=r0) (mid:=mid) (n:=nn) vH (by omega) (by omega) (by omega) xY.out wg.out hg.2.2.2.2.2.2.2.2 (by omega)
          (fun q x y hx hy=>pb.out (i-1) x y (by omega) (by omega) hx (by rw[show p-(i-1)=nn-i by omega];exact hy))
          (fun q x y hx hy=>rY.out i y x (aB _) q hy (by rw[show p-i=nn-1-i by omega];exact hx)))
       have HP:=hZ (ay hp (show mid+m=nn∧b≤l.length by omega));have Hq:=hZ (ab5 (s:=i) (mid:=mid) (n:=nn) (m:=m) (a:=a) (b:=b) (by omega) (by omega) (by omega) (by omega) (by omega) (by omega) (by omega) xY.out wg.out jR.out);obtain⟨L1,qg⟩:=oQ (dp l i m e);have PH:=hZ (ang (s:=i) (mid:=mid) (n:=nn) (m:=m) (a:=a) (b:=b) (by omega) (by omega) (by omega) (by omega) (by omega) (by omega) (by omega) CM.out);rw[he,qg] at Hq PH;have r7:=hZ qg
       have c1:(decide (i<m)=true∧decide (m<e)=true∧ag (i<m∧m<e))∨(ag (l=L1)∧((decide (i<m)=true∧decide (m<e)=false)∨decide (i<m)=false)):=by
        by_cases z:i<m
        · by_cases z':m<e
          · exact .inl ⟨by simp[z],by simp[z'],hZ ⟨z,z'⟩⟩
          · exact .inr ⟨hZ (by rw[←qg,show e=m by omega,ab4 l (by omega) (by omega)]),.inl ⟨by simp[z],by simp[z']⟩⟩
        · exact .inr ⟨hZ (by rw[←qg,show i=m by omega,Tl l (by omega) (by omega)]),.inr (by simp[z])⟩
       have c2:(decide (a<i)=true∧decide (i<mid)=true∧ag (a<i∧i<mid))∨(ag (EP a i mid L1 L1)∧((decide (a<i)=true∧decide (i<mid)=false)∨decide (a<i)=false)):=by
        by_cases z:a<i
        · by_cases z':i<mid
          · exact .inl ⟨by simp[z],by simp[z'],hZ ⟨z,z'⟩⟩
          · exact .inr ⟨hZ (.SI (fun h=>z' h.2) rfl),.inl ⟨by simp[z],by simp[z']⟩⟩
        · exact .inr ⟨hZ (.SI (fun h=>z h.1) rfl),.inr (by simp[z])⟩
       have c3:(decide (mid<e)=true∧decide (e<b)=true∧ag (mid<e∧e<b))∨(ag (¬(mid<e∧e<b))∧((decide (mid<e)=true∧decide (e<b)=false)∨decide (mid<e)=false)):=by
        by_cases z:mid<e
        · by_cases z':e<b
          · exact .inl ⟨by simp[z],by simp[z'],hZ ⟨z,z'⟩⟩
          · exact .inr ⟨hZ (fun h=>z' h.2),.inl ⟨by simp[z],by simp[z']⟩⟩
        · exact .inr ⟨hZ (fun h=>z h.1),.inr (by simp[z])⟩
       have lO:ag (∀L2,EP a i mid L2 L1→Sd cV L2 mid e∧Sd cV L2 e b):=hZ fun L2 h=>by
        have q:∀k,mid≤k→L2[k]?=L1[k]?:=by
         rcases h with⟨_,_,h⟩|⟨_,h⟩
         · exact fun k hk=>h.out k (.inr hk)
         · intro k _;rw[h]
        have e6:=HP.out.1;exact⟨Sd.xj (fun k h1 _=>q k h1) Hq.out.2.2.1,Sd.xj (fun k h1 _=>q k (by omega)) Hq.out.2.2.2.1⟩
       have HX3:ag (∀L2,EP a i mid L2 L1→Sep L2 mid e b):=hZ fun L2 h p' q' x' y' k1 k2 k3 k4 hx hy=>by
        have q:∀k,mid≤k→L2[k]?=L1[k]?:=by
         rcases h with⟨_,_,h⟩|⟨_,h⟩
         · exact fun k hk=>h.out k (.inr hk)
         · intro k _;rw[h]
        have e6:=HP.out.1;rw[q _ k1] at hx;rw[q _ (by omega)] at hy;exact PH.out.2 p' q' x' y' k1 k2 k3 k4 hx hy
       have VS:ag (∀L2 L3,EP a i mid L2 L1→EP mid e b L3 L2→lR cV L3 l a b):=hZ fun L2 L3 hA hB=>by
        have e6:=HP.out;refine aln (s:=i) (mid:=mid) (n:=nn) (m:=m) (L2:=L2) (by omega) (by omega) (by omega) (by omega) (by omega) (by omega) (by omega) xY.out wg.out jR.out ?_ ?_
        · rw[he,qg];exact hA.casesOn (fun h1 h2 h=>.inl ⟨h1,h2,h⟩) fun h e=>.inr ⟨h,e⟩
        · rw[he];exact hB.casesOn (fun h1 h2 h=>.inl ⟨h1,h2,h⟩) fun h e=>.inr ⟨h,e⟩
       have dV:ag (b-a≤d+1∧a<m∧m<b∧b≤n∧n≤1000000):=hZ (by omega);clear dh h1 h2 h3 hg hp ar pb rY K8 WK he qg HG;rcases c1 with⟨g1,g2,uF⟩|⟨uF,⟨g1,g2⟩|g1⟩<;>rcases c2 with⟨g3,g4,tp⟩|⟨HA,⟨g3,g4⟩|g3⟩<;>rcases c3 with⟨g5,g6,wa⟩|⟨wa,⟨g5,g6⟩|g5⟩
       all_goals (try rw[uF.out] at HV)
       all_goals
        go_wp2_with (first
         |(go_at_call 259;(with_reducible refine(amY l B g n c i m e _ uF.out.1 uF.out.2 (by have:=HP.out;omega) dV.out.2.2.2.2 _ HV.out).mono ?_);rintro r W1 ⟨rfl,ho,hb⟩;rw[r7.out] at ho;replace HV:=hZ ho;replace HB:=hZ (HB.out.trans hb);clear ho hb uF)
         |(go_at_call 232;(with_reducible refine(IH.out L1 B g n c a i mid (by have:=HP.out;have:=dV.out;omega) tp.out.1 tp.out.2 (by have:=HP.out;omega) dV.out.2.2.2.2 _ HV.out Hq.out.1 Hq.out.2.1 PH.out.1).mono ?_);rintro r W2 ⟨rfl,hb,L2,ho,hm⟩;replace HV:=hZ ho;replace HB:=hZ (HB.out.trans hb);have HA:ag (EP a i mid L2 L1):=hZ (.did tp.out.1 tp.out.2 hm);clear ho hb hm tp)
         |(go_at_call 232;(with_reducible refine(IH.out _ B g n c mid e b (by have:=HP.out;have:=dV.out;omega) wa.out.1 wa.out.2 dV.out.2.2.2.1 dV.out.2.2.2.2 _ HV.out (lO.out _ HA.out).1 (lO.out _ HA.out).2 (HX3.out _ HA.out)).mono ?_);rintro r W3 ⟨rfl,hb,L3,ho,hm⟩;replace HV:=hZ ho;replace HB:=hZ (HB.out.trans hb);have HE:=hZ (VS.out _ L3 HA.out (.did wa.out.1 wa.out.2 hm));clear ho hb hm wa)
         |fail)
        go_end0
        first
         |exact⟨rfl,HB.out,_,HV.out,HE.out⟩
         |exact⟨rfl,HB.out,_,HV.out,VS.out _ _ HA.out (.SI wa.out rfl)⟩
end Go.Proofs.YteeifhlhpiimoaaGreatDoor
end
section
namespace Go.Proofs.YteeifhlhpiimoaaGreatDoor
open Go Go.RowKit Go.Shelf Go.Sort
instance:Inhabited TE:=⟨⟨aW,0⟩⟩
def qT9 (x y:TE):Int:=pk x.e y.e
theorem aa3 {x y:TE} (h:y.t<x.t):ltOf qT9 x y=cV x y:=(ML h).symm
theorem ali:SWO cV:=by
 refine⟨fun x=>?_,fun x y z h k=>?_,vH.neg⟩
 · cases q:cV x x
   · rfl
   · have:=xg.1 q;omega
 · have h1:=xg.1 h
   have h2:=xg.1 k;exact xg.2 (by omega)
theorem aaG (a:Nat):∀(j:Nat) (d:Array TE),j<d.size→(∀p,a≤p→p<j→(d[p]!).t<(d[j]!).t)→B_ (ltOf qT9) a j d=B_ cV a j d
 |0,_,_,_=>rfl
 | j +1,d,hj,h=>by
   unfold B_
   by_cases ha:j+1>a
   · rw[aa3 (h j (by omega) (by omega))]
     have ih:=aaG a j (swp d (j+1) j) (by rw[UZ];omega) fun p h1 h2=>by
      rw[U2 d (j+1) j p (by omega) (by omega),swp_right d (j+1) j (by omega)];exact h p h1 (by omega)
     rw[ih]
   · simp[ha]
theorem aaH (lt:TE→TE→Bool) (a:Nat):∀(j:Nat) (d:Array TE),a≤j→j<d.size→(B_ lt a j d).size=d.size∧(∀q,j<q→(B_ lt a j d)[q]! =d[q]!)∧∀p,a≤p→p≤j→∃p',a≤p'∧p'≤j∧(B_ lt a j d)[p]! =d[p']!
 |0,d,_,_=>⟨rfl,fun _ _=>rfl,fun p h1 h2=>⟨p,h1,h2,rfl⟩⟩
 | j + 1,d,haj,hj=>by
   unfold B_
   split
   · rename_i hc
     simp only[Bool.and_eq_true,decide_eq_true_eq] at hc;obtain⟨h1,h2,h3⟩:=aaH lt a j (swp d (j+1) j) (by omega) (by rw[UZ];omega);refine⟨by rw[h1,UZ],fun q hq=>?_,fun p hp hpj=>?_⟩
     · rw[h2 q (by omega),U2 d (j+1) j q (by omega) (by omega)]
     · by_cases yY:p=j+1
       · subst yY
         refine⟨j,by omega,by omega,?_⟩;rw[h2 (j+1) (by omega),swp_left d (j+1) j hj (by omega)]
       · obtain⟨p',q1,q2,q3⟩:=h3 p hp (by omega)
         by_cases ij:p'=j
         · subst ij
           exact⟨p'+1,by omega,by omega,by rw[q3,swp_right d (p'+1) p' (by omega)]⟩
         · exact⟨p',q1,by omega,by rw[q3,U2 d (j+1) j p' (by omega) ij]⟩
   · exact⟨rfl,fun _ _=>rfl,fun p h1 h2=>⟨p,h1,h2,rfl⟩⟩
theorem MY (lt:TE→TE→Bool) {a b i:Nat} {d:Array TE} (h:¬i<b):Eg lt a b i d=d:=by rw[Eg,if_neg h]
theorem abv (lt:TE→TE→Bool) {a b i:Nat} {d:Array TE} (h:i<b):Eg lt a b i d=Eg lt a b (i+1) (B_ lt a i d):=by rw[Eg,if_pos h]
theorem abw (a b:Nat):∀(n i:Nat) (d:Array TE),b-i=n→a<i→i≤b→b≤d.size→(∀p q,a≤p→p<q→i≤q→q<b→(d[p]!).t<(d[q]!).t)→Eg (ltOf qT9) a b i d=Eg cV a b i d
 |0,i,d,hn,_,_,_,_=>by rw[MY _ (by omega),MY _ (by omega)]
 | n +1,i,d,hn,hai,hib,hb,h=>by
   rw[abv (ltOf qT9) (by omega),abv cV (by omega),aaG a i d (by omega) fun p h1 h2=>h p i h1 h2 (aB _) (by omega)];obtain⟨k1,k2,k3⟩:=aaH cV a i d (by omega) (by omega);refine abw a b n (i+1) _ (by omega) (by omega) (by omega) (by rw[k1];exact hb) fun p q h1 h2 h3 h4=>?_;rw[k2 q (by omega)]
   by_cases hp:p≤i
   · obtain⟨p',q1,q2,q3⟩:=k3 p h1 hp
     rw[q3];exact h p' q q1 (by omega) (by omega) h4
   · rw[k2 p (by omega)];exact h p q h1 h2 (by omega) h4
theorem L5 {l:List TE} {i:Nat} {x:TE} (h:l[i]?=some x):l.toArray[i]! =x:=by
 simp[h]
theorem ako {l:List TE} {a b:Nat} (d_:a≤b) (hb:b≤l.length) (h:∀p q x y,a≤p→p<q→q<b→l[p]?=some x→l[q]?=some y→x.t<y.t):lR cV (GD (ltOf qT9) l.toArray a b).toList l a b∧(GD (ltOf qT9) l.toArray a b).size=l.length:=by
 have e1:GD (ltOf qT9) l.toArray a b=GD cV l.toArray a b:=by
  unfold GD
  by_cases hc:a<b
  · refine abw a b _ (a+1) _ rfl (by omega) (by omega) (by simpa using hb) fun p q h1 h2 h3 h4=>?_
    obtain⟨x,hx⟩:∃x,l[p]?=some x:=⟨_,bp (by omega)⟩;obtain⟨y,hy⟩:∃y,l[q]?=some y:=⟨_,bp (by omega)⟩;rw[L5 hx,L5 hy];exact h p q x y h1 h2 h4 hx hy
  · rw[MY _ (by omega),MY _ (by omega)]
 rw[e1];obtain⟨⟨h1,h2,h3⟩,h4⟩:=insertionSort_holds ali l.toArray a b d_ (by simpa using hb);obtain⟨d,hd⟩:=oQ (GD cV l.toArray a b);rw[hd] at h1 h2 h3 h4⊢;have hs:d.toList.length=l.length:=by simpa using h1
 have FF:∀k,(k<a∨b≤k)→d.toList[k]?=l[k]?:=fun k hk=>by
  by_cases ic:k<l.length
  · have:=h2 k hk
    rw[bp (by omega),bp ic];simpa[ic,show k<d.size by simpa using(by omega:k<d.toList.length)] using this
  · rw[jz (by omega),jz (by omega)]
 have hm:((d.toList.drop a).take (b-a)).Perm ((l.drop a).take (b-a)):=by
  have e2:(d.extract a b).toList=(d.toList.drop a).take (b-a):=by simp[agD]
  have e3:(l.toArray.extract a b).toList=(l.drop a).take (b-a):=by simp[agD]
  rw[e2,e3] at h3;exact h3
 have aah:∀m:List TE,b≤m.length→m=m.take a++((m.drop a).take (b-a)++m.drop b):=fun m hm=>by
  have e2:(m.drop a).take (b-a)++m.drop b=m.drop a:=by
   have:=tg (b-a) (m.drop a);rw[Vk,show a+(b-a)=b by omega] at this;exact this
  rw[e2,tg]
 have ht:d.toList.take a=l.take a:=pO fun k=>by
  rw[s9,s9]
  split
  · exact FF k (.inl ‹_›)
  · rfl
 have hdr:d.toList.drop b=l.drop b:=pO fun k=>by
  rw[s8,s8];exact FF _ (.inr (by omega))
 refine⟨⟨?_,FF,fun k hk ku=>?_,fun p q x y hp kz hq hx hy=>?_⟩,by simpa using h1⟩
 · rw[aah d.toList (by omega),aah l hb,ht,hdr]
   exact(Om _).append (hm.append (Om _))
 · obtain⟨x,hx⟩:∃x,d.toList[k]?=some x:=⟨_,bp (by omega)⟩
   have ky:x∈(d.toList.drop a).take (b-a):=List.mem_of_getElem? (i:=k-a) (by rw[s9,if_pos (by omega),s8,show a+(k-a)=k by omega];exact hx);obtain⟨j,hj,e⟩:=List.getElem_of_mem (hm.mem_iff.1 ky);have Jh:=hj;rw[gD,pP] at Jh;refine⟨a+j,by omega,by omega,?_⟩;rw[hx,←e,List.getElem_take,List.getElem_drop,bp (by omega)]
 · have qq:=(dL.1 hx).1
   have oa:=(dL.1 hy).1;have h5:=h4 p q hp kz hq;(have ex:d[p]! =x:=by have:=L5 hx;simpa using this);(have ey:d[q]! =y:=by have:=L5 hy;simpa using this);rw[ex,ey] at h5;exact h5
def lF:List af→Nat→List TE
 |[],_=>[]
 |e::l,k=>⟨e,k⟩::lF l (k+1)
theorem TH:∀(l:List af) (k:Nat),(lF l k).length=l.length
 |[],_=>rfl
 |_::l,k=>by rw[lF,eF,eF,TH l]
theorem acw:∀(l:List af) (k:Nat),(lF l k).map TE.e=l
 |[],_=>rfl
 |_::l,k=>by rw[lF,nM,acw l]
theorem Kh:∀(l:List af) (k i:Nat) (x:TE),(lF l k)[i]?=some x→x.t=k+i
 |[],_,_,_,h=>by simp[lF] at h
 |e::l,k,0,x,h=>by simp[lF] at h;subst h;rfl
 |e::l,k,i+1,x,h=>by rw[lF,List.getElem?_cons_succ] at h;have:=Kh l (k+1) i x h;omega
theorem an3 (l:List af) (k:Nat):ti cV (lF l k):=by
 unfold ti;rw[List.pairwise_iff_getElem];intro i j hi hj dh;have h1:=Kh l k i _ (bp hi);have h2:=Kh l k j _ (bp hj);obtain⟨x,hx⟩:=oQ ((lF l k)[i]);obtain⟨y,hy⟩:=oQ ((lF l k)[j]);rw[hx] at h1⊢;rw[hy] at h2⊢;rw[xg,xg];omega
theorem aaF (x:TE):∀l:List TE,(∀y∈l,y.t<x.t)→(oe cV x l).map TE.e=oe (dQ af.az af.id) x.e (l.map TE.e)
 |[],_=>rfl
 | y::l,h=>by
   (have e1:cV x y=dQ af.az af.id x.e y.e:=by rw[←aa3 (h y (List.mem_cons_self ..)),←alj];rfl);unfold oe;rw[nM];simp only;rw[e1]
   split
   · rfl
   · rw[nM,aaF x l fun z hz=>h z (List.mem_cons_of_mem _ hz)]
theorem anD (l:List af) (k:Nat) (acc:List TE) (h:∀y∈acc,y.t<k):((lF l k).foldl (fun a x=>oe cV x a) acc).map TE.e=l.foldl (fun a x=>oe (dQ af.az af.id) x a) (acc.map TE.e):=by
 induction l generalizing k acc with
 |nil=>rfl
 | cons e l ih=>
   rw[lF,agL,agL,ih (k+1) _ fun y hy=>?_,aaF _ acc h];rcases List.mem_cons.1 ((SB _ acc).mem_iff.1 hy) with rfl|hy
   · exact OC k
   · have:=h y hy;omega
theorem anH {l:List af} {m:List TE} (hp:m.Perm (lF l 0)) (hu:Up cV m):m.map TE.e=dc (dQ af.az af.id) l:=by
 rw[aco vH hu hp (an3 l 0)];exact anD l 0 [] fun y hy=>by cases hy
end Go.Proofs.YteeifhlhpiimoaaGreatDoor
end
