/-
  Contracts of package rational's reduced, Make and Of. Conditions: numbers far from overflowing; the denominator is above 0; the table of powers stands. Contracts of package rational's sum, Add, Sub and Mul. Conditions: numbers far from overflowing; the denominators are above 0; the table of powers stands. Contracts of package rational's Add, Sub and Mul. Conditions: numbers far from overflowing; the denominators are above 0; the table of powers stands. Contracts of package rational's Mul. Conditions: numbers far from overflowing; the denominators are above 0; the table of powers stands. Twelfths: contracts of package rational's Sub, Add, Compare and of package drift's isShort, reach and better at multiples of 1/12. Conditions: numbers far from overflowing; the table of powers stands. Contracts of package enclosure's Valid, Contains and Within and of package drift's Valid and better at multiples of 1/12. Conditions: numbers far from overflowing; the table of powers stands. Contract of yardstickref19.SameHistory on equal histories. Conditions: the list's bound. Contracts of package drift's Valid and better at histories of twelfths. Conditions: the points are in order and far from overflowing; the table of powers stands. Contracts of package drift's better and gap, and of the comparison inside pairs, at twelfths.
-/
import Derived.Test.YteeifhlhpiimoaaGreatDoorZAq
import Derived.Test.YteeifhlhpiimoaaGreatDoorZAa
set_option maxHeartbeats 8000000
set_option maxRecDepth 100000
section
namespace Go.Proofs.YteeifhlhpiimoaaGreatDoor
open Go Go.RowKit Go.Shelf
attribute [local go_sem] Oper.semAt_some
structure Wq (w:World) (b:Nat) (V:World):Prop where
 wk:Wk V b
 turns:Turns (fun k=>k=b) w V
 pow:Pow10 V
theorem Wq.step {w V V':World} {b:Nat} {z:ByteArray} {e:Ending} (h:Wq w b V) (hd:DoP z b V e V') (hp:Pow10 V'):Wq w b V':=⟨hd.2.1,h.turns.trans hd.2.2,hp⟩
theorem pow_turns {w V:World} {b:Nat} (hp:Pow10 w) (hw:Wk w b) (t:Turns (fun k=>k=b) w V):Pow10 V:=by
 have h:=hp;unfold Pow10 Lib.TabIs World.var? at h⊢
 cases hgg:Tryz.prog.globalNamed "internal/strconv.uint64pow10" with
 |none=>rw[hgg] at h;cases h
 | some q=>
   rw[hgg] at h;simp only[Option.bind_some] at h⊢
   cases e:w.heap[q]? with
   |none=>rw[e] at h;cases h
   | some o=>
     have hqb:q≠b:=fun eq=>by
      rw[eq,hw] at e;injection e with e;subst e;rw[eq,hw] at h
      revert h
      simp;intro h;have h2:=congrArg List.length h;simp[Lib.pow10Tab] at h2
     rw[t.block q (cells_lt e) hqb,e];rw[e] at h;exact h
theorem iT_eq0 {y:Nat} (hy:0<y) (hs:Sml (y:Int)):((iT y).toList==[48])=false:=by
 rw[beq_eq_false_iff_ne];intro h;have h1:=toList_inj (b:=⟨#[48]⟩) (h.trans (by rw[ByteArray.toList_eq]));have h2:=(iT_valid hs).2;rw[h1] at h2;have h3:valI [48]=0:=by decide+kernel
 have h4:valI (⟨#[48]⟩:ByteArray).data.toList=valI [48]:=rfl;omega
theorem icmp0 {y:Nat} (hy:0<y) (hs:Sml (y:Int)):icmpS (iT y).data.toList (⟨#[48]⟩:ByteArray).data.toList=1:=by
 have h1:=cmp0 _ (iT_valid hs).1;rw[(iT_valid hs).2] at h1;refine Eq.trans h1 ?_;unfold cmpZ';rw[if_neg (by omega),if_pos (by omega)]
theorem reduced_walk (x:Int) (y:Nat) (b:Nat) (w:World) (hw:Wk w b) (hy:0<y) (hx:Sml x) (hys:Sml (y:Int)) (hp:Pow10 w):
 Calls Tryz.prog 214 #[.pointer (some ⟨b,0,none⟩),.string (iT x),.string (iT y)] w fun e W'=>e=.returned (.tuple #[rT x y,.int .i64 0])∧Turns (fun k=>k=b) w W':=by
 have v1:=iT_valid hx;have v2:=iT_valid hys;have hg:=gcd_pos' (x:=x) hy;have hgy:Nat.gcd x.natAbs y≤y:=Nat.le_of_dvd hy (Nat.gcd_dvd_right _ _);have hn:=nZ_mul x y;have hd:((dZ x y:Nat):Int)*((Nat.gcd x.natAbs y:Nat):Int)=y:=by exact_mod_cast dZ_mul x y
 have hgs:Sml ((Nat.gcd x.natAbs y:Nat):Int):=by unfold Sml at*;omega
 have HC:=hZ (fun W=>icompare_walk (iT y) ⟨#[48]⟩ (iT_size hys) (by decide) W);rw[icmp0 hy hys] at HC;have HG:=hZ (fun W (h:Pow10 W)=>gcd_walk (iT x) (iT y) (iT_size hx) (iT_size hys) v1.1 v2.1 W h);rw[v1.2,v2.2,Int.natAbs_natCast] at HG;unfold DecP at HG;rw[iT_nat] at HG;have h0:=iT_eq0 hy hys;unfold rT;obtain⟨n,hnn⟩:=oQ (nZ x y);obtain⟨d,hdd⟩:=oQ (dZ x y);obtain⟨g,hgg⟩:=oQ (Nat.gcd x.natAbs y);rw[hgg] at HG hg hn hd hgs;rw[hnn] at hn⊢;rw[hdd] at hd⊢
 have HD1:Hid (∀W,Wq w b W→Calls Tryz.prog 215 #[.pointer (some ⟨b,0,none⟩),.func (.func 201) #[] #[],.string (iT x),.string (iT y)] W (DoP (iT g) b W)):=hZ fun W h=>
  do_walk 201 (enters_of Tryz.func201 (by kernel_rfl) rfl) (iT x) (iT y) (iT g) b W h.wk (fun V hb=>HG.out V (h.pow.below hb))
 have HD2:Hid (∀W,Wq w b W→Calls Tryz.prog 256 #[.pointer (some ⟨b,0,none⟩),.string (iT x),.string (iT g)] W (DoP (iT n) b W)):=hZ fun W h=>wquot_walk x g n b W h.wk hg hn hx hgs h.pow;have HD3:Hid (∀W,Wq w b W→Calls Tryz.prog 256 #[.pointer (some ⟨b,0,none⟩),.string (iT y),.string (iT g)] W (DoP (iT d) b W)):=hZ fun W h=>wquot_walk y g d b W h.wk hg hd hys hgs h.pow;have HPT:Hid (∀V,Turns (fun k=>k=b) w V→Pow10 V):=hZ fun V t=>pow_turns hp hw t;have HWB:Hid (b<w.heap.size):=hZ hw.lt;obtain⟨sx,hsx⟩:=oQ (iT x);obtain⟨sy,hsy⟩:=oQ (iT (y:Int));obtain⟨sg,hsg⟩:=oQ (iT (g:Int));obtain⟨sn,hsn⟩:=oQ (iT n);obtain⟨sd,hsd⟩:=oQ (iT (d:Int));rw[hsy] at HC h0 HD3;rw[hsx,hsy,hsg] at HD1;rw[hsx,hsg,hsn] at HD2;rw[hsg,hsd] at HD3;rw[hsx,hsy,hsn,hsd];obtain⟨b6,w1,q1,q2,q3,hf1,hs1⟩:=(At.start w).alloc2 (.cells #[.string ⟨#[]⟩,.string ⟨#[]⟩] 29);have HQ:=hZ (And.intro q1 q2);have HF:=hZ (hf1.has (b6,.cells #[.string ⟨#[]⟩,.string ⟨#[]⟩] 29 (0,0)) (by simp));have hb6:b6≠b:=by have:=hw.lt;omega
 have HB6:=hZ (And.intro hb6 q3);have hwk1:Wk w1 b:=(hf1.below.block b hw.lt).trans hw;have HK1:Hid (Wq w b w1):=hZ ⟨hwk1,Turns.of_below hf1.below,HPT.out _ (Turns.of_below hf1.below)⟩;have xk:w1.cell? ⟨b,0,none⟩=some (.bool false):=cells_i hwk1 rfl;rw[←q2] at xk;clear v1 v2 hg hgy hn hd hgs HG hsx hsy hsg hsn hsd hnn hdd hgg hf1 q1 q2 q3 hs1 hw hx hys hp hwk1 hb6
 go_enter Tryz.func214,Tryz.ntmps214
 go_wp2_with (first
  | (go_at_call 141;obtain⟨q1,q2⟩:=HQ.out;(rw[q1,q2]);(refine(HC.out _).mono ?_);rintro e V1 ⟨rfl,hb⟩
     have hk:Wk V1 b:=(hb.block b HK1.out.wk.lt).trans HK1.out.wk;have ht:=HK1.out.turns.trans (Turns.of_below hb);have HK2:Hid (Wq w b V1):=hZ ⟨hk,ht,HPT.out _ ht⟩;have HF2:=hZ ((hb.block b6 (cells_lt HF.out)).trans HF.out)
     clear q1 q2 hb hk ht)
  | (go_at_call 215;(refine(HD1.out _ HK2.out).mono ?_);rintro e V2 hdo;obtain⟨rfl,-,t2⟩:=id hdo
     have HK3:=hZ (HK2.out.step hdo (HPT.out _ (HK2.out.turns.trans t2)));have HF3:=hZ ((t2.block b6 (cells_lt HF2.out) HB6.out.1).trans HF2.out)
     clear hdo t2)
  | (go_at_call 256;(refine(HD2.out _ HK3.out).mono ?_);rintro e V3 hdo;obtain⟨rfl,-,t2⟩:=id hdo
     have HK4:=hZ (HK3.out.step hdo (HPT.out _ (HK3.out.turns.trans t2)));have HF4:=hZ ((t2.block b6 (cells_lt HF3.out) HB6.out.1).trans HF3.out)
     clear hdo t2 HD2)
  | (go_at_call 256;(refine(HD3.out _ HK4.out).mono ?_);rintro e V4 hdo;obtain⟨rfl,-,t2⟩:=id hdo
     have HK5:=hZ (HK4.out.step hdo (HPT.out _ (HK4.out.turns.trans t2)));have HF5:=hZ ((t2.block b6 (cells_lt HF4.out) HB6.out.1).trans HF4.out)
     clear hdo t2)
  | ((with_reducible refine wpList_store_rowN rfl 29 (.tmp 9) (.tmp 40) rfl rfl _ #[.string sn,.string sd] #[.string ⟨#[]⟩,.string ⟨#[]⟩] ?hx ?hy ?hi (World.alloc_heap_new _ _) rfl ?h1 ?_);(case hx=>rfl);(case hy=>rfl);(case hi=>kernel_rfl);(case h1=>simp[Value.oneCell']);intro V5 h5 t5
     have hb5:Below V4.heap.size V4 V5:=t5.below (below_new V4 _) (Nat.le_refl _) (fun k hk=>by omega);have hk:Wk V5 b:=(hb5.block b HK5.out.wk.lt).trans HK5.out.wk;have ht:=HK5.out.turns.trans (Turns.of_below hb5);have HK6:Hid (Wq w b V5):=hZ ⟨hk,ht,HPT.out _ ht⟩;have HF6:=hZ ((hb5.block b6 (cells_lt HF5.out)).trans HF5.out);have y0:=cells_i h5 (i:=0) rfl;have y1:=cells_i h5 (i:=1) rfl;have yk:V5.cell? ⟨b,0,none⟩=some (.bool false):=cells_i hk rfl
     clear h5 t5 hb5 hk ht)
  |((with_reducible refine wpList_store_rowN rfl 29 (.tmp 6) (.tmp 46) rfl rfl b6 #[.string sn,.string sd] #[.string ⟨#[]⟩,.string ⟨#[]⟩] ?hx ?hy ?hi HF6.out rfl ?h1 ?_);(case hx=>first|rfl|(rw[←HQ.out.1];rfl));(case hy=>rfl);(case hi=>kernel_rfl);(case h1=>simp[Value.oneCell']);intro V6 h6 t6)
  |fail)
 have hr:=range_of (cs:=[.string sn,.string sd]) h6;refine bodyPost_ret (results_celltmp rfl _ _ b6 [.string sn,.string sd] _ rfl hr Tryz.underlying29 rfl (by kernel_rfl)) rfl ⟨rfl,?_⟩;have hb6:=HB6.out;have K:=HK6.out.turns;exact⟨t6.os.trans K.os,t6.tape.trans K.tape,t6.output.trans K.output,Nat.le_trans K.size t6.size,fun k hk hz=>(t6.block k (Nat.lt_of_lt_of_le hk K.size) (by omega)).trans (K.block k hk hz)⟩
theorem make_walk (x:Int) (y:Nat) (w:World) (hy:0<y) (hx:Sml x) (hys:Sml (y:Int)) (hp:Pow10 w):
 Calls Tryz.prog 210 #[.string (iT x),.string (iT y)] w fun e W'=>e=.returned (.tuple #[rT x y,.int .i64 0])∧Below w.heap.size w W':=by
 have HV1:=hZ (fun W=>valid_walk (iT x) (iT_size hx) W);have HV2:=hZ (fun W=>valid_walk (iT y) (iT_size hys) W);rw[(iT_valid hx).1] at HV1;rw[(iT_valid hys).1] at HV2;have HRD:=hZ (fun b W (h:Wk W b) (hq:Pow10 W)=>reduced_walk x y b W h hy hx hys hq);unfold rT at HRD⊢;obtain⟨n,hnn⟩:=oQ (iT (nZ x y));obtain⟨d,hdd⟩:=oQ (iT (dZ x y:Int));obtain⟨sx,hsx⟩:=oQ (iT x);obtain⟨sy,hsy⟩:=oQ (iT (y:Int));rw[hnn,hdd,hsx,hsy] at HRD;rw[hsx] at HV1;rw[hsy] at HV2;rw[hnn,hdd,hsx,hsy];obtain⟨b4,w1,q1,q2,q3,hf1,hs1⟩:=(At.start w).alloc2 (.cells #[.string ⟨#[]⟩,.string ⟨#[]⟩] 29);have HQ:=hZ (And.intro q1 q2);have HF:=hZ hf1;have HP:=hZ hp;have HB4:=hZ q3;clear hnn hdd hsx hsy hf1 q1 q2 q3 hs1 hx hys hp
 go_enter Tryz.func210,Tryz.ntmps210
 go_wp2_with (first
  |(go_at_call 200;obtain⟨q1,q2⟩:=HQ.out;(rw[q1,q2]);((with_reducible refine(HV1.out _).mono ?_));rintro e V1 ⟨rfl,hb⟩;have HF1:=hZ (HF.out.step hb);clear q1 q2 hb HV1)
  | (go_at_call 200;((with_reducible refine(HV2.out _).mono ?_));rintro e V2 ⟨rfl,hb⟩
     have HF2:=hZ (HF1.out.step hb);obtain⟨b8,V3,r1,r2,r3,hf3,hs3⟩:=HF2.out.alloc2 (.cells #[.bool false] 243);have HR:=hZ (And.intro r1 r2);have HF3:=hZ hf3;have HB8:=hZ r3;have hk:Wk V3 b8:=hf3.has (b8,.cells #[.bool false] 243 (0,0)) (by simp);have H4:=hZ (hf3.has (b4,.cells #[.string ⟨#[]⟩,.string ⟨#[]⟩] 29 (0,0)) (by simp));have HNE:Hid (b4≠b8):=hZ (by have:=HF2.out.lt (b:=b4) (o:=.cells #[.string ⟨#[]⟩,.string ⟨#[]⟩] 29 (0,0)) (by simp);omega);have HC:=hZ (HRD.out b8 V3 hk (HP.out.below hf3.below))
     clear hb r1 r2 r3 hf3 hs3 hk HV2)
  | (go_at_call 214;obtain⟨r1,r2⟩:=HR.out;(rw[r1,r2]);((with_reducible refine HC.out.mono ?_));rintro e V4 ⟨rfl,t4⟩
     have H5:=hZ ((t4.block b4 (cells_lt H4.out) HNE.out).trans H4.out);have HT:=hZ t4
     clear r1 r2 t4)
  |((with_reducible refine wpList_store_rowN rfl 29 (.tmp 4) (.tmp 21) rfl rfl b4 #[.string n,.string d] #[.string ⟨#[]⟩,.string ⟨#[]⟩] ?hx ?hy ?hi H5.out rfl ?h1 ?_);(case hx=>first|rfl|(rw[←HQ.out.1];rfl));(case hy=>rfl);(case hi=>kernel_rfl);(case h1=>simp[Value.oneCell']);intro V6 h6 t6)
  |fail)
 have hr:=range_of (cs:=[.string n,.string d]) h6;refine bodyPost_ret (results_celltmp rfl _ _ b4 [.string n,.string d] _ rfl hr Tryz.underlying29 rfl (by kernel_rfl)) rfl ⟨rfl,?_⟩;have h8:=HB8.out;have h4:=HB4.out;exact t6.below (HT.out.below HF3.out.below (Nat.le_refl _) (fun k hk=>by omega)) (Nat.le_refl _) (fun k hk=>by omega)
theorem ratOf_walk (n m:Nat) (w:World) (hm:0<m) (hn:n≤1000000000) (hm2:m≤1000000000) (hp:Pow10 w):
 Calls Tryz.prog 145 #[.int .i64 (n:Int),.int .i64 (m:Int)] w fun e W'=>e=.returned (.tuple #[rT (n:Int) m,.int .i64 0])∧Below w.heap.size w W':=by
 have HI1:=hZ (fun W (h:Pow10 W)=>fromInt_walk n hn W h);have HI2:=hZ (fun W (h:Pow10 W)=>fromInt_walk m hm2 W h);have HM:=hZ (fun W (h:Pow10 W)=>make_walk (n:Int) m W hm (by unfold Sml;omega) (by unfold Sml;omega) h);unfold rT at HM⊢;obtain⟨u,hnn⟩:=oQ (iT (nZ n m));obtain⟨d,hdd⟩:=oQ (iT (dZ n m:Int));obtain⟨sx,hsx⟩:=oQ (iT (n:Int));obtain⟨sy,hsy⟩:=oQ (iT (m:Int));rw[hnn,hdd,hsx,hsy] at HM;rw[hsx] at HI1;rw[hsy] at HI2;rw[hnn,hdd];obtain⟨b4,w1,q1,q2,q3,hf1,hs1⟩:=(At.start w).alloc2 (.cells #[.string ⟨#[]⟩,.string ⟨#[]⟩] 29);have HQ:=hZ (And.intro q1 q2);have HF:=hZ hf1;have HP:=hZ hp;have HB4:=hZ q3;clear hnn hdd hsx hsy hf1 q1 q2 q3 hs1 hp hm hn hm2
 go_enter Tryz.func145,Tryz.ntmps145
 go_wp2_with (first
  |(go_at_call 211;obtain⟨q1,q2⟩:=HQ.out;(rw[q1,q2]);((with_reducible refine(HI1.out _ (HP.out.below HF.out.below)).mono ?_));rintro e V1 ⟨rfl,hb⟩;have HF1:=hZ (HF.out.step hb);clear q1 q2 hb HI1)
  |(go_at_call 211;((with_reducible refine(HI2.out _ (HP.out.below HF1.out.below)).mono ?_));rintro e V2 ⟨rfl,hb⟩;have HF2:=hZ (HF1.out.step hb);clear hb HI2)
  | (go_at_call 210;((with_reducible refine(HM.out _ (HP.out.below HF2.out.below)).mono ?_));rintro e V4 ⟨rfl,hb⟩
     have HF4:=hZ (HF2.out.step hb);have H5:=hZ (HF4.out.has (b4,.cells #[.string ⟨#[]⟩,.string ⟨#[]⟩] 29 (0,0)) (by simp))
     clear hb)
  |((with_reducible refine wpList_store_rowN rfl 29 (.tmp 4) (.tmp 11) rfl rfl b4 #[.string u,.string d] #[.string ⟨#[]⟩,.string ⟨#[]⟩] ?hx ?hy ?hi H5.out rfl ?h1 ?_);(case hx=>first|rfl|(rw[←HQ.out.1];rfl));(case hy=>rfl);(case hi=>kernel_rfl);(case h1=>simp[Value.oneCell']);intro V6 h6 t6)
  |fail)
 have hr:=range_of (cs:=[.string u,.string d]) h6;refine bodyPost_ret (results_celltmp rfl _ _ b4 [.string u,.string d] _ rfl hr Tryz.underlying29 rfl (by kernel_rfl)) rfl ⟨rfl,?_⟩;have h4:=HB4.out;exact t6.below HF4.out.below (Nat.le_refl _) (fun k hk=>by omega)
structure Sq (w:World) (b4 b5 b6 b8:Nat) (n1 d1 n2 d2:ByteArray) (V:World):Prop where
 h4:V.heap[b4]?=some (.cells #[.string n1,.string d1] 29 (0,0))
 h5:V.heap[b5]?=some (.cells #[.string n2,.string d2] 29 (0,0))
 h6:V.heap[b6]?=some (.cells #[.string ⟨#[]⟩,.string ⟨#[]⟩] 29 (0,0))
 wk:Wk V b8
 below:Below w.heap.size w V
 pow:Pow10 V
 n4:b4≠b8
 n5:b5≠b8
 n6:b6≠b8
 lo:w.heap.size≤b8
 lo6:w.heap.size≤b6
theorem Sq.turns {w V V':World} {b4 b5 b6 b8:Nat} {n1 d1 n2 d2:ByteArray} (h:Sq w b4 b5 b6 b8 n1 d1 n2 d2 V) (t:Turns (fun k=>k=b8) V V') (hw:Wk V' b8):Sq w b4 b5 b6 b8 n1 d1 n2 d2 V':=
 ⟨(t.block b4 (cells_lt h.h4) h.n4).trans h.h4,(t.block b5 (cells_lt h.h5) h.n5).trans h.h5,(t.block b6 (cells_lt h.h6) h.n6).trans h.h6,hw,t.below h.below (Nat.le_refl _) (fun k hk=>by have:=h.lo;omega),pow_turns h.pow h.wk t,h.n4,h.n5,h.n6,h.lo,h.lo6⟩
theorem Sq.step {w V V':World} {b4 b5 b6 b8:Nat} {n1 d1 n2 d2 z:ByteArray} {e:Ending} (h:Sq w b4 b5 b6 b8 n1 d1 n2 d2 V) (hd:DoP z b8 V e V'):Sq w b4 b5 b6 b8 n1 d1 n2 d2 V':=h.turns hd.2.2 hd.2.1
theorem Sq.cells {w V:World} {b4 b5 b6 b8:Nat} {n1 d1 n2 d2:ByteArray} (h:Sq w b4 b5 b6 b8 n1 d1 n2 d2 V):V.cell? ⟨b4,0,none⟩=some (.string n1)∧V.cell? ⟨b4,1,none⟩=some (.string d1)∧V.cell? ⟨b5,0,none⟩=some (.string n2)∧V.cell? ⟨b5,1,none⟩=some (.string d2):=
 ⟨cells_i h.h4 rfl,cells_i h.h4 rfl,cells_i h.h5 rfl,cells_i h.h5 rfl⟩
theorem sq_start (w:World) (n1 d1 n2 d2:ByteArray) (hp:Pow10 w):∃b4 b5 b6 b8 w4,w.heap.size=b4∧b4+1=b5∧b5+1=b6∧b6+1=b8∧(((w.alloc (.cells #[.string n1,.string d1] 29)).alloc (.cells #[.string n2,.string d2] 29)).alloc (.cells #[.string ⟨#[]⟩,.string ⟨#[]⟩] 29)).alloc (.cells #[.bool false] 243)=w4∧w4.heap.size=b8+1∧Sq w b4 b5 b6 b8 n1 d1 n2 d2 w4:=by
 obtain⟨b4,w1,q1,q2,q3,hf1,hs1⟩:=(At.start w).alloc2 (.cells #[.string n1,.string d1] 29);obtain⟨b5,w2,r1,r2,r3,hf2,hs2⟩:=hf1.alloc2 (.cells #[.string n2,.string d2] 29);obtain⟨b6,w3,t1,t2,t3,hf3,hs3⟩:=hf2.alloc2 (.cells #[.string ⟨#[]⟩,.string ⟨#[]⟩] 29);obtain⟨b8,w4,u1,u2,u3,hf4,hs4⟩:=hf3.alloc2 (.cells #[.bool false] 243);refine⟨b4,b5,b6,b8,w4,q1,by omega,by omega,by omega,by rw[q2,r2,t2,u2],hs4,⟨hf4.has (b4,.cells #[.string n1,.string d1] 29 (0,0)) (by simp),hf4.has (b5,.cells #[.string n2,.string d2] 29 (0,0)) (by simp),hf4.has (b6,.cells #[.string ⟨#[]⟩,.string ⟨#[]⟩] 29 (0,0)) (by simp),hf4.has (b8,.cells #[.bool false] 243 (0,0)) (by simp),hf4.below,hp.below hf4.below,by omega,by omega,by omega,u3,t3⟩⟩
structure Sm2 (x1 x2:Int) (y1 y2:Nat):Prop where
 p1:0<y1
 p2:0<y2
 a1:x1.natAbs<1000000
 a2:x2.natAbs<1000000
 b1:y1<10000
 b2:y2<10000
theorem sum_walk (f:Nat) (eg:∀args w,(callFunc f args).run Tryz.prog w=.ok (.enter f args) w) (x1 x2 r:Int) (y1 y2:Nat) (w:World) (hs:Sm2 x1 x2 y1 y2) (hr:Sml r) (hp:Pow10 w)
 (hg:∀W,Pow10 W→Calls Tryz.prog f #[.string (iT (nZ x1 y1*dZ x2 y2)),.string (iT (nZ x2 y2*dZ x1 y1))] W fun e W'=>e=.returned (.tuple #[.string (iT r),.int .i64 0])∧Below W.heap.size W W'):
 Calls Tryz.prog 147 #[.func (.func f) #[] #[],rT x1 y1,rT x2 y2] w fun e W'=>e=.returned (.tuple #[rT r (dZ x1 y1*dZ x2 y2),.int .i64 0])∧Below w.heap.size w W':=by
 have p1:=dZ_pos (x:=x1) hs.p1;have p2:=dZ_pos (x:=x2) hs.p2;have l1:=dZ_le x1 y1;have l2:=dZ_le x2 y2;have m1:=nZ_le (x:=x1) hs.p1;have m2:=nZ_le (x:=x2) hs.p2;have a1:=hs.a1;have a2:=hs.a2;have b1:=hs.b1;have b2:=hs.b2;have HCK:=hZ (fun b g c W (hw:Wk W b) (hq:Pow10 W) (hg:W.heap[g]?=some (.cells #[.string (iT (nZ x1 y1)),.string (iT (dZ x1 y1)),.string (iT (nZ x2 y2)),.string (iT (dZ x2 y2))] 29 (0,0)))=>check_walk x1 x2 y1 y2 b g c W hw hs.p1 hs.p2 (by unfold Sml;omega) (by unfold Sml;omega) (by unfold Sml;omega) (by unfold Sml;omega) hq hg);have e3:(dZ x1 y1:Int)*(dZ x2 y2:Int)=((dZ x1 y1*dZ x2 y2:Nat):Int):=by push_cast;rfl
 have hb1:(nZ x1 y1*(dZ x2 y2:Int)).natAbs<1000000*10000:=by rw[Int.natAbs_mul,Int.natAbs_natCast];exact Nat.mul_lt_mul'' (by omega) (by omega)
 have hb2:(nZ x2 y2*(dZ x1 y1:Int)).natAbs<1000000*10000:=by rw[Int.natAbs_mul,Int.natAbs_natCast];exact Nat.mul_lt_mul'' (by omega) (by omega)
 have hb3:dZ x1 y1*dZ x2 y2<10000*10000:=Nat.mul_lt_mul'' (by omega) (by omega);have p3:0<dZ x1 y1*dZ x2 y2:=Nat.mul_pos p1 p2;unfold rT;obtain⟨n1,hn1⟩:=oQ (nZ x1 y1);obtain⟨d1,hd1⟩:=oQ (dZ x1 y1);obtain⟨n2,hn2⟩:=oQ (nZ x2 y2);obtain⟨d2,hd2⟩:=oQ (dZ x2 y2);rw[hn1,hd1,hn2,hd2] at HCK hg;rw[hn1] at hb1 m1;rw[hd2] at hb1 l2 p2;rw[hn2] at hb2 m2;rw[hd1] at hb2 l1 p1;rw[hd1,hd2] at hb3 p3 e3;rw[hn1,hd1,hn2,hd2];have HRD:=hZ (fun b W (h:Wk W b) (hq:Pow10 W)=>reduced_walk r (d1*d2) b W h p3 hr (by unfold Sml;omega) hq);unfold rT at HRD;have HM1:=hZ (fun b W (h:Wk W b) (hq:Pow10 W)=>wmul_walk n1 d2 b W h (by unfold Sml;omega) (by omega) (by unfold Sml;omega) hq);have HM2:=hZ (fun b W (h:Wk W b) (hq:Pow10 W)=>wmul_walk n2 d1 b W h (by unfold Sml;omega) (by omega) (by unfold Sml;omega) hq);have HM3:=hZ (fun b W (h:Wk W b) (hq:Pow10 W)=>wmul_walk d1 d2 b W h (by unfold Sml;omega) (by omega) (by rw[e3];unfold Sml;omega) hq);rw[e3] at HM3;obtain⟨u,hu⟩:=oQ (n1*(d2:Int));obtain⟨v,hv⟩:=oQ (n2*(d1:Int));obtain⟨d3,hd3⟩:=oQ (d1*d2);rw[hu] at HM1 hg;rw[hv] at HM2 hg;rw[hd3] at HM3 HRD⊢;have HDO:=hZ (fun b W (h:Wk W b) (hq:Pow10 W)=>do_walk f eg (iT u) (iT v) (iT r) b W h (fun V hb=>hg V (hq.below hb)));obtain⟨sn1,k1⟩:=oQ (iT n1);obtain⟨sd1,k2⟩:=oQ (iT (d1:Int));obtain⟨sn2,k3⟩:=oQ (iT n2);obtain⟨sd2,k4⟩:=oQ (iT (d2:Int));obtain⟨su,k5⟩:=oQ (iT u);obtain⟨sv,k6⟩:=oQ (iT v);obtain⟨sd3,k7⟩:=oQ (iT (d3:Int));obtain⟨sr,k8⟩:=oQ (iT r);obtain⟨on,k9⟩:=oQ (iT (nZ r d3));obtain⟨od,k10⟩:=oQ (iT (dZ r d3:Int));rw[k1,k2,k3,k4] at HCK;rw[k1,k4,k5] at HM1;rw[k3,k2,k6] at HM2;rw[k2,k4,k7] at HM3;rw[k5,k6,k8] at HDO;rw[k7,k8,k9,k10] at HRD;rw[k1,k2,k3,k4,k9,k10];obtain⟨b4,b5,b6,b8,w4,q1,q2,q3,q4,q5,q6,hsq⟩:=sq_start w sn1 sd1 sn2 sd2 hp;have HQ:=hZ (And.intro q1 (And.intro q2 (And.intro q3 (And.intro q4 (And.intro q5 q6)))))
 have HS:=hZ hsq;clear p1 p2 l1 l2 m1 m2 a1 a2 b1 b2 e3 hb1 hb2 hb3 p3 hn1 hd1 hn2 hd2 hu hv hd3 k1 k2 k3 k4 k5 k6 k7 k8 k9 k10 q1 q2 q3 q4 q5 q6 hsq hs hr hp hg
 go_enter Tryz.func147,Tryz.ntmps147
 go_wp2_with (first
  | (go_at_call 212;obtain⟨q1,q2,q3,q4,q5,q6⟩:=HQ.out;(rw[q1,q2,q3,q4,q5])
     obtain⟨w5,hw5⟩:=oQ (w4.alloc (.cells #[.string sn1,.string sd1,.string sn2,.string sd2] 29));rw[hw5];(have hb5:Below w4.heap.size w4 w5:=by rw[←hw5];exact below_new _ _);(have hg5:w5.heap[b8+1]?=some (.cells #[.string sn1,.string sd1,.string sn2,.string sd2] 29 (0,0)):=by rw[←hw5,←q6];exact World.alloc_heap_new _ _);have hS5:=HS.out.turns (Turns.of_below hb5) ((hb5.block b8 (cells_lt HS.out.wk)).trans HS.out.wk)
     (refine(HCK.out b8 (b8+1) 2 w5 hS5.wk hS5.pow hg5).mono ?_);rintro e V6 ⟨rfl,hk6,t6⟩
     have HS6:=hZ (hS5.turns t6 hk6)
     clear q1 q2 q3 q4 q5 q6 hw5 hb5 hg5 hS5 hk6 t6 HCK HS)
  |fail)
 have HS7:=hZ (HS6.out.turns (Turns.drew _) HS6.out.wk);refine wp_region_noPanic ?_;refine wp_region_held_drew (S:=fun U=>U.cell? ⟨b4,0,none⟩=some (.string sn1)∧U.cell? ⟨b4,1,none⟩=some (.string sd1)∧U.cell? ⟨b5,0,none⟩=some (.string sn2)∧U.cell? ⟨b5,1,none⟩=some (.string sd2)) (by kernel_rfl) HS7.out.cells (fun hHeld=> ?_);obtain⟨Ud,hUd⟩:=oQ (V6.drew);rw[hUd] at HS7 hHeld⊢;clear hUd;refine tk 0 ?_;refine tk 1 ?_;refine tk 2 ?_;refine tk 3 ?_;refine tk 4 ?_;refine tk 5 ?_;refine tk 6 ?_;refine tk 8 ?_;refine tk 9 ?_;refine tk 10 ?_;refine tk 11 ?_;refine tk 12 ?_;refine rd [7] ?_;refine rcE fun K hK=> ?_;go_simp
 (refine(HM1.out _ _ HS7.out.wk HS7.out.pow).mono ?_)
 rintro e W7 hdo;obtain⟨rfl,-,-⟩:=id hdo;have HS8:=hZ (HS7.out.step hdo);clear hdo;refine kk hK (HS8.out.cells) (fun hHeld=> ?_);clear hK K;refine rd [13] ?_;refine rcE fun K hK=> ?_;go_simp
 (refine(HM2.out _ _ HS8.out.wk HS8.out.pow).mono ?_)
 rintro e W8 hdo;obtain⟨rfl,-,-⟩:=id hdo;have HS8b:=hZ (HS8.out.step hdo);clear hdo;refine kk hK (HS8b.out.cells) (fun hHeld=> ?_);clear hK K;refine rd [14] ?_;refine rcE fun K hK=> ?_;go_simp
 (refine(HDO.out _ _ HS8b.out.wk HS8b.out.pow).mono ?_)
 rintro e W9 hdo;obtain⟨rfl,-,-⟩:=id hdo;have HS9:=hZ (HS8b.out.step hdo);clear hdo;refine kk hK (HS9.out.cells) (fun hHeld=> ?_);clear hK K;refine tk 15 ?_;refine dn ?_;obtain⟨y1c,y2c,y3c,y4c⟩:=hHeld
 go_wp2_with (first
  | (go_at_call 213;(refine(HM3.out _ _ HS9.out.wk HS9.out.pow).mono ?_);rintro e V10 hdo;obtain⟨rfl,-,-⟩:=id hdo
     have HSa:=hZ (HS9.out.step hdo)
     clear hdo)
  | (go_at_call 214;(refine(HRD.out _ _ HSa.out.wk HSa.out.pow).mono ?_);rintro e V11 ⟨rfl,t11⟩
     have H6:=hZ ((t11.block b6 (cells_lt HSa.out.h6) HSa.out.n6).trans HSa.out.h6);have HB:=hZ (t11.below HSa.out.below (Nat.le_refl _) (fun k hk=>by have:=HSa.out.lo;omega))
     clear t11)
  |((with_reducible refine wpList_store_rowN rfl 29 (.tmp 6) (.tmp 41) rfl rfl b6 #[.string on,.string od] #[.string ⟨#[]⟩,.string ⟨#[]⟩] ?hx ?hy ?hi H6.out rfl ?h1 ?_);(case hx=>first|rfl|(obtain⟨q1,q2,q3,-⟩:=HQ.out;rw[←q3,←q2,←q1];rfl));(case hy=>rfl);(case hi=>kernel_rfl);(case h1=>simp[Value.oneCell']);intro V12 h12 t12)
  |fail)
 have hrr:=range_of (cs:=[.string on,.string od]) h12;refine bodyPost_ret (results_celltmp rfl _ _ b6 [.string on,.string od] _ rfl hrr Tryz.underlying29 rfl (by kernel_rfl)) rfl ⟨rfl,?_⟩;have hlo:=HSa.out.lo6;exact t12.below HB.out (Nat.le_refl _) (fun k hk=>by omega)
theorem cross12 {x1 x2:Int} {y1 y2:Nat} (op:Int→Int→Int) (hop:∀a b c,op a b*c=op (a*c) (b*c)):op (nZ x1 y1*dZ x2 y2) (nZ x2 y2*dZ x1 y1)*((y1*y2:Nat):Int)=op (x1*y2) (x2*y1)*((dZ x1 y1*dZ x2 y2:Nat):Int):=by
 have h1:=nd_cross (x:=x1) (y:=y1);have h2:=nd_cross (x:=x2) (y:=y2);rw[hop,hop]
 congr 1
 · push_cast
   calc nZ x1 y1*dZ x2 y2*(y1*y2)=(nZ x1 y1*y1)*(dZ x2 y2*y2):=by rw[Int.mul_assoc,Int.mul_assoc];congr 1;rw[Int.mul_left_comm]
    _=(x1*dZ x1 y1)*(dZ x2 y2*y2):=by rw[h1]
    _=x1*y2*(dZ x1 y1*dZ x2 y2):=by rw[Int.mul_assoc,Int.mul_assoc];congr 1;rw[Int.mul_comm (dZ x2 y2:Int) y2,Int.mul_left_comm]
 · push_cast
   calc nZ x2 y2*dZ x1 y1*(y1*y2)=(nZ x2 y2*y2)*(dZ x1 y1*y1):=by rw[Int.mul_assoc,Int.mul_assoc];congr 1;rw[Int.mul_comm (y1:Int) y2,Int.mul_left_comm]
    _=(x2*dZ x2 y2)*(dZ x1 y1*y1):=by rw[h2]
    _=x2*y1*(dZ x1 y1*dZ x2 y2):=by rw[Int.mul_assoc,Int.mul_assoc];congr 1;rw[Int.mul_comm (dZ x1 y1:Int) y1,Int.mul_left_comm,Int.mul_comm (dZ x2 y2:Int)]
theorem radd_walk (x1 x2:Int) (y1 y2:Nat) (w:World) (hs:Sm2 x1 x2 y1 y2) (hp:Pow10 w):
 Calls Tryz.prog 95 #[rT x1 y1,rT x2 y2] w fun e W'=>e=.returned (.tuple #[rT (x1*y2+x2*y1) (y1*y2),.int .i64 0])∧Below w.heap.size w W':=by
 have p1:=dZ_pos (x:=x1) hs.p1;have p2:=dZ_pos (x:=x2) hs.p2;have l1:=dZ_le x1 y1;have l2:=dZ_le x2 y2;have m1:=nZ_le (x:=x1) hs.p1;have m2:=nZ_le (x:=x2) hs.p2;have a1:=hs.a1;have a2:=hs.a2;have b1:=hs.b1;have b2:=hs.b2;have hb1:(nZ x1 y1*(dZ x2 y2:Int)).natAbs<1000000*10000:=by rw[Int.natAbs_mul,Int.natAbs_natCast];exact Nat.mul_lt_mul'' (by omega) (by omega)
 have hb2:(nZ x2 y2*(dZ x1 y1:Int)).natAbs<1000000*10000:=by rw[Int.natAbs_mul,Int.natAbs_natCast];exact Nat.mul_lt_mul'' (by omega) (by omega)
 have hcr:=cross12 (x1:=x1) (x2:=x2) (y1:=y1) (y2:=y2) (fun a b=>a+b) (fun a b c=>Int.add_mul a b c);have he:=rT_eq (Nat.mul_pos p1 p2) (Nat.mul_pos hs.p1 hs.p2) hcr;have hsm:=sum_walk 149 (enters_of Tryz.func149 (by kernel_rfl) rfl) x1 x2 (nZ x1 y1*dZ x2 y2+nZ x2 y2*dZ x1 y1) y1 y2
 have hg:∀W,Pow10 W→Calls Tryz.prog 149 #[.string (iT (nZ x1 y1*dZ x2 y2)),.string (iT (nZ x2 y2*dZ x1 y1))] W fun e W'=>e=.returned (.tuple #[.string (iT (nZ x1 y1*dZ x2 y2+nZ x2 y2*dZ x1 y1)),.int .i64 0])∧Below W.heap.size W W':=fun W h=>by
  have s1:Sml (nZ x1 y1*(dZ x2 y2:Int)):=by unfold Sml;omega
  have s2:Sml (nZ x2 y2*(dZ x1 y1:Int)):=by unfold Sml;omega
  have v1:=iT_valid s1;have v2:=iT_valid s2;have h1:=iadd_walk (iT (nZ x1 y1*dZ x2 y2)) (iT (nZ x2 y2*dZ x1 y1)) (iT_size s1) (iT_size s2) v1.1 v2.1 (by rw[v1.2,v2.2];exact dec18 (by omega)) W h;rw[v1.2,v2.2] at h1;exact h1
 have HSM:=hZ (fun W (h:Pow10 W)=>hsm W hs (by unfold Sml;omega) h hg);rw[show rT (nZ x1 y1*dZ x2 y2+nZ x2 y2*dZ x1 y1) (dZ x1 y1*dZ x2 y2)=rT (x1*y2+x2*y1) (y1*y2) from he] at HSM;clear hcr he hsm hg hb1 hb2 p1 p2 l1 l2 m1 m2 a1 a2 b1 b2 hs;unfold rT at HSM⊢;obtain⟨n1,h1⟩:=oQ (iT (nZ x1 y1));obtain⟨d1,h2⟩:=oQ (iT (dZ x1 y1:Int));obtain⟨n2,h3⟩:=oQ (iT (nZ x2 y2));obtain⟨d2,h4⟩:=oQ (iT (dZ x2 y2:Int));obtain⟨on,h5⟩:=oQ (iT (nZ (x1*y2+x2*y1) (y1*y2)));obtain⟨od,h6⟩:=oQ (iT (dZ (x1*y2+x2*y1) (y1*y2):Int));rw[h1,h2,h3,h4,h5,h6] at HSM;rw[h1,h2,h3,h4,h5,h6];obtain⟨b2,w1,q1,q2,q3,hf1,hs1⟩:=(At.start w).alloc2 (.cells #[.string n1,.string d1] 29);obtain⟨b3,w2,r1,r2,r3,hf2,hs2⟩:=hf1.alloc2 (.cells #[.string n2,.string d2] 29);obtain⟨b4,w3,t1,t2,t3,hf3,hs3⟩:=hf2.alloc2 (.cells #[.string ⟨#[]⟩,.string ⟨#[]⟩] 29);have HQ:=hZ (And.intro q1 (And.intro (hs1.symm.trans r1) (And.intro (hs2.symm.trans t1) (show((w.alloc (.cells #[.string n1,.string d1] 29)).alloc (.cells #[.string n2,.string d2] 29)).alloc (.cells #[.string ⟨#[]⟩,.string ⟨#[]⟩] 29)=w3 by rw[q2,r2,t2]))));have HF:=hZ hf3;have HP:=hZ hp;have HLO:=hZ t3;clear h1 h2 h3 h4 h5 h6 q1 q2 q3 hf1 hs1 r1 r2 r3 hf2 hs2 t1 t2 t3 hf3 hs3 hp
 go_enter Tryz.func95,Tryz.ntmps95
 go_wp2_with (first
  | (go_at_call 147;obtain⟨q1,q2,q3,q4⟩:=HQ.out;(rw[q4]);((with_reducible refine(HSM.out _ (HP.out.below HF.out.below)).mono ?_));rintro e V4 ⟨rfl,hb⟩
     have HF4:=hZ (HF.out.step hb);have H5:=hZ (HF4.out.has (b4,.cells #[.string ⟨#[]⟩,.string ⟨#[]⟩] 29 (0,0)) (by simp))
     clear q1 q2 q3 q4 hb)
  |((with_reducible refine wpList_store_rowN rfl 29 (.tmp 4) (.tmp 9) rfl rfl b4 #[.string on,.string od] #[.string ⟨#[]⟩,.string ⟨#[]⟩] ?hx ?hy ?hi H5.out rfl ?h1 ?_);(case hx=>first|rfl|(obtain⟨q1,q2,q3,-⟩:=HQ.out;rw[←q3,←q2,←q1];rfl));(case hy=>rfl);(case hi=>kernel_rfl);(case h1=>simp[Value.oneCell']);intro V6 h6 t6)
  |fail)
 have hr:=range_of (cs:=[.string on,.string od]) h6;obtain⟨q1,q2,q3,-⟩:=HQ.out;rw[q1,q2,q3];clear q1 q2 q3;refine bodyPost_ret (results_celltmp rfl _ _ b4 [.string on,.string od] _ rfl hr Tryz.underlying29 rfl (by kernel_rfl)) rfl ⟨rfl,?_⟩;have h4:=HLO.out;rw[←HQ.out.1];exact t6.below HF4.out.below (Nat.le_refl _) (fun k hk=>by omega)
theorem rsub_walk (x1 x2:Int) (y1 y2:Nat) (w:World) (hs:Sm2 x1 x2 y1 y2) (hp:Pow10 w):
 Calls Tryz.prog 94 #[rT x1 y1,rT x2 y2] w fun e W'=>e=.returned (.tuple #[rT (x1*y2-x2*y1) (y1*y2),.int .i64 0])∧Below w.heap.size w W':=by
 have p1:=dZ_pos (x:=x1) hs.p1;have p2:=dZ_pos (x:=x2) hs.p2;have l1:=dZ_le x1 y1;have l2:=dZ_le x2 y2;have m1:=nZ_le (x:=x1) hs.p1;have m2:=nZ_le (x:=x2) hs.p2;have a1:=hs.a1;have a2:=hs.a2;have b1:=hs.b1;have b2:=hs.b2;have hb1:(nZ x1 y1*(dZ x2 y2:Int)).natAbs<1000000*10000:=by rw[Int.natAbs_mul,Int.natAbs_natCast];exact Nat.mul_lt_mul'' (by omega) (by omega)
 have hb2:(nZ x2 y2*(dZ x1 y1:Int)).natAbs<1000000*10000:=by rw[Int.natAbs_mul,Int.natAbs_natCast];exact Nat.mul_lt_mul'' (by omega) (by omega)
 have hcr:=cross12 (x1:=x1) (x2:=x2) (y1:=y1) (y2:=y2) (fun a b=>a-b) (fun a b c=>Int.sub_mul a b c);have he:=rT_eq (Nat.mul_pos p1 p2) (Nat.mul_pos hs.p1 hs.p2) hcr;have hsm:=sum_walk 148 (enters_of Tryz.func148 (by kernel_rfl) rfl) x1 x2 (nZ x1 y1*dZ x2 y2-nZ x2 y2*dZ x1 y1) y1 y2
 have hg:∀W,Pow10 W→Calls Tryz.prog 148 #[.string (iT (nZ x1 y1*dZ x2 y2)),.string (iT (nZ x2 y2*dZ x1 y1))] W fun e W'=>e=.returned (.tuple #[.string (iT (nZ x1 y1*dZ x2 y2-nZ x2 y2*dZ x1 y1)),.int .i64 0])∧Below W.heap.size W W':=fun W h=>by
  have s1:Sml (nZ x1 y1*(dZ x2 y2:Int)):=by unfold Sml;omega
  have s2:Sml (nZ x2 y2*(dZ x1 y1:Int)):=by unfold Sml;omega
  have v1:=iT_valid s1;have v2:=iT_valid s2;have h1:=isub_walk (iT (nZ x1 y1*dZ x2 y2)) (iT (nZ x2 y2*dZ x1 y1)) (iT_size s1) (iT_size s2) v1.1 v2.1 (by rw[v1.2,v2.2];exact dec18 (by omega)) W h;rw[v1.2,v2.2] at h1;exact h1
 have HSM:=hZ (fun W (h:Pow10 W)=>hsm W hs (by unfold Sml;omega) h hg);rw[show rT (nZ x1 y1*dZ x2 y2-nZ x2 y2*dZ x1 y1) (dZ x1 y1*dZ x2 y2)=rT (x1*y2-x2*y1) (y1*y2) from he] at HSM;clear hcr he hsm hg hb1 hb2 p1 p2 l1 l2 m1 m2 a1 a2 b1 b2 hs;unfold rT at HSM⊢;obtain⟨n1,h1⟩:=oQ (iT (nZ x1 y1));obtain⟨d1,h2⟩:=oQ (iT (dZ x1 y1:Int));obtain⟨n2,h3⟩:=oQ (iT (nZ x2 y2));obtain⟨d2,h4⟩:=oQ (iT (dZ x2 y2:Int));obtain⟨on,h5⟩:=oQ (iT (nZ (x1*y2-x2*y1) (y1*y2)));obtain⟨od,h6⟩:=oQ (iT (dZ (x1*y2-x2*y1) (y1*y2):Int));rw[h1,h2,h3,h4,h5,h6] at HSM;rw[h1,h2,h3,h4,h5,h6];obtain⟨b2,w1,q1,q2,q3,hf1,hs1⟩:=(At.start w).alloc2 (.cells #[.string n1,.string d1] 29);obtain⟨b3,w2,r1,r2,r3,hf2,hs2⟩:=hf1.alloc2 (.cells #[.string n2,.string d2] 29);obtain⟨b4,w3,t1,t2,t3,hf3,hs3⟩:=hf2.alloc2 (.cells #[.string ⟨#[]⟩,.string ⟨#[]⟩] 29);have HQ:=hZ (And.intro q1 (And.intro (hs1.symm.trans r1) (And.intro (hs2.symm.trans t1) (show((w.alloc (.cells #[.string n1,.string d1] 29)).alloc (.cells #[.string n2,.string d2] 29)).alloc (.cells #[.string ⟨#[]⟩,.string ⟨#[]⟩] 29)=w3 by rw[q2,r2,t2]))));have HF:=hZ hf3;have HP:=hZ hp;have HLO:=hZ t3;clear h1 h2 h3 h4 h5 h6 q1 q2 q3 hf1 hs1 r1 r2 r3 hf2 hs2 t1 t2 t3 hf3 hs3 hp
 go_enter Tryz.func94,Tryz.ntmps94
 go_wp2_with (first
  | (go_at_call 147;obtain⟨q1,q2,q3,q4⟩:=HQ.out;(rw[q4]);((with_reducible refine(HSM.out _ (HP.out.below HF.out.below)).mono ?_));rintro e V4 ⟨rfl,hb⟩
     have HF4:=hZ (HF.out.step hb);have H5:=hZ (HF4.out.has (b4,.cells #[.string ⟨#[]⟩,.string ⟨#[]⟩] 29 (0,0)) (by simp))
     clear q1 q2 q3 q4 hb)
  |((with_reducible refine wpList_store_rowN rfl 29 (.tmp 4) (.tmp 9) rfl rfl b4 #[.string on,.string od] #[.string ⟨#[]⟩,.string ⟨#[]⟩] ?hx ?hy ?hi H5.out rfl ?h1 ?_);(case hx=>first|rfl|(obtain⟨q1,q2,q3,-⟩:=HQ.out;rw[←q3,←q2,←q1];rfl));(case hy=>rfl);(case hi=>kernel_rfl);(case h1=>simp[Value.oneCell']);intro V6 h6 t6)
  |fail)
 have hr:=range_of (cs:=[.string on,.string od]) h6;obtain⟨q1,q2,q3,-⟩:=HQ.out;rw[q1,q2,q3];clear q1 q2 q3;refine bodyPost_ret (results_celltmp rfl _ _ b4 [.string on,.string od] _ rfl hr Tryz.underlying29 rfl (by kernel_rfl)) rfl ⟨rfl,?_⟩;have h4:=HLO.out;rw[←HQ.out.1];exact t6.below HF4.out.below (Nat.le_refl _) (fun k hk=>by omega)
theorem rmul0_walk (x1 x2:Int) (y1 y2:Nat) (w:World) (hs:Sm2 x1 x2 y1 y2) (hx2:x2.natAbs<10000) (hp:Pow10 w):
 Calls Tryz.prog 146 #[rT x1 y1,rT x2 y2] w fun e W'=>e=.returned (.tuple #[rT (nZ x1 y1*nZ x2 y2) (dZ x1 y1*dZ x2 y2),.int .i64 0])∧Below w.heap.size w W':=by
 have p1:=dZ_pos (x:=x1) hs.p1;have p2:=dZ_pos (x:=x2) hs.p2;have l1:=dZ_le x1 y1;have l2:=dZ_le x2 y2;have m1:=nZ_le (x:=x1) hs.p1;have m2:=nZ_le (x:=x2) hs.p2;have a1:=hs.a1;have a2:=hs.a2;have b1:=hs.b1;have b2:=hs.b2;have HCK:=hZ (fun b g c W (hw:Wk W b) (hq:Pow10 W) (hg:W.heap[g]?=some (.cells #[.string (iT (nZ x1 y1)),.string (iT (dZ x1 y1)),.string (iT (nZ x2 y2)),.string (iT (dZ x2 y2))] 29 (0,0)))=>check_walk x1 x2 y1 y2 b g c W hw hs.p1 hs.p2 (by unfold Sml;omega) (by unfold Sml;omega) (by unfold Sml;omega) (by unfold Sml;omega) hq hg);have e3:(dZ x1 y1:Int)*(dZ x2 y2:Int)=((dZ x1 y1*dZ x2 y2:Nat):Int):=by push_cast;rfl
 have hb1:(nZ x1 y1*nZ x2 y2).natAbs<1000000*10000:=by rw[Int.natAbs_mul];exact Nat.mul_lt_mul'' (by omega) (by omega)
 have hb3:dZ x1 y1*dZ x2 y2<10000*10000:=Nat.mul_lt_mul'' (by omega) (by omega);have p3:0<dZ x1 y1*dZ x2 y2:=Nat.mul_pos p1 p2;unfold rT;obtain⟨n1,hn1⟩:=oQ (nZ x1 y1);obtain⟨d1,hd1⟩:=oQ (dZ x1 y1);obtain⟨n2,hn2⟩:=oQ (nZ x2 y2);obtain⟨d2,hd2⟩:=oQ (dZ x2 y2);rw[hn1,hd1,hn2,hd2] at HCK;rw[hn1,hn2] at hb1;rw[hn1] at m1;rw[hd2] at l2 p2;rw[hn2] at m2;rw[hd1] at l1 p1;rw[hd1,hd2] at hb3 p3 e3;rw[hn1,hd1,hn2,hd2];have HRD:=hZ (fun b W (h:Wk W b) (hq:Pow10 W)=>reduced_walk (n1*n2) (d1*d2) b W h p3 (by unfold Sml;omega) (by unfold Sml;omega) hq);unfold rT at HRD;have HM1:=hZ (fun b W (h:Wk W b) (hq:Pow10 W)=>wmul_walk n1 n2 b W h (by unfold Sml;omega) (by omega) (by unfold Sml;omega) hq);have HM3:=hZ (fun b W (h:Wk W b) (hq:Pow10 W)=>wmul_walk d1 d2 b W h (by unfold Sml;omega) (by omega) (by rw[e3];unfold Sml;omega) hq);rw[e3] at HM3;obtain⟨u,hu⟩:=oQ (n1*n2);obtain⟨d3,hd3⟩:=oQ (d1*d2);rw[hu] at HM1 HRD⊢;rw[hd3] at HM3 HRD⊢;obtain⟨sn1,k1⟩:=oQ (iT n1);obtain⟨sd1,k2⟩:=oQ (iT (d1:Int));obtain⟨sn2,k3⟩:=oQ (iT n2);obtain⟨sd2,k4⟩:=oQ (iT (d2:Int));obtain⟨su,k5⟩:=oQ (iT u);obtain⟨sd3,k7⟩:=oQ (iT (d3:Int));obtain⟨on,k9⟩:=oQ (iT (nZ u d3));obtain⟨od,k10⟩:=oQ (iT (dZ u d3:Int));rw[k1,k2,k3,k4] at HCK;rw[k1,k3,k5] at HM1;rw[k2,k4,k7] at HM3;rw[k7,k5,k9,k10] at HRD;rw[k1,k2,k3,k4,k9,k10];obtain⟨b4,b5,b6,b8,w4,q1,q2,q3,q4,q5,q6,hsq⟩:=sq_start w sn1 sd1 sn2 sd2 hp;have HQ:=hZ (And.intro q1 (And.intro q2 (And.intro q3 (And.intro q4 (And.intro q5 q6)))));have HS:=hZ hsq;clear p1 p2 l1 l2 m1 m2 a1 a2 b1 b2 e3 hb1 hb3 p3 hn1 hd1 hn2 hd2 hu hd3 k1 k2 k3 k4 k5 k7 k9 k10 q1 q2 q3 q4 q5 q6 hsq hs hp hx2
 go_enter Tryz.func146,Tryz.ntmps146
 go_wp2_with (first
  | (go_at_call 212;obtain⟨q1,q2,q3,q4,q5,q6⟩:=HQ.out;(rw[q1,q2,q3,q4,q5])
     obtain⟨w5,hw5⟩:=oQ (w4.alloc (.cells #[.string sn1,.string sd1,.string sn2,.string sd2] 29));rw[hw5];(have hb5:Below w4.heap.size w4 w5:=by rw[←hw5];exact below_new _ _);(have hg5:w5.heap[b8+1]?=some (.cells #[.string sn1,.string sd1,.string sn2,.string sd2] 29 (0,0)):=by rw[←hw5,←q6];exact World.alloc_heap_new _ _);have hS5:=HS.out.turns (Turns.of_below hb5) ((hb5.block b8 (cells_lt HS.out.wk)).trans HS.out.wk)
     (refine(HCK.out b8 (b8+1) 2 w5 hS5.wk hS5.pow hg5).mono ?_);rintro e V6 ⟨rfl,hk6,t6⟩
     have HS7:=hZ (hS5.turns t6 hk6);obtain⟨y1c,y2c,y3c,y4c⟩:=HS7.out.cells
     clear q1 q2 q3 q4 q5 q6 hw5 hb5 hg5 hS5 hk6 t6 HCK HS)
  | (go_at_call 213;(refine(HM1.out _ _ HS7.out.wk HS7.out.pow).mono ?_);rintro e V8 hdo;obtain⟨rfl,-,-⟩:=id hdo
     have HS9:=hZ (HS7.out.step hdo);obtain⟨y1c,y2c,y3c,y4c⟩:=HS9.out.cells
     clear hdo HM1)
  | (go_at_call 213;(refine(HM3.out _ _ HS9.out.wk HS9.out.pow).mono ?_);rintro e V10 hdo;obtain⟨rfl,-,-⟩:=id hdo
     have HSa:=hZ (HS9.out.step hdo)
     clear hdo)
  | (go_at_call 214;(refine(HRD.out _ _ HSa.out.wk HSa.out.pow).mono ?_);rintro e V11 ⟨rfl,t11⟩
     have H6:=hZ ((t11.block b6 (cells_lt HSa.out.h6) HSa.out.n6).trans HSa.out.h6);have HB:=hZ (t11.below HSa.out.below (Nat.le_refl _) (fun k hk=>by have:=HSa.out.lo;omega))
     clear t11)
  |((with_reducible refine wpList_store_rowN rfl 29 (.tmp 4) (.tmp 30) rfl rfl b6 #[.string on,.string od] #[.string ⟨#[]⟩,.string ⟨#[]⟩] ?hx ?hy ?hi H6.out rfl ?h1 ?_);(case hx=>first|rfl|(obtain⟨q1,q2,q3,-⟩:=HQ.out;rw[←q3,←q2,←q1];rfl));(case hy=>rfl);(case hi=>kernel_rfl);(case h1=>simp[Value.oneCell']);intro V12 h12 t12)
  |fail)
 have hrr:=range_of (cs:=[.string on,.string od]) h12;refine bodyPost_ret (results_celltmp rfl _ _ b6 [.string on,.string od] _ rfl hrr Tryz.underlying29 rfl (by kernel_rfl)) rfl ⟨rfl,?_⟩;have hlo:=HSa.out.lo6;exact t12.below HB.out (Nat.le_refl _) (fun k hk=>by omega)
def nB (N:Int):ByteArray:=iT (nZ N 12)
def dB (N:Int):ByteArray:=iT (dZ N 12)
abbrev tV (N:Int):Value:=.agg #[.string (nB N),.string (dB N)]
abbrev S12 (N:Int):Prop:=N.natAbs<60000
theorem sm12 {N M:Int} (h:S12 N) (k:S12 M):Sm2 N M 12 12:=⟨by decide,by decide,by unfold S12 at*;omega,by unfold S12 at*;omega,by decide,by decide⟩
theorem tV_of {x:Int} {y:Nat} {N:Int} (hy:0<y) (h:x*12=N*y):rT x y=tV N:=rT_eq hy (by decide) h
theorem sub12 (N M:Int) (w:World) (h:S12 N) (k:S12 M) (hp:Pow10 w):Calls Tryz.prog 94 #[tV N,tV M] w fun e W'=>e=.returned (.tuple #[tV (N-M),.int .i64 0])∧Below w.heap.size w W':=by
 have h1:=rsub_walk N M 12 12 w (sm12 h k) hp;rw[tV_of (by decide) (show(N*((12:Nat):Int)-M*((12:Nat):Int))*12=(N-M)*((12*12:Nat):Int) by push_cast;omega)] at h1;exact h1
theorem add12 (N M:Int) (w:World) (h:S12 N) (k:S12 M) (hp:Pow10 w):Calls Tryz.prog 95 #[tV N,tV M] w fun e W'=>e=.returned (.tuple #[tV (N+M),.int .i64 0])∧Below w.heap.size w W':=by
 have h1:=radd_walk N M 12 12 w (sm12 h k) hp;rw[tV_of (by decide) (show(N*((12:Nat):Int)+M*((12:Nat):Int))*12=(N+M)*((12*12:Nat):Int) by push_cast;omega)] at h1;exact h1
theorem sml12 {N:Int} (h:S12 N):Sml N:=by unfold S12 Sml at*;omega
theorem smlN {N:Int} (h:S12 N):Sml (nZ N 12):=by have:=nZ_le (x:=N) (y:=12) (by decide);unfold S12 Sml at*;omega
theorem smlD (N:Int):Sml ((dZ N 12:Nat):Int):=by have:=dZ_le N 12;unfold Sml;omega
theorem cmp12_eq {N M:Int}:cmpZ (nZ N 12*dZ M 12) (nZ M 12*dZ N 12)=cmpZ N M:=by
 have h1:=nd_cross (x:=N) (y:=12);have h2:=nd_cross (x:=M) (y:=12);have p1:(0:Int)<dZ N 12:=by have:=dZ_pos (x:=N) (y:=12) (by decide);omega
 have p2:(0:Int)<dZ M 12:=by have:=dZ_pos (x:=M) (y:=12) (by decide);omega
 have e1:(nZ N 12*dZ M 12)*12=N*(dZ N 12*dZ M 12):=by rw[Int.mul_right_comm,show(12:Int)=((12:Nat):Int) by rfl,h1,Int.mul_assoc]
 have e2:(nZ M 12*dZ N 12)*12=M*(dZ N 12*dZ M 12):=by rw[Int.mul_right_comm,show(12:Int)=((12:Nat):Int) by rfl,h2,Int.mul_assoc,Int.mul_comm (dZ M 12:Int)]
 have pp:(0:Int)<(dZ N 12:Int)*dZ M 12:=Int.mul_pos p1 p2;rcases Int.lt_trichotomy N M with h|h|h
 · rw[cmpZ_lt h]
   have:=Int.mul_lt_mul_of_pos_right h pp;exact cmpZ_lt (by omega)
 · subst h;exact(cmpZ_eq (by omega)).trans (cmpZ_eq rfl).symm
 · rw[cmpZ_gt h]
   have:=Int.mul_lt_mul_of_pos_right h pp;exact cmpZ_gt (by omega)
theorem cmp12 (N M:Int) (w:World) (h:S12 N) (k:S12 M) (hp:Pow10 w):Calls Tryz.prog 90 #[tV N,tV M] w fun e w'=>e=.returned (.int .i64 (cmpZ N M))∧Below w.heap.size w w':=by
 have h1:=rcompare_yes (nB N) (dB N) (nB M) (dB M) (iT_size (smlN h)) (iT_size (smlD N)) (iT_size (smlN k)) (iT_size (smlD M)) (rat_ok' (by decide) (sml12 h) (by decide)) (rat_ok' (by decide) (sml12 k) (by decide)) w hp;unfold nB dB at h1;rw[(iT_valid (smlN h)).2,(iT_valid (smlD N)).2,(iT_valid (smlN k)).2,(iT_valid (smlD M)).2,cmp12_eq] at h1;exact h1
theorem strip_iT (z:Int):stripM (intS z)=decS z.natAbs:=by
 unfold intS
 split
 · rw[strip_cons,if_pos rfl]
 · exact strip_digits (decS_dig _)
theorem strip_len {z:Int} (h:Sml z):(stripM (iT z).data.toList).length≤40:=by
 rw[iT_list,strip_iT];exact Nat.le_trans (decS_len 18 _ (by decide) (by simpa using h)) (by decide)
theorem iT_len {z:Int} (h:Sml z):(iT z).size≤40:=by
 have e:(iT z).size=(intS z).length:=by simp[iT,ByteArray.size]
 have:=decS_len 18 z.natAbs (by decide) (by simpa using h);rw[e];unfold intS
 split<;>simp<;>omega
theorem short12 (N:Int) (w:World) (h:S12 N) (hp:Pow10 w):Calls Tryz.prog 89 #[tV N] w (ValP w true):=by
 have htp:=fun W=>Tryz.strings_TrimPrefix (nB N) ⟨#[45]⟩ W;rw[show(⟨#[45]⟩:ByteArray).data.toList=[45] from rfl,trimPrefix_strip] at htp;have hT0:=strip_len (smlN h);have hd:(dB N).size≤40:=iT_len (smlD N);have HV:=hZ (fun W (hq:Pow10 W)=>rvalid_walk (nB N) (dB N) (iT_size (smlN h)) (iT_size (smlD N)) W hq);rw[show ratOk (nB N).data.toList (dB N).data.toList=true from rat_ok' (by decide) (sml12 h) (by decide)] at HV;obtain⟨T,hT⟩:∃T:ByteArray,(⟨(stripM (nB N).data.toList).toArray⟩:ByteArray)=T:=⟨_,rfl⟩;rw[hT] at htp;have hts:T.size≤40:=by rw[←hT];exact hT0
 have HTP:=hZ htp;unfold tV;obtain⟨n,hn⟩:=oQ (nB N);obtain⟨d,hdd⟩:=oQ (dB N);rw[hn] at HTP;rw[hn,hdd] at HV;rw[hdd] at hd;rw[hn,hdd];have i1:decide (T.size≤40)=true:=by simp[hts]
 have i2:decide (d.size≤40)=true:=by simp[hd]
 have i3:decide ((T.size:Int)≤40)=true:=by simp;omega
 have i4:decide ((d.size:Int)≤40)=true:=by simp;omega
 obtain⟨b1,w1,q1,q2,q3,hf1,hs1⟩:=(At.start w).alloc2 (.cells #[.string n,.string d] 29);have HQ:=hZ (And.intro q1 q2);have HF:=hZ hf1;have HP:=hZ hp;clear htp hT0 hT hts hd hn hdd q1 q2 q3 hf1 hs1 hp h
 go_enter Tryz.func89,Tryz.ntmps89
 go_wp2_with (first
  | (go_at_call 138;obtain⟨q1,q2⟩:=HQ.out;(rw[q1,q2]);((with_reducible refine(HV.out _ (HP.out.below HF.out.below)).mono ?_));rintro e V1 ⟨rfl,hb⟩
     have HF1:=hZ (HF.out.step hb);have y0:=HF1.out.cell (b:=b1) (cs:=#[.string n,.string d]) (t:=29) (by simp) (i:=0) rfl;have y1:=HF1.out.cell (b:=b1) (cs:=#[.string n,.string d]) (t:=29) (by simp) (i:=1) rfl
     clear q1 q2 hb)
  |(go_at_call 139;(with_reducible refine(HTP.out _).mono ?_);rintro e w1 ⟨rfl,rfl⟩)
  |fail)
 go_ret;exact⟨rfl,HF1.out.below⟩
theorem reach12 (t:Nat) (w:World) (ht:t<10000) (hp:Pow10 w):Calls Tryz.prog 93 #[tV 3,.int .i64 (t:Int)] w fun e W'=>e=.returned (.tuple #[tV (3*t),.int .i64 0])∧Below w.heap.size w W':=by
 have HO:Hid (∀W,Pow10 W→Calls Tryz.prog 145 #[.int .i64 (t:Int),.int .i64 1] W fun e W'=>e=.returned (.tuple #[rT (t:Int) 1,.int .i64 0])∧Below W.heap.size W W'):=hZ (fun W h=>ratOf_walk t 1 W (by decide) (by omega) (by decide) h)
 have hc:rT (nZ 3 12*nZ (t:Int) 1) (dZ 3 12*dZ (t:Int) 1)=tV (3*t):=by
  refine tV_of (Nat.mul_pos (dZ_pos (by decide)) (dZ_pos (by decide))) ?_;have h1:=nd_cross (x:=3) (y:=12);have h2:=nd_cross (x:=(t:Int)) (y:=1)
  push_cast at h1 h2⊢
  rw[Int.mul_one] at h2;rw[h2]
  calc nZ 3 12*(t*dZ (t:Int) 1)*12=(nZ 3 12*12)*(t*dZ (t:Int) 1):=by rw[Int.mul_right_comm]
   _=(3*dZ 3 12)*(t*dZ (t:Int) 1):=by rw[h1]
   _=3*t*(dZ 3 12*dZ (t:Int) 1):=by rw[Int.mul_assoc,Int.mul_assoc];congr 1;rw[Int.mul_left_comm]
 have HM:=hZ (fun W (h:Pow10 W)=>rmul0_walk 3 (t:Int) 12 1 W ⟨by decide,by decide,by decide,by omega,by decide,by decide⟩ (by omega) h);rw[hc] at HM;clear hc;have e1:rT 3 12=tV 3:=rfl;rw[e1] at HM;have e2:rT (t:Int) 1=.agg #[.string (iT (nZ t 1)),.string (iT (dZ t 1))]:=rfl;rw[e2] at HM HO;unfold tV at HM⊢;obtain⟨rn,h1⟩:=oQ (nB 3);obtain⟨rd,h2⟩:=oQ (dB 3);obtain⟨tn,h3⟩:=oQ (iT (nZ (t:Int) 1));obtain⟨td,h4⟩:=oQ (iT (dZ (t:Int) 1:Int));obtain⟨on,h5⟩:=oQ (nB (3*t));obtain⟨od,h6⟩:=oQ (dB (3*t));rw[h3,h4] at HO;rw[h1,h2,h3,h4,h5,h6] at HM;rw[h1,h2,h5,h6];obtain⟨b2,w1,q1,q2,q3,hf1,hs1⟩:=(At.start w).alloc2 (.cells #[.string rn,.string rd] 29);obtain⟨b4,w2,r1,r2,r3,hf2,hs2⟩:=hf1.alloc2 (.cells #[.string ⟨#[]⟩,.string ⟨#[]⟩] 29);have HQ:=hZ (And.intro q1 (And.intro (hs1.symm.trans r1) (show(w.alloc (.cells #[.string rn,.string rd] 29)).alloc (.cells #[.string ⟨#[]⟩,.string ⟨#[]⟩] 29)=w2 by rw[q2,r2])));have HF:=hZ hf2;have HP:=hZ hp;have HLO:=hZ r3;clear h1 h2 h3 h4 h5 h6 e1 e2 q1 q2 q3 hf1 hs1 r1 r2 r3 hf2 hs2 hp ht
 go_enter Tryz.func93,Tryz.ntmps93
 go_wp2_with (first
  | (go_at_call 145;obtain⟨q1,q2,q3⟩:=HQ.out;(rw[q3]);((with_reducible refine(HO.out _ (HP.out.below HF.out.below)).mono ?_));rintro e V4 ⟨rfl,hb⟩
     have HF4:=hZ (HF.out.step hb)
     clear q1 q2 q3 hb)
  | ((with_reducible refine wpList_store_rowN rfl 29 (.tmp 6) (.tmp 11) rfl rfl _ #[.string tn,.string td] #[.string ⟨#[]⟩,.string ⟨#[]⟩] ?hx ?hy ?hi (World.alloc_heap_new _ _) rfl ?h1 ?_);(case hx=>rfl);(case hy=>rfl);(case hi=>kernel_rfl);(case h1=>simp[Value.oneCell']);intro V5 h5 t5
     have hb5:Below V4.heap.size V4 V5:=t5.below (below_new V4 _) (Nat.le_refl _) (fun k hk=>by omega);have HF5:=hZ (HF4.out.step hb5);have y0:=cells_i h5 (i:=0) rfl;have y1:=cells_i h5 (i:=1) rfl;have y2:=HF5.out.cell (b:=b2) (cs:=#[.string rn,.string rd]) (t:=29) (by simp) (i:=0) rfl;have y3:=HF5.out.cell (b:=b2) (cs:=#[.string rn,.string rd]) (t:=29) (by simp) (i:=1) rfl;have q1:=HQ.out.1
     clear h5 t5 hb5)
  | (go_at_call 146;((with_reducible refine(HM.out _ (HP.out.below HF5.out.below)).mono ?_));rintro e V6 ⟨rfl,hb⟩
     have HF6:=hZ (HF5.out.step hb);have H4:=hZ (HF6.out.has (b4,.cells #[.string ⟨#[]⟩,.string ⟨#[]⟩] 29 (0,0)) (by simp))
     clear hb)
  |((with_reducible refine wpList_store_rowN rfl 29 (.tmp 4) (.tmp 20) rfl rfl b4 #[.string on,.string od] #[.string ⟨#[]⟩,.string ⟨#[]⟩] ?hx ?hy ?hi H4.out rfl ?h1 ?_);(case hx=>first|rfl|(obtain⟨q1,q2,q3⟩:=HQ.out;rw[←q2,←q1];rfl));(case hy=>rfl);(case hi=>kernel_rfl);(case h1=>simp[Value.oneCell']);intro V7 h7 t7)
  |fail)
 have hr:=range_of (cs:=[.string on,.string od]) h7;have hlo:=HLO.out;have hfin:Below w.heap.size w V7:=t7.below HF6.out.below (Nat.le_refl _) (fun k hk=>by omega);have HFIN:=hZ hfin;clear hfin;rw[HQ.out.2.1];refine bodyPost_ret (results_celltmp rfl _ _ b4 [.string on,.string od] _ rfl hr Tryz.underlying29 rfl (by kernel_rfl)) rfl ⟨rfl,HFIN.out⟩
abbrev iV (lo hi:Int):Value:=.agg #[.string (nB lo),.string (dB lo),.string (nB hi),.string (dB hi)]
theorem cmpZ_le {N M:Int}:decide (cmpZ N M≤0)=decide (N≤M):=by
 rcases Int.lt_trichotomy N M with h|h|h
 · rw[cmpZ_lt h];simp;omega
 · rw[cmpZ_eq h];simp;omega
 · rw[cmpZ_gt h];simp;omega
theorem valid12 (lo hi:Int) (w:World) (h:S12 lo) (k:S12 hi) (hp:Pow10 w):Calls Tryz.prog 91 #[iV lo hi] w (ValP w (decide (lo≤hi))):=by
 have h1:=evalid_walk (nB lo) (dB lo) (nB hi) (dB hi) (iT_size (smlN h)) (iT_size (smlD lo)) (iT_size (smlN k)) (iT_size (smlD hi)) w hp
 have h2:encOk (nB lo).data.toList (dB lo).data.toList (nB hi).data.toList (dB hi).data.toList=decide (lo≤hi):=by
  have r1:ratOk (nB lo).data.toList (dB lo).data.toList=true:=rat_ok' (by decide) (sml12 h) (by decide);have r2:ratOk (nB hi).data.toList (dB hi).data.toList=true:=rat_ok' (by decide) (sml12 k) (by decide);unfold encOk;rw[r1,r2];unfold nB dB;rw[(iT_valid (smlN h)).2,(iT_valid (smlD lo)).2,(iT_valid (smlN k)).2,(iT_valid (smlD hi)).2,cmp12_eq,cmpZ_le];simp
 rw[h2] at h1;exact h1
theorem rv12 (N:Int) (w:World) (h:S12 N) (hp:Pow10 w):Calls Tryz.prog 138 #[tV N] w (ValP w true):=by
 have h1:=rvalid_walk (nB N) (dB N) (iT_size (smlN h)) (iT_size (smlD N)) w hp;rw[show ratOk (nB N).data.toList (dB N).data.toList=true from rat_ok' (by decide) (sml12 h) (by decide)] at h1;exact h1
theorem contains12 (lo hi r:Int) (w:World) (h:S12 lo) (k:S12 hi) (hr:S12 r) (h1:lo≤r) (h2:r≤hi) (hp:Pow10 w):Calls Tryz.prog 97 #[iV lo hi,tV r] w (ValP w true):=by
 have HV:=hZ (fun W (q:Pow10 W)=>valid12 lo hi W h k q);rw[decide_eq_true (show lo≤hi by omega)] at HV;have HR:=hZ (fun W (q:Pow10 W)=>rv12 r W hr q);have HC1:=hZ (fun W (q:Pow10 W)=>cmp12 lo r W h hr q);have HC2:=hZ (fun W (q:Pow10 W)=>cmp12 r hi W hr k q);obtain⟨z1,hz1⟩:=oQ (cmpZ lo r);obtain⟨z2,hz2⟩:=oQ (cmpZ r hi);have d1:decide (z1≤0)=true:=by rw[←hz1,cmpZ_le];simp[h1]
 have d2:decide (z2≤0)=true:=by rw[←hz2,cmpZ_le];simp[h2]
 rw[hz1] at HC1;rw[hz2] at HC2;unfold iV tV at*;obtain⟨a,e1⟩:=oQ (nB lo);obtain⟨b,e2⟩:=oQ (dB lo);obtain⟨c,e3⟩:=oQ (nB hi);obtain⟨d,e4⟩:=oQ (dB hi);obtain⟨p,e5⟩:=oQ (nB r);obtain⟨q,e6⟩:=oQ (dB r);rw[e1,e2,e3,e4] at HV;rw[e5,e6] at HR;rw[e1,e2,e5,e6] at HC1;rw[e3,e4,e5,e6] at HC2;rw[e1,e2,e3,e4,e5,e6];obtain⟨b2,w1,q1,q2,q3,hf1,hs1⟩:=(At.start w).alloc2 (.cells #[.string a,.string b,.string c,.string d] 31);obtain⟨b3,w2,r1,r2,r3,hf2,hs2⟩:=hf1.alloc2 (.cells #[.string p,.string q] 29);have HQ:=hZ (And.intro q1 (And.intro (hs1.symm.trans r1) (show(w.alloc (.cells #[.string a,.string b,.string c,.string d] 31)).alloc (.cells #[.string p,.string q] 29)=w2 by rw[q2,r2])));have HF:=hZ hf2;have HP:=hZ hp
 have HX:Hid (∀U,At w U [(b3,.cells #[.string p,.string q] 29 (0,0)),(b2,.cells #[.string a,.string b,.string c,.string d] 31 (0,0))]→(U.cell? ⟨b2,0,none⟩=some (.string a)∧U.cell? ⟨b2,1,none⟩=some (.string b)∧U.cell? ⟨b2,2,none⟩=some (.string c)∧U.cell? ⟨b2,3,none⟩=some (.string d))∧U.cell? ⟨b3,0,none⟩=some (.string p)∧U.cell? ⟨b3,1,none⟩=some (.string q)):=hZ fun U h=>by
  have k1:=h.has (b2,.cells #[.string a,.string b,.string c,.string d] 31 (0,0)) (by simp);have k2:=h.has (b3,.cells #[.string p,.string q] 29 (0,0)) (by simp);exact⟨⟨cells_i k1 rfl,cells_i k1 rfl,cells_i k1 rfl,cells_i k1 rfl⟩,cells_i k2 rfl,cells_i k2 rfl⟩
 clear e1 e2 e3 e4 e5 e6 hz1 hz2 h1 h2 h k hr q1 q2 q3 hf1 hs1 r1 r2 r3 hf2 hs2 hp
 go_enter Tryz.func97,Tryz.ntmps97
 go_wp2_with (first
  |(go_at_call 91;obtain⟨q1,q2,q3⟩:=HQ.out;(rw[q1,q2,q3]);((with_reducible refine(HV.out _ (HP.out.below HF.out.below)).mono ?_));rintro e V1 ⟨rfl,hb⟩;have HF1:=hZ (HF.out.step hb);obtain⟨⟨y1,y2,y3,y4⟩,y5,y6⟩:=HX.out _ HF1.out;clear q1 q2 q3 hb)
  |(go_at_call 138;((with_reducible refine(HR.out _ (HP.out.below HF1.out.below)).mono ?_));rintro e V2 ⟨rfl,hb⟩;have HF2:=hZ (HF1.out.step hb);obtain⟨⟨y1,y2,y3,y4⟩,y5,y6⟩:=HX.out _ HF2.out;clear hb)
  |(go_at_call 90;((with_reducible refine(HC1.out _ (HP.out.below HF2.out.below)).mono ?_));rintro e V3 ⟨rfl,hb⟩;have HF3:=hZ (HF2.out.step hb);obtain⟨⟨y1,y2,y3,y4⟩,y5,y6⟩:=HX.out _ HF3.out;clear hb HC1)
  |(go_at_call 90;((with_reducible refine(HC2.out _ (HP.out.below HF3.out.below)).mono ?_));rintro e V4 ⟨rfl,hb⟩;have HF4:=hZ (HF3.out.step hb);clear hb)
  |fail)
 go_ret;exact⟨rfl,HF4.out.below⟩
theorem within12 (lo hi lo' hi':Int) (w:World) (h:S12 lo) (k:S12 hi) (h':S12 lo') (k':S12 hi') (h0:lo≤hi) (h1:lo'≤lo) (h2:hi≤hi') (hp:Pow10 w):Calls Tryz.prog 47 #[iV lo hi,iV lo' hi'] w (ValP w true):=by
 have HV:=hZ (fun W (q:Pow10 W)=>valid12 lo hi W h k q);rw[decide_eq_true h0] at HV;have HC1:=hZ (fun W (q:Pow10 W)=>contains12 lo' hi' lo W h' k' h h1 (by omega) q);have HC2:=hZ (fun W (q:Pow10 W)=>contains12 lo' hi' hi W h' k' k (by omega) h2 q);unfold iV tV at*;obtain⟨a,e1⟩:=oQ (nB lo);obtain⟨b,e2⟩:=oQ (dB lo);obtain⟨c,e3⟩:=oQ (nB hi);obtain⟨d,e4⟩:=oQ (dB hi);obtain⟨p,e5⟩:=oQ (nB lo');obtain⟨q,e6⟩:=oQ (dB lo');obtain⟨r,e7⟩:=oQ (nB hi');obtain⟨s,e8⟩:=oQ (dB hi');rw[e1,e2,e3,e4] at HV;rw[e1,e2,e5,e6,e7,e8] at HC1;rw[e3,e4,e5,e6,e7,e8] at HC2;rw[e1,e2,e3,e4,e5,e6,e7,e8];obtain⟨b2,w1,q1,q2,q3,hf1,hs1⟩:=(At.start w).alloc2 (.cells #[.string a,.string b,.string c,.string d] 31);obtain⟨b3,w2,r1,r2,r3,hf2,hs2⟩:=hf1.alloc2 (.cells #[.string p,.string q,.string r,.string s] 31);have HQ:=hZ (And.intro q1 (And.intro (hs1.symm.trans r1) (show(w.alloc (.cells #[.string a,.string b,.string c,.string d] 31)).alloc (.cells #[.string p,.string q,.string r,.string s] 31)=w2 by rw[q2,r2])));have HF:=hZ hf2;have HP:=hZ hp
 have HX:Hid (∀U,At w U [(b3,.cells #[.string p,.string q,.string r,.string s] 31 (0,0)),(b2,.cells #[.string a,.string b,.string c,.string d] 31 (0,0))]→(U.cell? ⟨b2,0,none⟩=some (.string a)∧U.cell? ⟨b2,1,none⟩=some (.string b)∧U.cell? ⟨b2,2,none⟩=some (.string c)∧U.cell? ⟨b2,3,none⟩=some (.string d))∧U.cell? ⟨b3,0,none⟩=some (.string p)∧U.cell? ⟨b3,1,none⟩=some (.string q)∧U.cell? ⟨b3,2,none⟩=some (.string r)∧U.cell? ⟨b3,3,none⟩=some (.string s)):=hZ fun U h=>by
  have k1:=h.has (b2,.cells #[.string a,.string b,.string c,.string d] 31 (0,0)) (by simp);have k2:=h.has (b3,.cells #[.string p,.string q,.string r,.string s] 31 (0,0)) (by simp);exact⟨⟨cells_i k1 rfl,cells_i k1 rfl,cells_i k1 rfl,cells_i k1 rfl⟩,cells_i k2 rfl,cells_i k2 rfl,cells_i k2 rfl,cells_i k2 rfl⟩
 clear e1 e2 e3 e4 e5 e6 e7 e8 h0 h1 h2 h k h' k' q1 q2 q3 hf1 hs1 r1 r2 r3 hf2 hs2 hp
 go_enter Tryz.func47,Tryz.ntmps47
 go_wp2_with (first
  |(go_at_call 91;obtain⟨q1,q2,q3⟩:=HQ.out;(rw[q1,q2,q3]);((with_reducible refine(HV.out _ (HP.out.below HF.out.below)).mono ?_));rintro e V1 ⟨rfl,hb⟩;have HF1:=hZ (HF.out.step hb);obtain⟨⟨y1,y2,y3,y4⟩,y5,y6,y7,y8⟩:=HX.out _ HF1.out;clear q1 q2 q3 hb)
  |(go_at_call 97;((with_reducible refine(HC1.out _ (HP.out.below HF1.out.below)).mono ?_));rintro e V2 ⟨rfl,hb⟩;have HF2:=hZ (HF1.out.step hb);obtain⟨⟨y1,y2,y3,y4⟩,y5,y6,y7,y8⟩:=HX.out _ HF2.out;clear hb HC1)
  |(go_at_call 97;((with_reducible refine(HC2.out _ (HP.out.below HF2.out.below)).mono ?_));rintro e V3 ⟨rfl,hb⟩;have HF3:=hZ (HF2.out.step hb);clear hb)
  |fail)
 go_ret;exact⟨rfl,HF3.out.below⟩
theorem guard_ratN (x y:Operand) (cs ds:Array Value) (W:World):(eqGuard .neq 29 x y (.agg cs) (.agg ds)).run Tryz.prog W=.ok () W:=by kernel_rfl
theorem guard_ptN (x y:Operand) (cs ds:Array Value) (W:World):(eqGuard .neq 86 x y (.agg cs) (.agg ds)).run Tryz.prog W=.ok () W:=by kernel_rfl
theorem neq_rat (a b:ByteArray) (W:World):(binOp .neq 29 (.agg #[.string a,.string b]) (.agg #[.string a,.string b])).run Tryz.prog W=.ok (.bool false) W:=by
 go_simp
theorem neq_pt (p:Pt) (W:World):(binOp .neq 86 (.agg (ptC p).toArray) (.agg (ptC p).toArray)).run Tryz.prog W=.ok (.bool false) W:=by
 obtain⟨a,b,c,d,e⟩:=p;unfold ptC;simp only[];go_simp
theorem step_neq {P:Program} {ops:Array Oper} {rest:List Oper} {o:Oper} {a:Act} {w:World} {Q:Exit→Act→World→Prop} (hgd:o.guard=none) (t t':TypeId) (x y:Operand) (ho:o.op=.binOp .neq t x y t') (u v:Value) (hx:a.eval x=u) (hy:a.eval y=v) (b:Bool)
 (hgr:(eqGuard .neq t x y u v).run P w=.ok () w) (hr:(binOp .neq t u v).run P w=.ok (.bool b) w) (h:wpList P ops Q rest (a.put o.dst (.bool b)) w):wpList P ops Q (o::rest) a w:=
 wpList_plain hgd fun _ hK=>by
  have h2:=hK _ _ h;unfold Oper.wp execOp;simp only[ho,hx,hy];simp only[Sem.run_bind,Sem.run_pure,hgr,hr,Result.andThen_ok];exact h2
theorem sameHist_walk (rn rd:ByteArray) (l:List Pt) (A A2:Option Addr) (n c c2:Nat) (hn:l.length=n) (hm:n≤maxLen) (w:World) (hA:RowAt w ptC 5 A l) (hA2:RowAt w ptC 5 A2 l):
 Calls Tryz.prog 26 #[.agg #[.string rn,.string rd,.slice A n c],.agg #[.string rn,.string rd,.slice A2 n c2]] w (ValP w true):=by
 have hm':n≤9223372036854775807:=by unfold maxLen at hm;omega
 have HA:=hZ hA;have HA2:=hZ hA2;have HN:=hZ hn;clear hA hA2 hn hm
 go_enter Tryz.func26,Tryz.ntmps26
 go_wp2_with (first
  |((with_reducible refine step_neq rfl 29 29 (.tmp 7) (.tmp 9) rfl (.agg #[.string rn,.string rd]) (.agg #[.string rn,.string rd]) ?hx ?hy false (guard_ratN _ _ _ _ _) (neq_rat _ _ _) ?_);(case hx=>rfl);(case hy=>rfl))
  |fail)
 have HF0:=hZ (At.start w);obtain⟨b1,w1,q1,q2,q3,hf1,hs1⟩:=HF0.out.alloc2 (.cells #[.string rn,.string rd,.slice A n c] 58);obtain⟨b2,w2,r1,r2,r3,hf2,hs2⟩:=hf1.alloc2 (.cells #[.string rn,.string rd,.slice A2 n c2] 58);rw[hs1] at r1;rw[q1,q2,r1,r2];have HF:=hZ hf2;clear HF0 q1 q2 q3 hf1 hs1 r1 r2 r3 hf2 hs2
 go_loopw [5] (fun v wr=> ∃i:Nat,v=.int .i64 (i:Int)∧i≤n∧Hid (At w wr [(b2,.cells #[.string rn,.string rd,.slice A2 n c2] 58 (0,0)),(b1,.cells #[.string rn,.string rd,.slice A n c] 58 (0,0))])) (fun v _=>n-(intOf v).toNat)
 case atStart=>exact⟨0,rfl,Nat.zero_le _,HF⟩
 case round=>
  clear HF;obtain⟨i,rfl,hi,HF⟩:=hrel;have x1:=HF.out.cell (b:=b1) (cs:=#[.string rn,.string rd,.slice A n c]) (t:=58) (by simp) (i:=2) rfl
  by_cases hlt:i<n
  · obtain⟨e,he⟩:∃e,l[i]?=some e:=⟨_,List.getElem?_eq_getElem (by rw[HN.out];exact hlt)⟩
    obtain⟨ba,hAb,-,hrg⟩:=(HA.out.below HF.out.below) i e he;obtain⟨bb,hAb',-,hrg'⟩:=(HA2.out.below HF.out.below) i e he;subst hAb hAb';have x2:=HF.out.cell (b:=b2) (cs:=#[.string rn,.string rd,.slice (some ⟨bb,0,none⟩) n c2]) (t:=58) (by simp) (i:=2) rfl;(have d1:decide (i<n)=true:=by simp[hlt]);(have z1:(0:Int)≤(i:Int):=by omega);(have z2:(i:Int)<(n:Int):=by omega);(have wk:IntKind.i64.wrap ((i:Int)+1)=((i+1:Nat):Int):=by rw[IntKind.wrap_i64];omega);have hS0:wr.drew.cell? ⟨b1,2,none⟩=some (.slice (some ⟨ba,0,none⟩) n c)∧wr.drew.cell? ⟨b2,2,none⟩=some (.slice (some ⟨bb,0,none⟩) n c2)∧World.rangeAt wr.drew ba (i*5) (ptC e)∧World.rangeAt wr.drew bb (i*5) (ptC e):=⟨x1,x2,hrg,hrg'⟩;have HFd:=hZ HF.out.drew;clear he hrg hrg' HF;go_wp2_with fail;refine wp_region_noPanic ?_;refine wp_region_held_drew (S:=fun U=>U.cell? ⟨b1,2,none⟩=some (.slice (some ⟨ba,0,none⟩) n c)∧U.cell? ⟨b2,2,none⟩=some (.slice (some ⟨bb,0,none⟩) n c2)∧World.rangeAt U ba (i*5) (ptC e)∧World.rangeAt U bb (i*5) (ptC e)) (by kernel_rfl) hS0 (fun hHeld=> ?_);refine tk 0 ?_;refine tk 1 ?_;refine tk 2 ?_;refine tk 3 ?_;refine tl 4 rfl (yieldsIf_load_mid (by rfl) 86 (.tmp 30) rfl ba (i*5) (by rfl) (ptC e) _ (fun w hw=>hw.2.2.1) Tryz.underlying86 rfl (by kernel_rfl)) ?_;refine tk 5 ?_;refine tk 6 ?_;refine tk 7 ?_;refine tk 8 ?_;refine tl 9 rfl (yieldsIf_load_mid (by rfl) 86 (.tmp 35) rfl bb (i*5) (by rfl) (ptC e) _ (fun w hw=>hw.2.2.2) Tryz.underlying86 rfl (by kernel_rfl)) ?_;refine tl 10 rfl (yields_neq (by rfl) 86 86 (.tmp 31) (.tmp 36) (by rfl) (.agg (ptC e).toArray) (.agg (ptC e).toArray) (by rfl) (by rfl) false (fun w=>guard_ptN _ _ _ _ w) (fun w=>neq_pt e w)) ?_;refine dn ?_;clear hHeld hS0 x1 x2;go_wp2_with fail
    go_round
    case rel=>exact⟨i+1,rfl,by omega,HFd⟩
    case measure=>simp[intOf];omega
  · have d1:decide (i<n)=false:=by simp;omega
    go_wp2_with fail;go_ret;exact⟨rfl,HF.out.below⟩
structure D3 where
 tm:Int
 lo:Int
 hi:Int
def D3.pt (d:D3):Pt:=⟨d.tm,nB d.lo,dB d.lo,nB d.hi,dB d.hi⟩
structure D3.Ok (d:D3):Prop where
 t0:0≤d.tm
 t1:d.tm≤1000
 lo:d.lo.natAbs≤1000
 hi:d.hi.natAbs≤1000
 le:d.lo≤d.hi
theorem D3.Ok.slo {d:D3} (h:d.Ok):S12 d.lo:=by have:=h.lo;unfold S12;omega
theorem D3.Ok.shi {d:D3} (h:d.Ok):S12 d.hi:=by have:=h.hi;unfold S12;omega
structure HiAt (w:World) (A:Option Addr) (n:Nat) (l:List D3):Prop where
 row:RowAt w ptC 5 A (l.map D3.pt)
 len:l.length=n
 few:n≤20
 ok:∀d∈l,d.Ok
 up:l.Pairwise fun a b=>a.tm≤b.tm
theorem HiAt.below {w W:World} {A:Option Addr} {n:Nat} {l:List D3} (h:HiAt w A n l) (hb:Below w.heap.size w W):HiAt W A n l:=⟨h.row.below hb,h.len,h.few,h.ok,h.up⟩
abbrev hV (A:Option Addr) (n c:Nat):Value:=.agg #[.string (nB 3),.string (dB 3),.slice A n c]
theorem HiAt.get {w:World} {A:Option Addr} {n:Nat} {l:List D3} (h:HiAt w A n l) {i:Nat} (hi:i<n):∃d b,l[i]?=some d∧d.Ok∧A=some ⟨b,0,none⟩∧∀W,Below w.heap.size w W→W.rangeAt b (i*5) (ptC d.pt):=by
 have hl:i<l.length:=by rw[h.len];exact hi
 have h1:(l.map D3.pt)[i]?=some l[i].pt:=by simp[hl]
 obtain⟨b,hA,-,-⟩:=h.row i _ h1;refine⟨l[i],b,List.getElem?_eq_getElem hl,h.ok _ (List.getElem_mem hl),hA,fun W hb=> ?_⟩;obtain⟨b',hA',-,h3⟩:=(h.row.below hb) i _ h1;rw[hA] at hA';cases hA';exact h3
theorem zero12:nB 0=⟨#[48]⟩∧dB 0=⟨#[49]⟩:=by
 have e1:nZ 0 12=0:=by decide
 have e2:dZ 0 12=1:=by decide
 unfold nB dB;rw[e1,e2];constructor
 · exact bytes_ext (by simp[iT,intS,decS])
 · exact bytes_ext (by simp[iT,intS,decS])
theorem dvalid_walk (l:List D3) (A:Option Addr) (n c:Nat) (w:World) (h:HiAt w A n l) (hp:Pow10 w):Calls Tryz.prog 44 #[hV A n c] w (ValP w true):=by
 have HSR:=hZ (fun W (q:Pow10 W)=>short12 3 W (by decide) q);have HCR:=hZ (fun W (q:Pow10 W)=>cmp12 3 0 W (by decide) (by decide) q);rw[show cmpZ 3 0=1 by decide] at HCR;unfold tV at HSR HCR;rw[zero12.1,zero12.2] at HCR;have HH:=hZ h;have hn64:n≤20:=h.few;have d0:decide ((64:Int)<(n:Int))=false:=by simp;omega
 have HG:=hZ (fun i (hi:i<n)=>h.get hi)
 have HUP:Hid (∀i a b,l[i]?=some a→l[i+1]?=some b→a.tm≤b.tm):=hZ (fun i a b ha hb=>by
  obtain⟨h1,rfl⟩:=List.getElem?_eq_some_iff.1 ha;obtain⟨h2,rfl⟩:=List.getElem?_eq_some_iff.1 hb
  exact List.pairwise_iff_getElem.1 h.up i (i+1) h1 h2 (by omega))
 obtain⟨rn,e1⟩:=oQ (nB 3);obtain⟨rd,e2⟩:=oQ (dB 3);unfold hV;rw[e1,e2] at HSR HCR⊢;obtain⟨b1,w1,q1,q2,q3,hf1,hs1⟩:=(At.start w).alloc2 (.cells #[.string rn,.string rd,.slice A n c] 58);have HQ:=hZ (And.intro q1 q2);have HF:=hZ hf1;have HP:=hZ hp
 have HX:Hid (∀U,At w U [(b1,.cells #[.string rn,.string rd,.slice A n c] 58 (0,0))]→U.cell? ⟨b1,0,none⟩=some (.string rn)∧U.cell? ⟨b1,1,none⟩=some (.string rd)∧U.cell? ⟨b1,2,none⟩=some (.slice A n c)):=hZ fun U h=>by
  have k1:=h.has (b1,.cells #[.string rn,.string rd,.slice A n c] 58 (0,0)) (by simp);exact⟨cells_i k1 rfl,cells_i k1 rfl,cells_i k1 rfl⟩
 have IL:=fun d:D3=>hZ (show(Tryz.prog.info? 86).map (·.size)=some (ptC d.pt).length by kernel_rfl);clear e1 e2 q1 q2 q3 hf1 hs1 hp h
 go_enter Tryz.func44,Tryz.ntmps44
 go_wp2_with (first
  |(go_at_call 89;obtain⟨q1,q2⟩:=HQ.out;(rw[q1,q2]);((with_reducible refine(HSR.out _ (HP.out.below HF.out.below)).mono ?_));rintro e V1 ⟨rfl,hb⟩;have HF1:=hZ (HF.out.step hb);obtain⟨y1,y2,y3⟩:=HX.out _ HF1.out;clear q1 q2 hb)
  |(go_at_call 90;((with_reducible refine(HCR.out _ (HP.out.below HF1.out.below)).mono ?_));rintro e V2 ⟨rfl,hb⟩;have HF2:=hZ (HF1.out.step hb);obtain⟨y1,y2,y3⟩:=HX.out _ HF2.out;clear hb HCR)
  |fail)
 clear HSR HF HF1 y1 y2 y3
 go_loopw [3,26] (fun v u wr=> ∃(i:Nat) (z:Int),v=.int .i64 z∧u=.int .i64 (i:Int)∧i≤n∧0≤z∧Hid (∀d,l[i]?=some d→z≤d.tm)∧Hid (At w wr [(b1,.cells #[.string rn,.string rd,.slice A n c] 58 (0,0))])) (fun _ u _=>n-(intOf u).toNat)
 case atStart=>exact⟨0,0,rfl,rfl,Nat.zero_le _,by omega,hZ (fun d hd=>(HH.out.ok d (List.mem_of_getElem? hd)).t0),HF2⟩
 case round=>
  clear HF2;obtain⟨i,z,rfl,rfl,hi,hz,HZ,HF⟩:=hrel
  by_cases hlt:i<n
  · obtain⟨d,b,hd,hok,hA,hrg⟩:=HG.out i hlt
    subst hA;(have d1:decide (i<n)=true:=by simp[hlt]);(have z1:(0:Int)≤(i:Int):=by omega);(have z2:(i:Int)<(n:Int):=by omega);(have wk:IntKind.i64.wrap ((i:Int)+1)=((i+1:Nat):Int):=by rw[IntKind.wrap_i64];omega);have hzd:=HZ.out d hd;have HRG:=hZ (hrg wr HF.out.below);have HD:=hZ hd;have ht0:=hok.t0;have hV1:=fun W (q:Pow10 W)=>valid12 d.lo d.hi W hok.slo hok.shi q;have HS1:=hZ (fun W (q:Pow10 W)=>short12 d.lo W hok.slo q);have HS2:=hZ (fun W (q:Pow10 W)=>short12 d.hi W hok.shi q);have ht1:=hok.t1;have hle:=hok.le;rw[decide_eq_true hle] at hV1;have HV:=hZ hV1;have HNX:Hid (∀x,l[i+1]?=some x→d.tm≤x.tm):=hZ (fun x hx=>HUP.out i d x hd hx);have HC:Hid (ptC d.pt=[.int .i64 d.tm,.string (nB d.lo),.string (dB d.lo),.string (nB d.hi),.string (dB d.hi)]):=hZ rfl;unfold iV at HV;unfold tV at HS1 HS2;obtain⟨t,et⟩:=oQ (d.tm);obtain⟨ln,f1⟩:=oQ (nB d.lo);obtain⟨ld,f2⟩:=oQ (dB d.lo);obtain⟨hn,f3⟩:=oQ (nB d.hi);obtain⟨hd',f4⟩:=oQ (dB d.hi);rw[f1,f2,f3,f4] at HV;rw[f1,f2] at HS1;rw[f3,f4] at HS2;rw[et,f1,f2,f3,f4] at HC;rw[et] at hzd ht0 ht1 HNX;have hIL:=(IL d).out;rw[HC.out] at HRG hIL;have HIL:=hZ hIL;(have k1:decide (t<z)=false:=by simp;omega);(have k2:decide (1000000<t)=false:=by simp;omega);clear hd hok hrg hV1 f1 f2 f3 f4 et hle HC hIL
    go_wp2_with (first
     |((with_reducible refine wpList_load_mid rfl 86 (.tmp 28) rfl b (i*5) ?hx [.int .i64 t,.string ln,.string ld,.string hn,.string hd'] _ HRG.out Tryz.underlying86 rfl HIL.out ?_);(case hx=>first|rfl|simp[Addr.add]))
     | ((with_reducible refine wpList_store_rowN rfl 86 (.tmp 5) (.tmp 29) rfl rfl _ #[.int .i64 t,.string ln,.string ld,.string hn,.string hd'] #[.int .i64 0,.string ⟨#[]⟩,.string ⟨#[]⟩,.string ⟨#[]⟩,.string ⟨#[]⟩] ?hx ?hy ?hi (World.alloc_heap_new _ _) rfl ?h1 ?_);(case hx=>rfl);(case hy=>rfl);(case hi=>kernel_rfl);(case h1=>simp[Value.oneCell']);intro V5 h5 t5
        have hb5:Below wr.heap.size wr V5:=t5.below (below_new wr _) (Nat.le_refl _) (fun k hk=>by omega);have HF5:=hZ ((HF.out.step hb5).cons h5);have y0:=cells_i h5 (i:=0) rfl;have y1:=cells_i h5 (i:=1) rfl;have y2:=cells_i h5 (i:=2) rfl;have y3:=cells_i h5 (i:=3) rfl;have y4:=cells_i h5 (i:=4) rfl
        clear h5 t5 hb5)
     | (go_at_call 91;((with_reducible refine(HV.out _ (HP.out.below HF5.out.below)).mono ?_));rintro e V6 ⟨rfl,hb⟩
        have HF6:=hZ (HF5.out.step hb);have h6:=HF6.out.has _ (List.mem_cons_self ..);have y0:=cells_i h6 (i:=0) rfl;have y1:=cells_i h6 (i:=1) rfl;have y2:=cells_i h6 (i:=2) rfl;have y3:=cells_i h6 (i:=3) rfl;have y4:=cells_i h6 (i:=4) rfl
        clear hb h6)
     | (go_at_call 89;((with_reducible refine(HS1.out _ (HP.out.below HF6.out.below)).mono ?_));rintro e V7 ⟨rfl,hb⟩
        have HF7:=hZ (HF6.out.step hb);have h6:=HF7.out.has _ (List.mem_cons_self ..);have y0:=cells_i h6 (i:=0) rfl;have y3:=cells_i h6 (i:=3) rfl;have y4:=cells_i h6 (i:=4) rfl
        clear hb h6 HS1)
     | (go_at_call 89;((with_reducible refine(HS2.out _ (HP.out.below HF7.out.below)).mono ?_));rintro e V8 ⟨rfl,hb⟩
        have HF8:=hZ (HF7.out.step hb);have h6:=HF8.out.has _ (List.mem_cons_self ..);have y0:=cells_i h6 (i:=0) rfl
        clear hb h6)
     |fail)
    have HF9:=hZ (HF8.out.less (M:=[(b1,.cells #[.string rn,.string rd,.slice (some ⟨b,0,none⟩) n c] 58 (0,0))]) (by simp))
    go_roundw
    case rel=>exact⟨i+1,t,rfl,rfl,by omega,ht0,HNX,HF9⟩
    case measure=>simp[intOf];omega
  · have d1:decide (i<n)=false:=by simp;omega
    go_wp2_with fail;go_ret;exact⟨rfl,HF.out.below⟩
theorem new3 (w:World) (o1 o2 o3:Obj):(((w.alloc o1).alloc o2).alloc o3).heap[w.heap.size+1+1]?=some o3:=by
 rw[show w.heap.size+1+1=((w.alloc o1).alloc o2).heap.size by simp];exact World.alloc_heap_new _ _
theorem betterS (xn xd yn yd:ByteArray) (q:Bool) (w:World):Calls Tryz.prog 96 #[.agg #[.string xn,.string xd],.agg #[.string yn,.string yd],.bool q] w fun e W'=>e=.returned (.agg #[.string (if q then xn else yn),.string (if q then xd else yd)])∧Below w.heap.size w W':=by
 go_enter Tryz.func96,Tryz.ntmps96
 have hb:∀o1 o2 o3,Below w.heap.size w (((w.alloc o1).alloc o2).alloc o3):=fun o1 o2 o3=>((below_new w _).trans ((below_new _ _).mono (by simp))).trans ((below_new _ _).mono (by simp;omega));cases q
 · go_wp2_with fail
   refine bodyPost_ret (results_cellN rfl _ _ _ [.string yn,.string yd] _ rfl (range_of (cs:=[.string yn,.string yd]) (new3 w _ _ _)) Tryz.underlying29 rfl (by kernel_rfl)) rfl ⟨rfl,hb _ _ _⟩
 · go_wp2_with fail
   refine bodyPost_ret (results_cellN rfl _ _ _ [.string xn,.string xd] _ rfl (range_of (cs:=[.string xn,.string xd]) (new3 w _ _ _)) Tryz.underlying29 rfl (by kernel_rfl)) rfl ⟨rfl,hb _ _ _⟩
theorem far12 (x y:Int) (b:Nat) (w:World) (hx:S12 x) (hy:S12 y) (hb:w.heap[b]?=some (.cells #[.string (nB y),.string (dB y)] 29 (0,0))) (hp:Pow10 w):
 Calls Tryz.prog 144 #[tV x,.pointer (some ⟨b,0,none⟩)] w (ValP w (decide (y<x))):=by
 have HC:=hZ (fun W (q:Pow10 W)=>cmp12 x y W hx hy q)
 have hd:decide (0<cmpZ x y)=decide (y<x):=by
  unfold cmpZ;split
  · simp;omega
  · split<;>simp<;>omega
 rw[←hd];clear hd;unfold tV at HC⊢;obtain⟨xn,h1⟩:=oQ (nB x);obtain⟨xd,h2⟩:=oQ (dB x);obtain⟨yn,h3⟩:=oQ (nB y);obtain⟨yd,h4⟩:=oQ (dB y);rw[h1,h2,h3,h4] at HC;rw[h3,h4] at hb;rw[h1,h2];obtain⟨z,hz⟩:=oQ (cmpZ x y);rw[hz] at HC⊢;obtain⟨b2,w1,q1,q2,q3,hf1,hs1⟩:=(At.start w).alloc2 (.cells #[.string xn,.string xd] 29);have H0:=hZ hb;have hlt:b<w.heap.size:=(Array.getElem?_eq_some_iff.1 hb).1;have x0:=hf1.cell (b:=b2) (cs:=#[.string xn,.string xd]) (t:=29) (by simp) (i:=0) rfl;have x1:=hf1.cell (b:=b2) (cs:=#[.string xn,.string xd]) (t:=29) (by simp) (i:=1) rfl;have HF:=hZ hf1;have HP:=hZ hp;have HQ:=hZ q2;clear h1 h2 h3 h4 hz hf1 hs1 q3 hb hp hx hy q1 q2
 go_enter Tryz.func144,Tryz.ntmps144
 have hw1:=(HF.out.below.block b hlt).trans H0.out;have x4:=cells_i hw1 (i:=0) rfl;have x5:=cells_i hw1 (i:=1) rfl;rw[←HQ.out] at x4 x5;clear hw1 hlt
 go_wp2_with (first
  |(go_at_call 90;(rw[HQ.out]);((with_reducible refine(HC.out _ (HP.out.below HF.out.below)).mono ?_));rintro e V2 ⟨rfl,hb⟩;have HF2:=hZ (HF.out.step hb);clear hb)
  |fail)
 go_ret;exact⟨rfl,HF2.out.below⟩
end Go.Proofs.YteeifhlhpiimoaaGreatDoor
end
