/-
  Contract of entry.Valid. Conditions: the texts have at most 1000000 bytes; the table of powers stands. A writer (a struct that holds a strings.Builder): copyCheck, WriteString. Conditions: at most 1000000000 bytes. Plain functions on numbers and lists of bytes for package wire, and their laws. No condition; no program is named here. Contracts of package wire's functions that encode: groups and PutInt. Condition: the integer argument fits its kind. Contracts of package wire's functions that decode, and of Sum. Condition: the string is shorter than 2^62 bytes. Contracts of entry's writer: put. Conditions: the numbers are in the wire's bounds; at most 1000 of them. Contracts of entry's writer: part. Conditions: the number is in the wire's bounds; the texts have at most 65536 bytes. Contract of entry.Key. Conditions: the texts have at most 1000000 bytes; the table of powers stands.
-/
import Derived.Test.YteeifhlhpiimoaaGreatDoorZAg
import Derived.Test.YteeifhlhpiimoaaGreatDoorZAh
import Derived.Lib.Builder
import Derived.Laws.Externs
import Derived.Lib.AppendStr
import Derived.Lib.FrozenHead
import Derived.Lib.OthersKept
import Derived.Shelf.Strings.BuilderK
import Derived.WalkKit
import Derived.Laws.BitsAllLaws
import Derived.Test.YteeifhlhpiimoaaGreatDoorZAa
import Derived.Test.YteeifhlhpiimoaaGreatDoorProg
import Derived.ProofKit
import Derived.Outline
import Derived.WalkSpells
import Derived.WalkLawsBesides
import Derived.Shelf.Abstract
import Derived.TacticsInMore
import Derived.LoopNIn
import Derived.LoopIn
import Derived.Maps.AppendAt
import Derived.Lib.Hide
import Derived.Lib.BufferRead
import Derived.Deep.Onto
set_option maxHeartbeats 4000000
set_option maxRecDepth 100000
section
namespace Go.Proofs.YteeifhlhpiimoaaGreatDoor
open Go Go.RowKit Go.Shelf
attribute [local go_sem] Oper.semAt_some
theorem fit_id (l:Int):Fits (.num 106 l) (.num 1 l):=.num (enters_of Tryz.func106 (by kernel_rfl) rfl) (fun b W=>id_walk b W) (.inl rfl)
theorem fit_item (l:Int):Fits (.num 107 l) (.num 8 l):=.num (enters_of Tryz.func107 (by kernel_rfl) rfl) (fun b W=>item_walk b W) (.inr (.inr (.inr (.inr (.inl rfl)))))
theorem fit_from (l:Int):Fits (.num 110 l) (.num 5 l):=.num (enters_of Tryz.func110 (by kernel_rfl) rfl) (fun b W=>fromF_walk b W) (.inr (.inl rfl))
theorem fit_until (l:Int):Fits (.num 116 l) (.num 6 l):=.num (enters_of Tryz.func116 (by kernel_rfl) rfl) (fun b W=>untilF_walk b W) (.inr (.inr (.inl rfl)))
theorem fit_lab (l:Int):Fits (.num 111 l) (.num 7 l):=.num (enters_of Tryz.func111 (by kernel_rfl) rfl) (fun b W=>lab_walk b W) (.inr (.inr (.inr (.inl rfl))))
theorem fit_person (l:Int):Fits (.num 120 l) (.num 9 l):=.num (enters_of Tryz.func120 (by kernel_rfl) rfl) (fun b W=>person_walk b W) (.inr (.inr (.inr (.inr (.inr (.inl rfl))))))
theorem fit_skill (l:Int):Fits (.num 121 l) (.num 10 l):=.num (enters_of Tryz.func121 (by kernel_rfl) rfl) (fun b W=>skill_walk b W) (.inr (.inr (.inr (.inr (.inr (.inr rfl))))))
theorem fit_value:Fits (.txt 112) (.txt [11,12,13,14]):=.txt (enters_of Tryz.func112 (by kernel_rfl) rfl) (fun b W=>valueF_walk b W) (fun i hi=>by unfold txtIx;simp at hi;omega) (by decide)
theorem fit_rate:Fits (.txt 114) (.txt [15,16]):=.txt (enters_of Tryz.func114 (by kernel_rfl) rfl) (fun b W=>rate_walk b W) (fun i hi=>by unfold txtIx;simp at hi;omega) (by decide)
theorem fit_text:Fits (.txt 118) (.txt [17]):=.txt (enters_of Tryz.func118 (by kernel_rfl) rfl) (fun b W=>textF_walk b W) (fun i hi=>by unfold txtIx;simp at hi;omega) (by decide)
def FitsL (ps:List PartD) (qs:List PartE):Prop:=∀(i:Nat) (p:PartD) (q:PartE),ps[i]?=some p→qs[i]?=some q→Fits p q
theorem fits_nil:FitsL [] []:=fun i p q h _=>by simp at h
theorem fits_cons {p:PartD} {q:PartE} {ps:List PartD} {qs:List PartE} (h:Fits p q) (k:FitsL ps qs):FitsL (p::ps) (q::qs):=fun i p' q' h1 h2=>by
 cases i with
 |zero=>cases h1;cases h2;exact h
 |succ i=>exact k i p' q' (by simpa using h1) (by simpa using h2)
def shapeQ (k:Int):Option (List PartE):=
 if k=1 then some [.num 1 1,.num 5 0,.num 7 1,.num 8 1,.txt [11,12,13,14]]
 else if k=2 then some [.num 8 1,.txt [15,16]]
 else if k=3 then some [.num 1 1,.num 5 0,.num 6 0,.num 8 1]
 else if k=4 then some [.num 1 1,.num 5 0,.num 6 0,.num 8 1]
 else if k=5 then some [.num 1 1,.num 5 0,.num 6 0,.num 7 1,.txt [17]]
 else if k=6 then some [.num 8 1,.num 5 0]
 else if k=7 then some [.num 1 1,.num 5 0,.num 6 0,.num 9 1,.num 10 1]
 else if k=8 then some [.num 8 1,.txt [15,16]]
 else if k=9 then some [.num 1 1,.num 8 1,.num 9 1]
 else none
def condQ (e:Ent):Bool:=
 if e.kind=1 then e.valueOk
 else if e.kind=2∨e.kind=8 then e.rateOk
 else if e.kind=5 then decide (e.frm≤e.til)&&decide (e.text.size=32)
 else if e.kind=6∨e.kind=9 then true
 else decide (e.frm≤e.til)
def headQ (e:Ent):Bool:=decide (1≤e.ver)&&(decide (e.ver≤1000000)&&(decide (0≤e.day)&&decide (e.day≤100000)))
def validE (e:Ent):Bool:=match shapeQ e.kind with
 |none=>false
 |some qs=>headQ e&&(condQ e&&checks qs e)
theorem asks_span (e:Ent) (w:World):Asks w e.val 117 (decide (e.frm≤e.til)):=⟨enters_of Tryz.func117 (by kernel_rfl) rfl,fun W _=>isSpan_walk e W⟩
theorem asks_root (e:Ent) (w:World):Asks w e.val 119 (decide (e.text.size=32)):=⟨enters_of Tryz.func119 (by kernel_rfl) rfl,fun W _=>isRoot_walk e W⟩
theorem asks_value (e:Ent) (hs:e.Small) (w:World) (hp:Pow10 w):Asks w e.val 113 e.valueOk:=⟨enters_of Tryz.func113 (by kernel_rfl) rfl,fun W hb=>isValue_walk e hs W (hp.below hb)⟩
theorem asks_rate (e:Ent) (hs:e.Small) (w:World) (hp:Pow10 w):Asks w e.val 115 e.rateOk:=⟨enters_of Tryz.func115 (by kernel_rfl) rfl,fun W hb=>isRate_walk e hs W (hp.below hb)⟩
theorem valid1 (e:Ent) (hs:e.Small) (w:World) (hp:Pow10 w) (hk:e.kind=1) (h1:1≤e.ver) (h2:e.ver≤1000000) (h3:0≤e.day) (h4:e.day≤100000):Calls Tryz.prog 20 #[e.val] w (ValP w (validE e)):=by
 have hv:validE e=(([(113,e.valueOk)]:List (Nat×Bool)).all (·.2)&&checks [.num 1 1,.num 5 0,.num 7 1,.num 8 1,.txt [11,12,13,14]] e):=by
  unfold validE headQ condQ;rw[hk,decide_eq_true h1,decide_eq_true h2,decide_eq_true h3,decide_eq_true h4];simp[shapeQ]
 rw[hv];exact valid_core e ⟨[.num 106 1,.num 110 0,.num 111 1,.num 107 1,.txt 112],106,[113]⟩ [.num 1 1,.num 5 0,.num 7 1,.num 8 1,.txt [11,12,13,14]] [(113,e.valueOk)] w (fun W=>by rw[hk];exact shape1 W) rfl (by simp) (fun p hq=>by rw[List.mem_singleton.1 hq];exact asks_value e hs w hp) rfl (by decide) (fits_cons (fit_id 1) (fits_cons (fit_from 0) (fits_cons (fit_lab 1) (fits_cons (fit_item 1) (fits_cons (fit_value) fits_nil))))) h1 h2 h3 h4
theorem valid2 (e:Ent) (hs:e.Small) (w:World) (hp:Pow10 w) (hk:e.kind=2) (h1:1≤e.ver) (h2:e.ver≤1000000) (h3:0≤e.day) (h4:e.day≤100000):Calls Tryz.prog 20 #[e.val] w (ValP w (validE e)):=by
 have hv:validE e=(([(115,e.rateOk)]:List (Nat×Bool)).all (·.2)&&checks [.num 8 1,.txt [15,16]] e):=by
  unfold validE headQ condQ;rw[hk,decide_eq_true h1,decide_eq_true h2,decide_eq_true h3,decide_eq_true h4];simp[shapeQ]
 rw[hv];exact valid_core e ⟨[.num 107 1,.txt 114],107,[115]⟩ [.num 8 1,.txt [15,16]] [(115,e.rateOk)] w (fun W=>by rw[hk];exact shape2 W) rfl (by simp) (fun p hq=>by rw[List.mem_singleton.1 hq];exact asks_rate e hs w hp) rfl (by decide) (fits_cons (fit_item 1) (fits_cons (fit_rate) fits_nil)) h1 h2 h3 h4
theorem valid3 (e:Ent) (_hs:e.Small) (w:World) (_hp:Pow10 w) (hk:e.kind=3) (h1:1≤e.ver) (h2:e.ver≤1000000) (h3:0≤e.day) (h4:e.day≤100000):Calls Tryz.prog 20 #[e.val] w (ValP w (validE e)):=by
 have hv:validE e=(([(117,decide (e.frm≤e.til))]:List (Nat×Bool)).all (·.2)&&checks [.num 1 1,.num 5 0,.num 6 0,.num 8 1] e):=by
  unfold validE headQ condQ;rw[hk,decide_eq_true h1,decide_eq_true h2,decide_eq_true h3,decide_eq_true h4];simp[shapeQ]
 rw[hv];exact valid_core e ⟨[.num 106 1,.num 110 0,.num 116 0,.num 107 1],106,[117]⟩ [.num 1 1,.num 5 0,.num 6 0,.num 8 1] [(117,decide (e.frm≤e.til))] w (fun W=>by rw[hk];exact shape3 W) rfl (by simp) (fun p hq=>by rw[List.mem_singleton.1 hq];exact asks_span e w) rfl (by decide) (fits_cons (fit_id 1) (fits_cons (fit_from 0) (fits_cons (fit_until 0) (fits_cons (fit_item 1) fits_nil)))) h1 h2 h3 h4
theorem valid4 (e:Ent) (_hs:e.Small) (w:World) (_hp:Pow10 w) (hk:e.kind=4) (h1:1≤e.ver) (h2:e.ver≤1000000) (h3:0≤e.day) (h4:e.day≤100000):Calls Tryz.prog 20 #[e.val] w (ValP w (validE e)):=by
 have hv:validE e=(([(117,decide (e.frm≤e.til))]:List (Nat×Bool)).all (·.2)&&checks [.num 1 1,.num 5 0,.num 6 0,.num 8 1] e):=by
  unfold validE headQ condQ;rw[hk,decide_eq_true h1,decide_eq_true h2,decide_eq_true h3,decide_eq_true h4];simp[shapeQ]
 rw[hv];exact valid_core e ⟨[.num 106 1,.num 110 0,.num 116 0,.num 107 1],106,[117]⟩ [.num 1 1,.num 5 0,.num 6 0,.num 8 1] [(117,decide (e.frm≤e.til))] w (fun W=>by rw[hk];exact shape4 W) rfl (by simp) (fun p hq=>by rw[List.mem_singleton.1 hq];exact asks_span e w) rfl (by decide) (fits_cons (fit_id 1) (fits_cons (fit_from 0) (fits_cons (fit_until 0) (fits_cons (fit_item 1) fits_nil)))) h1 h2 h3 h4
theorem valid5 (e:Ent) (_hs:e.Small) (w:World) (_hp:Pow10 w) (hk:e.kind=5) (h1:1≤e.ver) (h2:e.ver≤1000000) (h3:0≤e.day) (h4:e.day≤100000):Calls Tryz.prog 20 #[e.val] w (ValP w (validE e)):=by
 have hv:validE e=(([(117,decide (e.frm≤e.til)),(119,decide (e.text.size=32))]:List (Nat×Bool)).all (·.2)&&checks [.num 1 1,.num 5 0,.num 6 0,.num 7 1,.txt [17]] e):=by
  unfold validE headQ condQ;rw[hk,decide_eq_true h1,decide_eq_true h2,decide_eq_true h3,decide_eq_true h4];simp[shapeQ]
 rw[hv]
 exact valid_core e ⟨[.num 106 1,.num 110 0,.num 116 0,.num 111 1,.txt 118],106,[117,119]⟩ [.num 1 1,.num 5 0,.num 6 0,.num 7 1,.txt [17]] [(117,decide (e.frm≤e.til)),(119,decide (e.text.size=32))] w (fun W=>by rw[hk];exact shape5 W) rfl (by simp) (fun p hq=>by
  rcases List.mem_cons.1 hq with h|h
  · rw[h];exact asks_span e w
  · rw[List.mem_singleton.1 h];exact asks_root e w) rfl (by decide) (fits_cons (fit_id 1) (fits_cons (fit_from 0) (fits_cons (fit_until 0) (fits_cons (fit_lab 1) (fits_cons (fit_text) fits_nil))))) h1 h2 h3 h4
theorem valid6 (e:Ent) (_hs:e.Small) (w:World) (_hp:Pow10 w) (hk:e.kind=6) (h1:1≤e.ver) (h2:e.ver≤1000000) (h3:0≤e.day) (h4:e.day≤100000):Calls Tryz.prog 20 #[e.val] w (ValP w (validE e)):=by
 have hv:validE e=(([]:List (Nat×Bool)).all (·.2)&&checks [.num 8 1,.num 5 0] e):=by
  unfold validE headQ condQ;rw[hk,decide_eq_true h1,decide_eq_true h2,decide_eq_true h3,decide_eq_true h4];simp[shapeQ]
 rw[hv];exact valid_core e ⟨[.num 107 1,.num 110 0],107,[]⟩ [.num 8 1,.num 5 0] [] w (fun W=>by rw[hk];exact shape6 W) rfl (by simp) (fun p hq=>by cases hq) rfl (by decide) (fits_cons (fit_item 1) (fits_cons (fit_from 0) fits_nil)) h1 h2 h3 h4
theorem valid7 (e:Ent) (_hs:e.Small) (w:World) (_hp:Pow10 w) (hk:e.kind=7) (h1:1≤e.ver) (h2:e.ver≤1000000) (h3:0≤e.day) (h4:e.day≤100000):Calls Tryz.prog 20 #[e.val] w (ValP w (validE e)):=by
 have hv:validE e=(([(117,decide (e.frm≤e.til))]:List (Nat×Bool)).all (·.2)&&checks [.num 1 1,.num 5 0,.num 6 0,.num 9 1,.num 10 1] e):=by
  unfold validE headQ condQ;rw[hk,decide_eq_true h1,decide_eq_true h2,decide_eq_true h3,decide_eq_true h4];simp[shapeQ]
 rw[hv];exact valid_core e ⟨[.num 106 1,.num 110 0,.num 116 0,.num 120 1,.num 121 1],106,[117]⟩ [.num 1 1,.num 5 0,.num 6 0,.num 9 1,.num 10 1] [(117,decide (e.frm≤e.til))] w (fun W=>by rw[hk];exact shape7 W) rfl (by simp) (fun p hq=>by rw[List.mem_singleton.1 hq];exact asks_span e w) rfl (by decide) (fits_cons (fit_id 1) (fits_cons (fit_from 0) (fits_cons (fit_until 0) (fits_cons (fit_person 1) (fits_cons (fit_skill 1) fits_nil))))) h1 h2 h3 h4
theorem valid8 (e:Ent) (hs:e.Small) (w:World) (hp:Pow10 w) (hk:e.kind=8) (h1:1≤e.ver) (h2:e.ver≤1000000) (h3:0≤e.day) (h4:e.day≤100000):Calls Tryz.prog 20 #[e.val] w (ValP w (validE e)):=by
 have hv:validE e=(([(115,e.rateOk)]:List (Nat×Bool)).all (·.2)&&checks [.num 8 1,.txt [15,16]] e):=by
  unfold validE headQ condQ;rw[hk,decide_eq_true h1,decide_eq_true h2,decide_eq_true h3,decide_eq_true h4];simp[shapeQ]
 rw[hv];exact valid_core e ⟨[.num 107 1,.txt 114],107,[115]⟩ [.num 8 1,.txt [15,16]] [(115,e.rateOk)] w (fun W=>by rw[hk];exact shape8 W) rfl (by simp) (fun p hq=>by rw[List.mem_singleton.1 hq];exact asks_rate e hs w hp) rfl (by decide) (fits_cons (fit_item 1) (fits_cons (fit_rate) fits_nil)) h1 h2 h3 h4
theorem valid9 (e:Ent) (_hs:e.Small) (w:World) (_hp:Pow10 w) (hk:e.kind=9) (h1:1≤e.ver) (h2:e.ver≤1000000) (h3:0≤e.day) (h4:e.day≤100000):Calls Tryz.prog 20 #[e.val] w (ValP w (validE e)):=by
 have hv:validE e=(([]:List (Nat×Bool)).all (·.2)&&checks [.num 1 1,.num 8 1,.num 9 1] e):=by
  unfold validE headQ condQ;rw[hk,decide_eq_true h1,decide_eq_true h2,decide_eq_true h3,decide_eq_true h4];simp[shapeQ]
 rw[hv];exact valid_core e ⟨[.num 106 1,.num 107 1,.num 120 1],106,[]⟩ [.num 1 1,.num 8 1,.num 9 1] [] w (fun W=>by rw[hk];exact shape9 W) rfl (by simp) (fun p hq=>by cases hq) rfl (by decide) (fits_cons (fit_id 1) (fits_cons (fit_item 1) (fits_cons (fit_person 1) fits_nil))) h1 h2 h3 h4
theorem valid_badE (e:Ent) (d:ShapeD) (w:World) (hS:∀W,Calls Tryz.prog 62 #[.int .i64 e.kind] W (ShapeP W d)) (h:headQ e=false):Calls Tryz.prog 20 #[e.val] w (ValP w false):=by
 have HS:=hZ hS;obtain⟨rl,hrl0⟩:=oQ (d.rest.length);obtain⟨ql,hql0⟩:=oQ (d.parts.length);have HRL0:=hZ hrl0;have HQL0:=hZ hql0;clear hS hrl0 hql0;unfold headQ at h
 by_cases h1:e.ver<1
 · have g1:decide (e.ver<1)=true:=by simp[h1]
   clear h
   go_enter Tryz.func20,Tryz.ntmps20
   go_wp2_with (first
    | ((with_reducible refine box_ent rfl (.tmp 0) rfl e ?hx ?_);(case hx=>rfl);intro w1 he1 hb1 hs1
       have HE1:=hZ he1;have HB1:=hZ hb1;have x0:=he1.cell (i:=0) rfl
       clear he1 hb1)
    | (go_at_call 62;(with_reducible refine(HS.out _).mono ?_);rintro e2 w2 ⟨v,rfl,hsh,hb2⟩
       obtain⟨b1,R,cr,rfl,-,-⟩:=hsh.open;rw[HRL0.out] at hsh;rw[HQL0.out] at hsh;have kk:=below_new w2 (.cells #[.slice (some ⟨b1,0,none⟩) ql ql,.func (.func d.key) #[] #[],.int .i64 1,.int .i64 1000000,.nilFunc,.slice R rl cr] 112);have he3:=(HE1.out.below hb2).below kk;have HB3:=hZ ((HB1.out.trans (hb2.mono HB1.out.size)).trans (kk.mono (Nat.le_trans HB1.out.size hb2.size)));have y0:=he3.cell (i:=2) rfl;have y1:=he3.cell (i:=3) rfl;rw[HQL0.out,HRL0.out]
       clear hb2 hsh kk he3)
    |fail)
   go_ret;exact⟨rfl,HB3.out⟩
 have g1:decide (e.ver<1)=false:=by simp;omega
 rw[decide_eq_true (by omega),Bool.true_and] at h
 by_cases h2:1000000<e.ver
 · have g2:decide (1000000<e.ver)=true:=by simp[h2]
   clear h
   go_enter Tryz.func20,Tryz.ntmps20
   go_wp2_with (first
    | ((with_reducible refine box_ent rfl (.tmp 0) rfl e ?hx ?_);(case hx=>rfl);intro w1 he1 hb1 hs1
       have HE1:=hZ he1;have HB1:=hZ hb1;have x0:=he1.cell (i:=0) rfl
       clear he1 hb1)
    | (go_at_call 62;(with_reducible refine(HS.out _).mono ?_);rintro e2 w2 ⟨v,rfl,hsh,hb2⟩
       obtain⟨b1,R,cr,rfl,-,-⟩:=hsh.open;rw[HRL0.out] at hsh;rw[HQL0.out] at hsh;have kk:=below_new w2 (.cells #[.slice (some ⟨b1,0,none⟩) ql ql,.func (.func d.key) #[] #[],.int .i64 1,.int .i64 1000000,.nilFunc,.slice R rl cr] 112);have he3:=(HE1.out.below hb2).below kk;have HB3:=hZ ((HB1.out.trans (hb2.mono HB1.out.size)).trans (kk.mono (Nat.le_trans HB1.out.size hb2.size)));have y0:=he3.cell (i:=2) rfl;have y1:=he3.cell (i:=3) rfl;rw[HQL0.out,HRL0.out]
       clear hb2 hsh kk he3)
    |fail)
   go_ret;exact⟨rfl,HB3.out⟩
 have g2:decide (1000000<e.ver)=false:=by simp;omega
 rw[decide_eq_true (by omega),Bool.true_and] at h
 by_cases h3:e.day<0
 · have g3:decide (e.day<0)=true:=by simp[h3]
   clear h
   go_enter Tryz.func20,Tryz.ntmps20
   go_wp2_with (first
    | ((with_reducible refine box_ent rfl (.tmp 0) rfl e ?hx ?_);(case hx=>rfl);intro w1 he1 hb1 hs1
       have HE1:=hZ he1;have HB1:=hZ hb1;have x0:=he1.cell (i:=0) rfl
       clear he1 hb1)
    | (go_at_call 62;(with_reducible refine(HS.out _).mono ?_);rintro e2 w2 ⟨v,rfl,hsh,hb2⟩
       obtain⟨b1,R,cr,rfl,-,-⟩:=hsh.open;rw[HRL0.out] at hsh;rw[HQL0.out] at hsh;have kk:=below_new w2 (.cells #[.slice (some ⟨b1,0,none⟩) ql ql,.func (.func d.key) #[] #[],.int .i64 1,.int .i64 1000000,.nilFunc,.slice R rl cr] 112);have he3:=(HE1.out.below hb2).below kk;have HB3:=hZ ((HB1.out.trans (hb2.mono HB1.out.size)).trans (kk.mono (Nat.le_trans HB1.out.size hb2.size)));have y0:=he3.cell (i:=2) rfl;have y1:=he3.cell (i:=3) rfl;rw[HQL0.out,HRL0.out]
       clear hb2 hsh kk he3)
    |fail)
   go_ret;exact⟨rfl,HB3.out⟩
 have g3:decide (e.day<0)=false:=by simp;omega
 rw[decide_eq_true (by omega),Bool.true_and] at h
 by_cases h4:100000<e.day
 · have g4:decide (100000<e.day)=true:=by simp[h4]
   clear h
   go_enter Tryz.func20,Tryz.ntmps20
   go_wp2_with (first
    | ((with_reducible refine box_ent rfl (.tmp 0) rfl e ?hx ?_);(case hx=>rfl);intro w1 he1 hb1 hs1
       have HE1:=hZ he1;have HB1:=hZ hb1;have x0:=he1.cell (i:=0) rfl
       clear he1 hb1)
    | (go_at_call 62;(with_reducible refine(HS.out _).mono ?_);rintro e2 w2 ⟨v,rfl,hsh,hb2⟩
       obtain⟨b1,R,cr,rfl,-,-⟩:=hsh.open;rw[HRL0.out] at hsh;rw[HQL0.out] at hsh;have kk:=below_new w2 (.cells #[.slice (some ⟨b1,0,none⟩) ql ql,.func (.func d.key) #[] #[],.int .i64 1,.int .i64 1000000,.nilFunc,.slice R rl cr] 112);have he3:=(HE1.out.below hb2).below kk;have HB3:=hZ ((HB1.out.trans (hb2.mono HB1.out.size)).trans (kk.mono (Nat.le_trans HB1.out.size hb2.size)));have y0:=he3.cell (i:=2) rfl;have y1:=he3.cell (i:=3) rfl;rw[HQL0.out,HRL0.out]
       clear hb2 hsh kk he3)
    |fail)
   go_ret;exact⟨rfl,HB3.out⟩
 rw[decide_eq_true (by omega)] at h;cases h
theorem valid_noneE (e:Ent) (w:World) (h:e.kind<1∨9<e.kind):Calls Tryz.prog 20 #[e.val] w (ValP w false):=by
 have HS:=hZ (fun W=>shape_no e.kind W h);clear h
 go_enter Tryz.func20,Tryz.ntmps20
 go_wp2_with (first
  | ((with_reducible refine box_ent rfl (.tmp 0) rfl e ?hx ?_);(case hx=>rfl);intro w1 he1 hb1 hs1
     have HB1:=hZ hb1;have x0:=he1.cell (i:=0) rfl
     clear he1 hb1)
  | (go_at_call 62;(with_reducible refine(HS.out _).mono ?_);rintro e2 w2 ⟨rfl,hb2⟩
     have HB2:=bTr HB1 hb2
     clear hb2)
  |fail)
 go_ret;exact⟨rfl,HB2.out.trans ((below_new _ _).mono HB2.out.size)⟩
theorem valid_walk_E (e:Ent) (hs:e.Small) (w:World) (hp:Pow10 w):Calls Tryz.prog 20 #[e.val] w (ValP w (validE e)):=by
 by_cases hk:e.kind<1∨9<e.kind
 · have:validE e=false:=by
    unfold validE shapeQ;rw[if_neg (by omega),if_neg (by omega),if_neg (by omega),if_neg (by omega),if_neg (by omega),if_neg (by omega),if_neg (by omega),if_neg (by omega),if_neg (by omega)]
   rw[this];exact valid_noneE e w hk
 by_cases hh:headQ e=true
 · have h2:=hh
   unfold headQ at h2;simp only[Bool.and_eq_true,decide_eq_true_eq] at h2;obtain⟨a1,a2,a3,a4⟩:=h2;rcases(by omega:e.kind=1∨e.kind=2∨e.kind=3∨e.kind=4∨e.kind=5∨e.kind=6∨e.kind=7∨e.kind=8∨e.kind=9) with q|q|q|q|q|q|q|q|q
   · exact valid1 e hs w hp q a1 a2 a3 a4
   · exact valid2 e hs w hp q a1 a2 a3 a4
   · exact valid3 e hs w hp q a1 a2 a3 a4
   · exact valid4 e hs w hp q a1 a2 a3 a4
   · exact valid5 e hs w hp q a1 a2 a3 a4
   · exact valid6 e hs w hp q a1 a2 a3 a4
   · exact valid7 e hs w hp q a1 a2 a3 a4
   · exact valid8 e hs w hp q a1 a2 a3 a4
   · exact valid9 e hs w hp q a1 a2 a3 a4
 · have hf:headQ e=false:=by simpa using hh
   (have:validE e=false:=by unfold validE;split<;>simp[hf]);rw[this];rcases(by omega:e.kind=1∨e.kind=2∨e.kind=3∨e.kind=4∨e.kind=5∨e.kind=6∨e.kind=7∨e.kind=8∨e.kind=9) with q|q|q|q|q|q|q|q|q
   · exact valid_badE e _ w (fun W=>by rw[q];exact shape1 W) hf
   · exact valid_badE e _ w (fun W=>by rw[q];exact shape2 W) hf
   · exact valid_badE e _ w (fun W=>by rw[q];exact shape3 W) hf
   · exact valid_badE e _ w (fun W=>by rw[q];exact shape4 W) hf
   · exact valid_badE e _ w (fun W=>by rw[q];exact shape5 W) hf
   · exact valid_badE e _ w (fun W=>by rw[q];exact shape6 W) hf
   · exact valid_badE e _ w (fun W=>by rw[q];exact shape7 W) hf
   · exact valid_badE e _ w (fun W=>by rw[q];exact shape8 W) hf
   · exact valid_badE e _ w (fun W=>by rw[q];exact shape9 W) hf
def WtAt (W:World) (B b:Nat) (l:List UInt8):Prop:=∃p v,B≤b∧(p=.pointer none∨p=.pointer (some ⟨b,0,none⟩))∧W.heap[b]?=some (.cells #[p,v] 120 (0,0))∧W.ownsRowF B 5 1 v l.length (Lib.byteCells l)∧v.ownBlock≠some b
theorem check_fresh (b:Nat) (v:Value) (w:World) (h:w.heap[b]?=some (.cells #[.pointer none,v] 120 (0,0))):
 Calls Tryz.prog 170 #[.pointer (some ⟨b,0,none⟩)] w fun e w'=>e=.returned (.tuple #[])∧w'=w.setCell ⟨b,0,none⟩ (.pointer (some ⟨b,0,none⟩)):=by
 have c0:=cells_at0 h;have f0:=cells_free h 0;have hsh:w.shape? b=some (120,2):=by unfold World.shape?;rw[h];rfl
 obtain⟨j,hj,hjs⟩:=Option.map_eq_some_iff.1 (show(Tryz.prog.info? 118).map (·.size)=some 2 by kernel_rfl);have HSH:=hZ hsh;have HJ:=hZ (And.intro hj hjs);clear h hsh hj hjs
 go_enter Tryz.func170,Tryz.ntmps170
 go_wp2;rw[Lib.run_to_unsafe w ⟨b,0,none⟩ Tryz.underlying115 Tryz.underlying261 HJ.out.1 (by rw[HJ.out.2];decide) HSH.out (Nat.zero_lt_succ 1)];simp only[Result.andThen];rw[Oper.upon_value];go_wp2;rw[run_callFunc_extern Tryz.func231 (by kernel_rfl) (by kernel_rfl) (by kernel_rfl) (e:=Extern.AbiNoEscape.same) (by kernel_rfl)];rw[Lib.run_noEscape];simp only[Result.andThen];rw[Oper.upon_value];go_wp2;rw[Lib.run_from_unsafe w ⟨b,0,none⟩ Tryz.underlying261 Tryz.underlying115 HJ.out.1 HSH.out (by kernel_rfl)];simp only[Result.andThen];rw[Oper.upon_value];go_wp2
 go_end0
 exact⟨rfl,rfl⟩
theorem check_used (b:Nat) (w:World) (h0:w.cell? ⟨b,0,none⟩=some (.pointer (some ⟨b,0,none⟩))):
 Calls Tryz.prog 170 #[.pointer (some ⟨b,0,none⟩)] w fun e w'=>e=.returned (.tuple #[])∧w'=w:=by
 obtain⟨j,hj,_⟩:=Option.map_eq_some_iff.1 (show(Tryz.prog.info? 118).map (·.size)=some 2 by kernel_rfl)
 go_enter Tryz.func170,Tryz.ntmps170
 go_wp2;rw[Lib.run_neq_ptr_same w _ Tryz.underlying115 hj];go_wp2
 go_end0
 exact⟨rfl,rfl⟩
theorem ownsF_keep {w w':World} {B:Nat} {e:TypeId} {v:Value} {n:Nat} {xs:List Value} (h:w.ownsRowF B e 1 v n xs) (hk:∀g,v.ownBlock=some g→w'.heap[g]?=w.heap[g]?):w'.ownsRowF B e 1 v n xs:=by
 refine⟨h.1,?_⟩;rcases h.2 with hn|⟨g,cap,cur,fz,rfl,hb,hg,rest⟩
 · exact .inl hn
 · exact .inr ⟨g,cap,cur,fz,rfl,hb,(hk g rfl).trans hg,rest⟩
theorem WtAt.keep {W W':World} {B b:Nat} {l:List UInt8} (h:WtAt W B b l) (hb:W'.heap[b]?=W.heap[b]?) (hg:∀(g:Nat) (cs:Array Value) (fz:Nat×Nat),W.heap[g]?=some (Obj.cells cs 5 fz)→W'.heap[g]?=W.heap[g]?):WtAt W' B b l:=by
 obtain⟨p,v,h1,h2,h3,h4,h5⟩:=h;refine⟨p,v,h1,h2,hb.trans h3,ownsF_keep h4 (fun g e=> ?_),h5⟩;rcases h4.2 with⟨rfl,_⟩|⟨g',cap,cur,fz,rfl,hb',hg',rest⟩
 · simp[Value.ownBlock] at e
 · simp[Value.ownBlock] at e
   subst e;exact hg _ _ _ hg'
theorem WtAt.below {W W':World} {B b:Nat} {l:List UInt8} (h:WtAt W B b l) (hb:Below W.heap.size W W'):WtAt W' B b l:=by
 obtain⟨p,v,h1,h2,h3,-⟩:=id h;exact h.keep (hb.block b (cells_lt h3)) (fun g cs fz hg=>hb.block g (cells_lt hg))
theorem wt_check {W:World} {B b:Nat} {l:List UInt8} (h:WtAt W B b l):
 Calls Tryz.prog 170 #[.pointer (some ⟨b,0,none⟩)] W fun e W'=>e=.returned (.tuple #[])∧(∃v,W'.heap[b]?=some (.cells #[.pointer (some ⟨b,0,none⟩),v] 120 (0,0))∧W'.ownsRowF B 5 1 v l.length (Lib.byteCells l)∧v.ownBlock≠some b)∧Below B W W'∧Lib.OthersKept 5 (some b) W W':=by
 obtain⟨p,v,h1,hp,h3,h4,h5⟩:=h;rcases hp with rfl|rfl
 · refine(check_fresh b v W h3).mono ?_
   rintro e W' ⟨rfl,rfl⟩;refine⟨rfl,⟨v,cells_set0 h3,ownsF_keep h4 (fun g e=>Below.heap_setCell _ _ _ _ (fun e2=>h5 (by rw[e,e2]))),h5⟩,(Below.refl _ _).setCell (p:=⟨b,0,none⟩) h1 _,?_⟩;intro k o ho hk _;exact(Below.heap_setCell _ _ _ _ (fun e=>hk (by rw[e]))).trans ho
 · refine(check_used b W (cells_at0 h3)).mono ?_
   rintro e W' ⟨rfl,rfl⟩;exact⟨rfl,⟨v,h3,h4,h5⟩,Below.refl _ _,Lib.OthersKept.refl _ _ _⟩
theorem wt_write {W:World} {B b:Nat} {l:List UInt8} (h:WtAt W B b l) (s:ByteArray) (hl:l.length+s.size≤1000000000) (hB:B≤W.heap.size):
 Calls Tryz.prog 123 #[.pointer (some ⟨b,0,none⟩),.string s] W fun e W'=>e=.returned (.tuple #[.int .i64 s.size,.nilIface])∧WtAt W' B b (l++s.data.toList)∧Below B W W'∧Lib.OthersKept 5 (some b) W W':=by
 have h1:B≤b:=by obtain⟨p,v,h1,-⟩:=h;exact h1
 have HC:=hZ (wt_check h);obtain⟨i0,hi,hz0,hz1,hz2⟩:=info_parts (show(Tryz.prog.info? 5).map (fun i=>(i.zero,i.size,i.bytes))=some (some (.int .u8 0),1,1) by kernel_rfl);clear h
 go_enter Tryz.func123,Tryz.ntmps123
 go_wp2_with (first|(go_at_call 170;refine HC.out.mono ?_)|fail)
 rintro e w1 ⟨rfl,⟨v,hbk,hown,hne⟩,hb1,hk1⟩;have c0:=cells_at0 hbk;have c1:=cells_at1 hbk;have hsz:=hb1.size
 go_wp2_with (at_builtin;refine Lib.wpList_append_own_stringF _ rfl _ _ 116 9 rfl B 5 i0 Tryz.underlying116 Tryz.underlying9 hi hz0 hz1 hz2 _ _ _ rfl hown s rfl ?c3 ?c4 ?c5 ?_)
 case c3=>unfold maxLen;omega
 case c4=>omega
 case c5=>omega
 intro v' w2 hown' hgrow _;have hlt:b<w1.heap.size:=cells_lt hbk
 have hb2:w2.heap[b]?=some (.cells #[.pointer (some ⟨b,0,none⟩),v] 120 (0,0)):=by
  rw[hgrow.block b hlt (fun e=>hne e.symm)];exact hbk
 have d0:=cells_at0 hb2;have d1:=cells_at1 hb2;have f1:=cells_free hb2 1
 obtain⟨ao,n',cap,rfl⟩:∃ao n' cap,v'=.slice ao n' cap:=by
  rcases hown'.2 with⟨hv,_⟩|⟨g,cap,cur,fz,hv,_⟩
  · exact⟨_,_,_,hv⟩
  · exact⟨_,_,_,hv⟩
 have hne2:(Value.slice ao n' cap).ownBlock≠some b:=fun e=>by
  obtain⟨c,fz,hg⟩:=Lib.ownsRowF_kind hown' b e;rw[hb2] at hg;injection hg with hg;injection hg with e1 e2 e3;exact absurd e2 (by decide)
 have hfin:WtAt (w2.setCell ⟨b,1,none⟩ (.slice ao n' cap)) B b (l++s.data.toList):=by
  refine⟨_,_,h1,.inr rfl,cells_set1 hb2,ownsF_keep ?_ (fun g e=>Below.heap_setCell _ _ _ _ (fun e2=>hne2 (by rw[e,e2]))),hne2⟩;have e1:Lib.byteCells (l++s.data.toList)=Lib.byteCells l++Lib.strCells s:=by unfold Lib.byteCells Lib.strCells;simp
  have e2:(l++s.data.toList).length=l.length+s.size:=by rw[List.length_append];rfl
  rw[e1,e2];exact hown'
 have hfb:Below B W (w2.setCell ⟨b,1,none⟩ (.slice ao n' cap)):=(hb1.grown hgrow (by omega) (fun k hk=>(hown.lt k hk).1)).setCell (p:=⟨b,1,none⟩) h1 _;have hfk:Lib.OthersKept 5 (some b) W (w2.setCell ⟨b,1,none⟩ (.slice ao n' cap)):=(hk1.grown hgrow (Lib.ownsRowF_kind hown)).setCell ⟨b,1,none⟩ rfl _;go_wp2
 go_ret2
 exact⟨rfl,hfin,hfb,hfk⟩
theorem wt_string {W:World} {B b:Nat} {l:List UInt8} (h:WtAt W B b l) (h0:l≠[]):
 Calls Tryz.prog 65 #[.pointer (some ⟨b,0,none⟩)] W fun e W'=>e=.returned (.string ⟨l.toArray⟩)∧Below B W W'∧Lib.OthersKept 5 (some b) W W':=by
 obtain⟨p,v,hB,hp,hbk,hown,hne⟩:=h;have hl0:l.length≠0:=by simpa using h0
 obtain⟨g,cap,cur,fz,rfl,hbg,hg,hfz,hnc,hcm,hcs,htake⟩:∃g cap cur fz,v=.slice (some ⟨g,0,none⟩) l.length cap∧B≤g∧W.heap[g]?=some (.cells cur 5 fz)∧fz.2≤l.length*1∧l.length≤cap∧cap≤maxLen∧cur.size=cap*1∧cur.toList.take (l.length*1)=Lib.byteCells l:=by
  rcases hown.2 with⟨_,hz⟩|⟨g,cap,cur,fz,hv,r⟩
  · exact absurd hz hl0
  · exact⟨g,cap,cur,fz,hv,r⟩
 have c1:W.drew.cell? ⟨b,1,none⟩=some (.slice (some ⟨g,0,none⟩) l.length cap):=cells_at1 hbk
 have hSD:(Builtin.unsafeSliceData_ #[116] 174 #[.slice (some ⟨g,0,none⟩) l.length cap]).run Tryz.prog W.drew=.ok (.pointer (some ⟨g,0,none⟩)) W.drew:=
  Lib.run_unsafeSliceData_row _ _ _ _ _ _ (by omega)
 have hUS:(Builtin.unsafeString_ #[174,3] 9 #[.pointer (some ⟨g,0,none⟩),.int .i64 l.length]).run Tryz.prog W.drew=.ok (.string ⟨l.toArray⟩) (W.drew.freeze ⟨g,0,none⟩ l.length):=by
  refine Lib.run_unsafeString_row W.drew 174 3 9 5 Tryz.underlying174 (by kernel_rfl) g cur.size (by have hg':W.drew.heap[g]?=some (.cells cur 5 fz):=hg;simp[World.shape?,hg']) l h0 (by omega) (by unfold maxLen at hcm;omega) ?_;intro j x hx;have:=hown.cells (g:=g) rfl j (.int .u8 x.toNat) (by simp[Lib.byteCells,hx]);exact this
 have hfb:=Lib.below_freeze (Below.drew (Below.refl B W)) (p:=⟨g,0,none⟩) hbg l.length;have hfk:=((Lib.OthersKept.refl 5 (some b) W).drew).freeze ⟨g,0,none⟩ l.length ⟨cur,fz,hg⟩
 go_enter Tryz.func65,Tryz.ntmps65
 have mixed:Tryz.prog.follows .mixedOrders=true:=by kernel_rfl
 go_wp2
 go_region_o
 all_goals (go_wp2;go_ret;exact⟨rfl,hfb,hfk⟩)
end Go.Proofs.YteeifhlhpiimoaaGreatDoor
end
section
namespace Go.Proofs.YteeifhlhpiimoaaGreatDoor.Wr
open Go
def grpF:Nat→Nat→List (Nat×Bool)
 |0,z=>[(z,true)]
 |f+1,z=>if z<128 then[(z,true)] else(z%128,false)::grpF f (z/128)
def grp (z:Nat):List (Nat×Bool):=grpF 9 z
def lebN (x:Nat×Bool):Nat:=if x.2 then x.1 else x.1+128
def lebF (f z:Nat):List UInt8:=(grpF f z).map fun x=>UInt8.ofNat (lebN x)
def leb (z:Nat):List UInt8:=lebF 9 z
def maxI:Int:=4611686018427387903
def zig (n:Int):Nat:=if 0≤n then(2*n).toNat else(-2*n-1).toNat
def putI (n:Int):List UInt8:=leb (zig n)
def unzig (z:Nat):Int:=if z%2=0 then((z/2:Nat):Int) else -((z/2:Nat):Int)-1
theorem grpF_last {f z:Nat} (h:z<128):grpF f z=[(z,true)]:=by cases f<;>simp[grpF,h]
theorem grpF_more {f z:Nat} (h:128≤z) (hz:z<128^(f+1)):∃g,f=g+1∧grpF f z=(z%128,false)::grpF g (z/128)∧z/128<128^(g+1):=by
 cases f with
 |zero=>simp at hz;omega
 |succ g=>exact⟨g,rfl,by simp[grpF,show ¬z<128 by omega],by rw[Nat.pow_succ] at hz;exact Nat.div_lt_of_lt_mul (by rw[Nat.mul_comm];exact hz)⟩
theorem grpF_length (f z:Nat):(grpF f z).length≤f+1:=by
 induction f generalizing z with
 |zero=>simp[grpF]
 | succ f ih=>
   unfold grpF
   split
   · simp
   · have:=ih (z/128);simp;omega
theorem lebF_last {f z:Nat} (h:z<128):lebF f z=[UInt8.ofNat z]:=by simp[lebF,grpF_last h,lebN]
theorem lebF_more {f z:Nat} (h:128≤z) (hz:z<128^(f+1)):∃g,f=g+1∧lebF f z=UInt8.ofNat (z%128+128)::lebF g (z/128)∧z/128<128^(g+1):=by
 obtain⟨g,hg,he,hl⟩:=grpF_more h hz;exact⟨g,hg,by simp[lebF,he,lebN],hl⟩
theorem zig_lt {n:Int} (h1: -maxI≤n) (h2:n≤maxI):zig n<9223372036854775807:=by
 unfold zig maxI at*;split<;>omega
theorem unzig_zig (n:Int):unzig (zig n)=n:=by
 unfold unzig zig;split<;>split<;>omega
def scan:Nat→Nat→Nat→List UInt8→Option (Nat×Nat)
 |0,_,_,_=>none
 |_+1,_,_,[]=>none
 | f+1,i,z,b::l=>
   if 128≤b.toNat then scan f (i+1) (z+(b.toNat-128)*128^i) l
   else if b.toNat=0∧0<i then none
   else if z+b.toNat*128^i=9223372036854775807 then none
   else some (z+b.toNat*128^i,i+1)
def decI (l:List UInt8):Option (Nat×Nat):=scan 9 0 0 l
def crcTab:List Nat:=[0,274646895,549293790,820201905,1098587580,1361435347,1640403810,1905808397,2197175160,2460548119,2722870694,2987750089,3280807620,3553878443,3811616794,4084100981]
def nib (r:Nat):Nat:=(r/16)^^^crcTab.getD (r%16) 0
def upd (r b:Nat):Nat:=nib (nib (r^^^b))
theorem lebF_length (f z:Nat):(lebF f z).length≤f+1:=by unfold lebF;rw[List.length_map];exact grpF_length f z
theorem putI_length (n:Int):(putI n).length≤10:=lebF_length 9 _
end Go.Proofs.YteeifhlhpiimoaaGreatDoor.Wr
end
section
namespace Go.Proofs.YteeifhlhpiimoaaGreatDoor.Wr
open Go Go.RowKit Go.Shelf
attribute [local go_sem] Oper.semAt_some
theorem Tryz.info5:(Tryz.prog.info? 5).map (fun i=>(i.zero,i.size,i.bytes))=some (some (.int .u8 0),1,1):=by kernel_rfl
def bv (b:UInt8):Value:=.int .u8 (b.toNat:Int)
theorem convert_own {P:Program} {w:World} {base:Nat} {e:TypeId} {v:Value} {l:List UInt8} (src dst:TypeId) (hs:P.underlying src=some (.slice e)) (he:P.underlying e=some (.int .u8)) (hd:P.underlying dst=some .string)
 (h:w.ownsRow base e 1 v l.length (l.map bv)):(convert src dst v).run P w=.ok (.string ⟨l.toArray⟩) w:=by
 rcases h.2 with⟨rfl,h0⟩|⟨g,cap,cur,rfl,hg,hh,h1,h2,h3,h4⟩
 · obtain rfl:l=[]:=List.length_eq_zero_iff.1 h0
   exact Lib.run_convert_nil_bytes w src dst e 0 hs he hd
 · refine run_convert_bytes_back w src dst e ⟨g,0,none⟩ cap l hs he hd (fun j hj=> ?_)
   have:=h.cells (g:=g) rfl j (.int .u8 (l[j].toNat:Int)) (by simp[bv,List.getElem?_eq_getElem hj]);exact this
theorem groups_any (z:Int) (w:World):
 Calls Tryz.prog 169 #[.int .u64 z] w fun e w'=>e=.returned (.func (.func 230) #[] #[.pointer (some ⟨w.heap.size,0,none⟩)])∧w'=w.alloc (.cells #[.int .u64 z] 203):=by
 go_enter Tryz.func169,Tryz.ntmps169
 go_wp2;go_ret;exact⟨rfl,rfl⟩
def leftOf (bz:Nat) (w:World):Nat:=match w.cell? ⟨bz,0,none⟩ with|some (.int _ n)=>n.toNat|_=>0
def encG (x:Nat×Bool):Array Value:=#[.int .u8 (x.1:Int),.bool x.2]
theorem groups_iter (z bz:Nat) (hz:z<18446744073709551616) (w:World) (hb:Boxed w bz 203 (.int .u64 (z:Int))):
 IterZ Tryz.prog 230 #[.pointer (some ⟨bz,0,none⟩)] encG (fun k=>k=bz) (fun A B=>B.heap[bz]?=A.heap[bz]?) (fun xs=>xs=grp z) (fun _=>True) (grp z).length w:=by
 intro l J Jx W hW hJ hJx hY h0;have hbW:Boxed W bz 203 (.int .u64 (z:Int)):=(hW.block bz hb.lt).trans hb;refine callsIn_of_wp Tryz.func230 rfl trivial ?_ rfl;simp only[Tryz.ntmps230,List.size_toArray,List.length_cons,List.length_nil,Nat.reduceAdd,Nat.reduceSub,Array.replicate_succ,Array.replicate_zero,List.push_toArray,List.append_toArray,List.nil_append,List.cons_append]
 gi_wp2_with fail
 gi_loopw [3] (fun _ wr=> ∃(pre:List (Nat×Bool)) (f c:Nat),Boxed wr bz 203 (.int .u64 (c:Int))∧c<128^(f+1)∧c≤z∧grp z=pre++grpF f c∧J pre wr) (fun _ wr=>leftOf bz wr)
 case atStart=>exact⟨[],9,z,hbW,Nat.lt_trans hz (by decide),Nat.le_refl _,rfl,h0⟩
 case round=>
  obtain⟨pre,f,c,hbox,hc,hcz,hg,hj⟩:=hrel;have hcell:=hbox.cell;have hfro:=hbox.frozen
  have hpl:pre.length<(grp z).length:=by
   (rw[hg];have:0<(grpF f c).length:=by cases f<;>simp[grpF];split<;>simp);simp;omega
  have hbz:bz<wr.heap.size:=hbox.lt
  by_cases hlt:c<128
  · have h1:bits .and .u64 (c:Int) 127=(c:Int):=by
     have:=u64_and_nat c 127 (by omega) (by omega);rw[nat_mask7,Nat.mod_eq_of_lt hlt] at this;exact this
    (have h2:(c:Int)%256=(c:Int):=by omega);(have h3:((c:Int)<128):=by omega);obtain⟨fn,tmps,assign,body,hy,hR⟩:=hY pre (c,true) wr hj hpl
    dsimp only[encG] at hy
    gi_wp2_with fail
    refine hR.mono ?_;(have hend:grp z=pre++[(c,true)]:=by rw[hg,grpF_last hlt]);have Hend:=hZ hend;clear hend hg h1 h2;rintro e W3 (⟨rfl,hJ3,hk3⟩|⟨rfl,hJx3⟩)
    · gi_wp2
      refine bodyPost_ret (results_none rfl _ _ _) rfl ?_;exact⟨⟨_,rfl⟩,.inl ⟨_,Hend.out.symm,hJ3⟩⟩
    · gi_wp2
      refine bodyPost_ret (results_none rfl _ _ _) rfl ?_;exact⟨⟨_,rfl⟩,.inr ⟨_,trivial,hJx3⟩⟩
  · obtain⟨g,hf,hgr,hgb⟩:=grpF_more (f:=f) (by omega) hc
    have h1:bits .and .u64 (c:Int) 127=((c%128:Nat):Int):=by
     have:=u64_and_nat c 127 (by omega) (by omega);rw[nat_mask7] at this;exact this
    obtain⟨q,hq⟩:=oQ (c%128);rw[hq] at h1 hgr;(have hq8:q<128:=by omega);(have h2:(q:Int)%256=(q:Int):=by omega);(have h3:decide ((c:Int)<128)=false:=by simp;omega);(have h4:(c:Int)/128=((c/128:Nat):Int):=by omega);(have hlt2:c/128<c:=by omega);(have hgz:grp z=(pre++[(q,false)])++grpF g (c/128):=by rw[hg,hgr];simp);obtain⟨d,hd⟩:=oQ (c/128);rw[hd] at h4 hlt2 hgz hgb;have Hgz:=hZ hgz;obtain⟨fn,tmps,assign,body,hy,hR⟩:=hY pre (q,false) wr hj hpl
    dsimp only[encG] at hy
    clear hgz hg hgr hq hd hf
    gi_wp2_with fail
    refine hR.mono ?_;rintro e W3 (⟨rfl,hJ3,hk3⟩|⟨rfl,hJx3⟩)
    · have hbox3:Boxed W3 bz 203 (.int .u64 (c:Int)):=hk3.trans hbox
      have hcell3:=hbox3.cell;have hfro3:=hbox3.frozen;have hset:=hbox3.set (.int .u64 (d:Int));clear hcell hfro hk3 h1 h2
      gi_wp2
      go_roundw
      case rel=>exact⟨pre++[(q,false)],g,d,hset,hgb,by omega,Hgz.out,hJ _ _ _ hJ3 (Turns.setCell _ _ _ rfl)⟩
      case measure=>
       have e1:=hset.cell;simp only[leftOf,e1,hbox.cell];simpa using hlt2
    · gi_wp2
      refine bodyPost_ret (results_none rfl _ _ _) rfl ?_;exact⟨⟨_,rfl⟩,.inr ⟨_,trivial,hJx3⟩⟩
theorem wrap_u64 (n:Int):IntKind.u64.wrap n=n%18446744073709551616:=by simp[IntKind.wrap,IntKind.bits,IntKind.signed]
theorem zig_bits (n:Int) (h1: -4611686018427387903≤n) (h2:n≤4611686018427387903):
 bits .xor .u64 (IntKind.u64.wrap (IntKind.u64.wrap n*2)) (IntKind.u64.wrap (n/9223372036854775808))=(zig n:Int):=by
 rw[wrap_u64,wrap_u64,wrap_u64]
 by_cases h:0≤n
 · rw[u64_xor _ _ (by omega) (by omega) (by omega) (by omega)]
   (have e1:((n%18446744073709551616*2)%18446744073709551616).toNat=zig n:=by unfold zig;rw[if_pos h];omega);(have e2:(n/9223372036854775808%18446744073709551616).toNat=0:=by omega);rw[e1,e2,Nat.xor_zero]
 · rw [u64_xor _ _ (by omega) (by omega) (by omega) (by omega)]
   (have e1:((n%18446744073709551616*2)%18446744073709551616).toNat=18446744073709551615-zig n:=by unfold zig;rw[if_neg h];omega);(have e2:(n/9223372036854775808%18446744073709551616).toNat=2^64-1:=by omega);have hz:=zig_lt h1 h2
   have e3:(18446744073709551615-zig n)^^^(2^64-1)=zig n:=by
    apply Nat.eq_of_testBit_eq;intro i;rw[Nat.testBit_xor,Nat.testBit_two_pow_sub_one];have:(18446744073709551615-zig n)=2^64-1-zig n:=rfl;have e4:=Nat.testBit_two_pow_sub_succ (x:=zig n) (n:=64) (by omega) i;rw[this,show 2^64-1-zig n=2^64-(zig n+1) by omega,e4]
    by_cases hi:i<64
    · simp[hi]
    · have:(zig n).testBit i=false:=Nat.testBit_lt_two_pow (Nat.lt_of_lt_of_le (show zig n<2^64 by omega) (Nat.pow_le_pow_right (by decide) (by omega)))
      simp[hi,this]
   rw[e1,e2,e3]
def encB (x:Nat×Bool):Value:=.int .u8 (if x.2 then(x.1:Int) else bits .or .u8 (x.1:Int) 128)
theorem encB_grp (f z:Nat) (hz:z<128^(f+1)):(grpF f z).map encB=(lebF f z).map bv:=by
 induction f generalizing z with
 | zero=>
   (have:z<128:=by simpa using hz);have e:(UInt8.ofNat z).toNat=z:=by simp;omega
   simp[lebF,grpF,encB,lebN,bv,e]
 | succ f ih=>
   by_cases h:z<128
   · have e:(UInt8.ofNat z).toNat=z:=by simp;omega
     simp[lebF,grpF_last h,encB,lebN,bv,e]
   · obtain⟨g,hg,he,hl⟩:=grpF_more (by omega) hz
     (obtain rfl:f=g:=by omega);have ih':=ih _ hl;have hq:z%128<128:=Nat.mod_lt _ (by decide)
     have e0:bits .or .u8 ((z%128:Nat):Int) 128=((z%128+128:Nat):Int):=by
      have:=u8_or_nat (z%128) 128 (by omega) (by decide);rw[Nat.or_comm,nat_join 7 128 (z%128) (by decide) (by omega),Nat.add_comm] at this;exact this
     (have e1:(UInt8.ofNat (z%128+128)).toNat=z%128+128:=by simp;omega);simp only[lebF] at ih';simp only[lebF,he,List.map_cons,encB,lebN,bv,e1,ih',Bool.false_eq_true,if_false];rw[e0]
theorem boxAppend {W w1:World} {n₀ base B:Nat} {t e:TypeId} {size:Nat} {v v':Value} {k m:Nat} {xs ys:List Value} {tmp:Obj}
 (hv:Boxed W B t v) (hte:t≠e) (hrow:W.ownsRow base e size v k xs) (hn₀:n₀≤W.heap.size) (hB:n₀≤B) (hb:n₀≤base)
 (hown':w1.ownsRow base e size v' m ys) (hgrow:(W.alloc tmp).grownBy w1 v.ownBlock):
 Boxed w1 B t v∧Boxed (w1.setCell ⟨B,0,none⟩ v') B t v'∧(w1.setCell ⟨B,0,none⟩ v').ownsRow base e size v' m ys∧KeepsOthers W (w1.setCell ⟨B,0,none⟩ v')∧Below n₀ W (w1.setCell ⟨B,0,none⟩ v')∧
 (∀k,k<base→k≠B→k<W.heap.size→(w1.setCell ⟨B,0,none⟩ v').heap[k]?=W.heap[k]?):=by
 obtain⟨a1,a2,_,a4,a5⟩:=hv.appended hte (hrow.mono hb) hn₀ hB (hown'.mono hb) hgrow;refine⟨a1,a2,hown'.kept (grownBy_setCell' w1 B v') (.inr (a1.not_row hte hown').symm),a4,a5,fun k hk hkB hkW=> ?_⟩;rw[Below.heap_setCell _ _ _ _ hkB,hgrow.block k (by simp;omega) (fun e=> ?_),Below.heap_alloc _ _ _ hkW];have:=(hrow.lt k e.symm).1;omega
theorem putInt_yes (n:Int) (h1: -4611686018427387903≤n) (h2:n≤4611686018427387903) (w:World):
 Calls Tryz.prog 122 #[.int .i64 n] w fun e w'=>e=.returned (.tuple #[.string ⟨(putI n).toArray⟩,.int .i64 0])∧Below w.heap.size w w':=by
 have hzl:=zig_lt h1 h2;have hzb:=zig_bits n h1 h2;obtain⟨z,hz⟩:=oQ (zig n);rw[hz] at hzl hzb;have HZ:=hZ hz;have HB:=hZ hzb;clear hz hzb;have hne:0<(grp z).length:=by simp only[grp,grpF];split<;>simp
 have hle:(grp z).length≤10:=grpF_length _ _;obtain⟨i0,hi,hz0,hz1,hz2⟩:=info_parts Tryz.info5;refine(callsIn_wide (n:=3)).1 ?_;refine callsIn_of_wp_marks Tryz.func122 rfl trivial ?_ rfl;simp only[Tryz.ntmps122,List.size_toArray,List.length_cons,List.length_nil,Nat.reduceAdd,Nat.reduceSub,Array.replicate_succ,Array.replicate_zero,List.push_toArray,List.append_toArray,List.nil_append,List.cons_append]
 gi_wp2_with fail
 refine⟨trivial,?_⟩;rw[HB.out];refine(callsIn_wide.2 (groups_any _ _)).mono ?_;rintro e w' ⟨rfl,rfl⟩;have bO:=Boxed.new w 116 (.slice none 0 0);have bN:=Boxed.new (w.alloc (.cells #[.slice none 0 0] 116)) 203 (.int .u64 (z:Int));rw[World.size_alloc] at bN;have hB0:Below w.heap.size w ((w.alloc (.cells #[.slice none 0 0] 116)).alloc (.cells #[.int .u64 (z:Int)] 203)):=((Below.refl _ w).alloc (Nat.le_refl _) _).alloc (by simp) _;have hsz:((w.alloc (.cells #[.slice none 0 0] 116)).alloc (.cells #[.int .u64 (z:Int)] 203)).heap.size=w.heap.size+2:=by simp
 rw[World.size_alloc]
 gi_wp2_with fail
 refine wp_rangeZ (gf:=230) (lb:=#[.pointer (some ⟨w.heap.size+1,0,none⟩)]) rfl (enters_of Tryz.func230 (by kernel_rfl) rfl)
  (groups_iter z (w.heap.size+1) (by omega) _ bN) (Below.refl _ _) (fun k hk=>by rw[hk,hsz];omega) (fun _=>rfl) (fun h k=>k.trans h) (fun W o=>World.putObj_heap_other (by rw[hsz];omega))
  (fun pre W=>(∃v,Boxed W w.heap.size 116 v∧W.ownsRow (w.heap.size+4) 5 1 v pre.length (pre.map encB))∧Below w.heap.size w W)
  (fun _ _ _=>False)
  (fun s A B h t=>by
    obtain⟨⟨v,hv,hr⟩,hb⟩:=h;refine⟨⟨v,t.boxed hv ?_,t.ownsRow hr ?_⟩,t.below hb (Nat.le_refl _) ?_⟩
    · rintro(e|e|e)<;>first|omega|(rw[hsz] at e;omega)
    · rintro k (e|e|e)<;>first|omega|(rw[hsz] at e;omega)
    · rintro k (e|e|e)<;>first|omega|(rw[hsz] at e;omega))
  (fun _ _ _ _ h _=>h.elim)
  ⟨⟨_,bO.alloc _,World.ownsRow_nil _ _ _ _⟩,hB0⟩
  ?a1 ?assign ?body ?done ?stop
 case assign=>
  intro l x W K hK
  dsimp only[encG]
  gi_wp2
  exact hK
 case body=>
  rintro l pre ⟨g,last⟩ W hW ⟨⟨v,hv,hrow⟩,hB⟩ hlt
  dsimp only
  rw[hsz] at hW;have hc:=hv.cell;have hbs:=hB.size;have Hz:Hid (W.heap[w.heap.size+1]?=W.heap[w.heap.size+1]?):=rfl;cases last
  all_goals
   gi_wp2_with (gi_at_builtin;refine wpListIn_append_own _ rfl _ _ 116 rfl (w.heap.size+4) 5 i0 (.int .u8 0) 1 1 Tryz.underlying116 hi hz0 hz1 hz2 rfl (by decide) _ _ _ rfl (hrow.alloc _) ⟨W.heap.size,0,none⟩ 1 1 [_] rfl rfl (cell_one_new _ _ _) (by simp[Value.oneCell']) (by unfold maxLen;omega) (by omega) (by simp;omega) ?_;intro v' w1 hown' hgrow _;obtain⟨g',cap',rfl⟩:=ownsRow_succ hown';obtain⟨hv1,hv2,hr2,hk2,hb2,hs2⟩:=boxAppend hv (by decide) hrow hB.size (Nat.le_refl _) (by omega) hown' hgrow;have hc1:=hv1.cell;have hf1:=hv1.frozen)
   exact⟨hk2.from _,hs2 _ (by omega) (by omega) (by omega),⟨_,hv2,by simpa[encB] using hr2⟩,hB.trans hb2⟩
 case done=>
  rintro xs W rfl ⟨⟨v,hv,hrow⟩,hB⟩ hK;rw[hsz] at hK;have hc:=hv.cell;have hbs:=hB.size;rw[grp,encB_grp 9 z (by omega)] at hrow;have hll:(grpF 9 z).length=(leb z).length:=by simp[leb,lebF]
  rw[hll] at hrow;have hconv:=convert_own (P:=Tryz.prog) 116 9 Tryz.underlying116 Tryz.underlying5 Tryz.underlying9 hrow;have hput:putI n=leb z:=by unfold putI;rw[HZ.out]
  have Hput:=hZ hput;clear hput hll hne hle
  gi_wp2
  refine⟨by simp,.inl ⟨_,_,rfl,run_takeDeferred (by rw[hsz];exact hK),?_⟩⟩;refine⟨_,results_tmp2 rfl _ _ _,?_,(Turns.putObj (Z:=fun k=>k=w.heap.size+2) W _ _ hsz).below hB (Nat.le_refl _) (fun k hk=>by omega)⟩;rw[Hput.out];rfl
 case stop=>
  rintro c pre W _ h _;exact h.elim
end Go.Proofs.YteeifhlhpiimoaaGreatDoor.Wr
end
section
namespace Go.Proofs.YteeifhlhpiimoaaGreatDoor.Wr
open Go Go.RowKit
theorem putString_yes (s:ByteArray) (h:s.size≤65536) (w:World):
 Calls Tryz.prog 124 #[.string s] w fun e w'=>e=.returned (.tuple #[.string (⟨(putI s.size).toArray⟩++s),.int .i64 0])∧Below w.heap.size w w':=by
 have hl:=putI_length s.size
 go_enter Tryz.func124,Tryz.ntmps124
 go_wp2_with (go_at_call 122;refine(putInt_yes _ (by omega) (by omega) _).mono ?_;rintro e w1 ⟨rfl,hb1⟩)
 go_ret2
 exact⟨rfl,hb1⟩
end Go.Proofs.YteeifhlhpiimoaaGreatDoor.Wr
end
section
namespace Go.Proofs.YteeifhlhpiimoaaGreatDoor
open Go Go.RowKit Go.Shelf Wr
attribute [local go_sem] Oper.semAt_some
def putsI (l:List Int):List UInt8:=l.flatMap putI
theorem putsI_len (l:List Int):(putsI l).length≤10*l.length:=by
 induction l with
 |nil=>simp[putsI]
 | cons n l ih=>
   have:=putI_length n;unfold putsI at ih⊢;rw[List.flatMap_cons,List.length_append,List.length_cons];omega
def iv (n:Int):Value:=.int .i64 n
def WireI (n:Int):Prop:=-4611686018427387903≤n∧n≤4611686018427387903
theorem put_walk (b B:Nat) (l:List UInt8) (ns:List Int) (A:Option Addr) (n c:Nat) (hn:ns.length=n) (hnm:n≤1000) (hl:l.length≤100000000) (w:World) (h:WtAt w B b l) (hB:B≤w.heap.size) (hA:LAt w w.heap.size A iv ns) (hAo:∀a,A=some a→∃cs T,w.heap[a.block]?=some (.cells cs T (0,0))∧T≠5∧a.block≠b) (hI:∀x∈ns,WireI x):
 Calls Tryz.prog 63 #[.pointer (some ⟨b,0,none⟩),.slice A n c] w fun e w'=>e=.returned (.tuple #[])∧WtAt w' B b (l++putsI ns)∧Below B w w'∧Lib.OthersKept 5 (some b) w w':=by
 have HW:=hZ h;have HA:=hZ hA;have HAO:=hZ hAo;have HI:=hZ hI;have HN:=hZ hn;clear h hA hAo hI hn
 go_enter Tryz.func63,Tryz.ntmps63
 go_wp2_with fail
 go_loopw [5,6,7,10] (fun _ _ _ v wr=> ∃i:Nat,v=.int .i64 (i:Int)∧i≤n∧WtAt wr B b (l++putsI (ns.take i))∧Below B w wr∧Lib.OthersKept 5 (some b) w wr) (fun _ _ _ v _=>match v with|.int _ k=>n-k.toNat|_=>0)
 case atStart=>exact⟨0,rfl,Nat.zero_le _,by simpa[putsI] using HW.out,Below.refl _ _,Lib.OthersKept.refl _ _ _⟩
 case round=>
  obtain⟨i,rfl,hi,hW,hB2,hK⟩:=hrel;have HW2:=hZ hW;have HB2:=hZ hB2;have HK:=hZ hK;clear hW hB2 hK
  by_cases hlt:i<n
  · have hl2:i<ns.length:=by rw[HN.out];exact hlt
    obtain⟨a,rfl,hab,hac⟩:=HA.out.get hl2;obtain⟨x,hx⟩:=oQ (ns[i]);have hmem:ns[i]∈ns:=List.getElem_mem hl2;rw[hx] at hac hmem;obtain⟨cs,T,ho,hT,hne⟩:=HAO.out a rfl
    have hac:wr.cell? (a.add i)=some (.int .i64 x):=by
     have hh:=HK.out a.block _ ho (fun e=>hne (Option.some.inj e)) (fun c fz e=>hT (by injection e));(have e1:(a.add i).block=a.block:=by unfold Addr.add;split<;>rfl);exact(World.cell?_of_block (by rw[e1,hh,ho])).trans hac
    have hwi:=HI.out x hmem;have HP:=hZ (fun W=>putInt_yes x hwi.1 hwi.2 W);(have htk:ns.take (i+1)=ns.take i++[x]:=by rw[List.take_succ_eq_append_getElem hl2,hx]);have HT:=hZ htk;(have d1:decide (i<n)=true:=by simp[hlt]);(have z1:(0:Int)≤(i:Int):=by omega);(have z2:(i:Int)<(n:Int):=by omega);(have w1:IntKind.i64.wrap ((i:Int)+1)=((i+1:Nat):Int):=by rw[IntKind.wrap_i64];omega);clear hmem hx htk hwi ho hT;obtain⟨D,hD⟩:∃D:ByteArray,(⟨(putI x).toArray⟩:ByteArray)=D:=⟨_,rfl⟩;rw[hD] at HP;(have hDl:D.data.toList=putI x:=by rw[←hD]);(have hDs:D.size≤10:=by rw[←hD];exact putI_length x);have HD:=hZ hDl
    have hbd:(l++putsI (ns.take i)).length+D.size≤1000000000:=by
     rw[List.length_append];have:=putsI_len (ns.take i);rw[List.length_take] at this;omega
    have HBD:=hZ hbd;clear hD hDl hDs hbd
    go_wp2_with (first
     | (go_at_call 122;(with_reducible refine(HP.out _).mono ?_);rintro e w2 ⟨rfl,hb⟩
        have HWR:=hZ (wt_write (HW2.out.below hb) D HBD.out (Nat.le_trans hB (Nat.le_trans HB2.out.size hb.size)));have HB3:=hZ (HB2.out.trans (hb.mono (Nat.le_trans hB HB2.out.size)));have HK3:=hZ (HK.out.trans (fun k o ho _ _=>(hb.block k (cells_lt ho)).trans ho))
        clear hb)
     | (go_at_call 123;(with_reducible refine HWR.out.mono ?_);rintro e w3 ⟨rfl,hw3,hb3,hk3⟩
        have HW4:=hZ hw3;have HB4:=hZ (HB3.out.trans hb3);have HK4:=hZ (HK3.out.trans hk3)
        clear hw3 hb3 hk3)
     |fail)
    go_round
    case rel=>
     refine⟨i+1,rfl,by omega,?_,HB4.out,HK4.out⟩;have:=HW4.out;rw[HD.out] at this;rw[HT.out];(have e:l++putsI (ns.take i++[x])=l++putsI (ns.take i)++putI x:=by unfold putsI;simp);rw[e];exact this
    case measure=>simp;omega
  · have d1:decide (i<n)=false:=by simp;omega
    go_wp2_with fail
    go_end0
    refine⟨rfl,?_,HB2.out,HK.out⟩;have:=HW2.out
    rwa[List.take_of_length_le (by rw[HN.out];omega)] at this
theorem eql_nil (w:World):(binOp .eql 107 .nilFunc .nilFunc).run Tryz.prog w=.ok (.bool true) w:=by kernel_rfl
theorem eql_fn (g:Nat) (w:World):(binOp .eql 107 (.func (.func g) #[] #[]) .nilFunc).run Tryz.prog w=.ok (.bool false) w:=by kernel_rfl
def WtP (w:World) (B b:Nat) (l:List UInt8) (e:Ending) (w':World):Prop:=e=.returned (.tuple #[])∧WtAt w' B b l∧Below B w w'∧Lib.OthersKept 5 (some b) w w'
theorem kept_below {W W':World} {b:Nat} (h:Below W.heap.size W W'):Lib.OthersKept 5 (some b) W W':=fun k _ ho _ _=>(h.block k (cells_lt ho)).trans ho
theorem WtAt.lt {W:World} {B b:Nat} {l:List UInt8} (h:WtAt W B b l):B≤b∧b<W.heap.size:=by
 obtain⟨p,v,h1,-,h3,-⟩:=h;exact⟨h1,cells_lt h3⟩
theorem part_num (b B:Nat) (l:List UInt8) (hl:l.length≤100000000) (g ci:Nat) (lo:Int) (e:Ent) (hf:Fits (.num g lo) (.num ci lo)) (w:World) (h:WtAt w B b l) (hB:B≤w.heap.size) (hI:WireI (e.num ci)):
 Calls Tryz.prog 64 #[.pointer (some ⟨b,0,none⟩),.agg #[.func (.func g) #[] #[],.int .i64 lo,.int .i64 1000000,.nilFunc],e.val] w (WtP w B b (l++putI (e.num ci))):=by
 cases hf with
 | num enters calls ix=>
   have HC:=hZ calls;have HX:=hZ (num_cell ix e);obtain⟨x,hx⟩:=oQ (e.num ci);rw[hx] at HX hI⊢;have HI:=hZ hI;have HW:=hZ h;have hnil:=eql_nil;clear h hI hx calls ix
   go_enter Tryz.func64,Tryz.ntmps64
   go_wp2_with (first
    | ((with_reducible refine box_ent rfl (.tmp 2) rfl e ?hx ?_);(case hx=>rfl);intro w1 he1 hb1 hs1
       rw[World.size_alloc] at he1;have nc:=he1.cell HX.out;have hbb:=(below_new w (.cells #[.func (.func g) #[] #[],.int .i64 lo,.int .i64 1000000,.nilFunc] 109));have HB1:=hZ (hbb.trans (hb1.mono hbb.size));have HS1:=hZ hs1;have p3:=cells_i (i:=3) (below_at2 hb1 (World.alloc_heap_new w (.cells #[.func (.func g) #[] #[],.int .i64 lo,.int .i64 1000000,.nilFunc] 109))) rfl;have p0:=cells_i (i:=0) (below_at2 hb1 (World.alloc_heap_new w (.cells #[.func (.func g) #[] #[],.int .i64 lo,.int .i64 1000000,.nilFunc] 109))) rfl
       have HPUT:=hZ (put_walk b B l [x] (some ⟨w1.heap.size,0,none⟩) 1 1 rfl (by decide) hl (w1.alloc (.cells #[.int .i64 x] 3)) ((HW.out.below HB1.out).below (below_new _ _)) (Nat.le_trans hB (Nat.le_trans HB1.out.size (below_new w1 _).size))
        (fun i y hy=>by
          match i,hy with
          |0,hy=>cases hy;exact⟨_,rfl,by simp,cells_i (World.alloc_heap_new w1 (.cells #[.int .i64 x] 3)) rfl⟩)
        (fun a ha=>by cases ha;exact⟨_,_,World.alloc_heap_new w1 _,by decide,by have:=HW.out.lt.2;have:=HB1.out.size;show w1.heap.size≠b;omega⟩)
        (fun y hy=>by rw[List.mem_singleton.1 hy];exact HI.out))
       clear he1 hb1 hs1 hbb)
    |(go_at_call 63;(with_reducible refine HPUT.out.mono ?_);rintro e3 w3 ⟨rfl,hw3,hb3,hk3⟩)
    |((with_reducible refine(HC.out _ _).mono ?_);rintro e2 w2 ⟨rfl,rfl⟩)
    |fail)
   have hfb:=HB1.out.trans ((below_new w2 (.cells #[.int .i64 x] 3)).mono HB1.out.size);have hfin:WtP w B b (l++putI x) (.returned (.tuple #[])) w3:=⟨rfl,by simpa[putsI] using hw3,(hfb.mono hB).trans hb3,(kept_below hfb).trans hk3⟩
   go_end0
   exact hfin
theorem ol_kind {α:Type} {w:World} {B:Nat} {e:TypeId} {f:α→List Value} {v:Value} {l:List α} (h:OL w B e 1 f v l):∀g,v.ownBlock=some g→∃cur,w.heap[g]?=some (.cells cur e (0,0)):=by
 intro g hg;rcases h.2 with⟨rfl,_⟩|⟨g',cap,cur,rfl,hb,h1,r⟩
 · cases hg
 · cases hg;exact⟨cur,h1⟩
def Ent.str (e:Ent) (i:Nat):ByteArray:=
 match i with
 |11=>e.ln
 |12=>e.ld
 |13=>e.hn
 |14=>e.hd
 |15=>e.rn
 |16=>e.rd
 |_=>e.text
theorem str_cell {i:Nat} (h:txtIx i) (e:Ent):e.cells[i]?=some (.string (e.str i)):=by
 rcases h with rfl|rfl|rfl|rfl|rfl|rfl|rfl<;>rfl
def putS (s:ByteArray):List UInt8:=putI s.size++s.data.toList
theorem putS_len {s:ByteArray} (h:s.size≤65536):(putS s).length≤65546:=by
 unfold putS;have:=putI_length s.size;rw[List.length_append,show s.data.toList.length=s.size from Array.length_toList];omega
def putsS (e:Ent) (is:List Nat):List UInt8:=is.flatMap fun i=>putS (e.str i)
theorem putsS_len (e:Ent) (is:List Nat) (h:∀i∈is,(e.str i).size≤65536):(putsS e is).length≤65546*is.length:=by
 induction is with
 |nil=>simp[putsS]
 | cons i is ih=>
   have h1:=putS_len (h i (by simp));have h2:=ih fun j hj=>h j (by simp[hj]);unfold putsS at h2⊢;rw[List.flatMap_cons,List.length_append,List.length_cons];omega
theorem part_txt (b B:Nat) (l:List UInt8) (hl:l.length≤100000000) (g:Nat) (is:List Nat) (e:Ent) (hf:Fits (.txt g) (.txt is)) (w:World) (h:WtAt w B b l) (hB:B≤w.heap.size) (hI:∀i∈is,(e.str i).size≤65536):
 Calls Tryz.prog 64 #[.pointer (some ⟨b,0,none⟩),.agg #[.nilFunc,.int .i64 0,.int .i64 0,.func (.func g) #[] #[]],e.val] w (WtP w B b (l++putsS e is)):=by
 cases hf with
 | txt enters calls ix len=>
   have HC:=hZ calls;have IX:=hZ ix;have HI:=hZ hI;have HW:=hZ h;have hfn:=eql_fn g;obtain⟨m,hm⟩:=oQ (is.length);rw[hm] at len;have HM:=hZ hm;clear h hI calls ix hm
   go_enter Tryz.func64,Tryz.ntmps64
   go_wp2_with (first
    | ((with_reducible refine box_ent rfl (.tmp 2) rfl e ?hx ?_);(case hx=>rfl);intro w1 he1 hb1 hs1
       rw[World.size_alloc] at he1;have HE1:=hZ he1;have hbb:=(below_new w (.cells #[.nilFunc,.int .i64 0,.int .i64 0,.func (.func g) #[] #[]] 109));have HB1:=hZ (hbb.trans (hb1.mono hbb.size));have p3:=cells_i (i:=3) (below_at2 hb1 (World.alloc_heap_new w (.cells #[.nilFunc,.int .i64 0,.int .i64 0,.func (.func g) #[] #[]] 109))) rfl
       clear he1 hb1 hs1 hbb)
    | ((with_reducible refine(HC.out _ _).mono ?_);rintro e6 w6 ⟨v6,rfl,ho6,hb6⟩
       obtain⟨A6,c6,rfl,-⟩:=ho6.slice;have HO6:=hZ (ho6.base (B':=w.heap.size) HB1.out.size);have HE6:=hZ (HE1.out.below hb6);have HB6:=bTr HB1 hb6;rw[HM.out] at HO6⊢
       clear ho6 hb6)
    |fail)
   clear p3 HE1 HB1
   go_loopw [7,8,9,25] (fun _ _ _ v wr=> ∃k:Nat,v=.int .i64 (k:Int)∧k≤m∧WtAt wr B b (l++putsS e (is.take k))∧EntAt wr (w.heap.size+1) e∧OL wr w.heap.size 129 1 (one (ptr (w.heap.size+1))) (.slice A6 m c6) is∧Below B w wr∧Lib.OthersKept 5 (some b) w wr) (fun _ _ _ v _=>match v with|.int _ k=>m-k.toNat|_=>0)
   case atStart=>exact⟨0,rfl,Nat.zero_le _,by simpa[putsS] using HW.out.below HB6.out,HE6.out,HO6.out,HB6.out.mono hB,kept_below HB6.out⟩
   case round=>
    obtain⟨k,rfl,hk,hW,hE,hO,hB2,hK⟩:=hrel;have HW2:=hZ hW;have HE2:=hZ hE;have HO2:=hZ hO;have HB2:=hZ hB2;have HK2:=hZ hK
    by_cases hkm:k<m
    · have hkl:k<is.length:=by rw[HM.out];exact hkm
      obtain⟨a,rfl,-,hac⟩:=hO.lat.get hkl;obtain⟨ci,hci⟩:=oQ (is[k]);have hmem:is[k]∈is:=List.getElem_mem hkl;rw[hci] at hac hmem;unfold ptr at hac;(have htake:is.take (k+1)=is.take k++[ci]:=by rw[List.take_succ_eq_append_getElem hkl,hci]);have HT:=hZ htake;have nc:=hE.cell (str_cell (IX.out ci hmem) e);have hsz:=HI.out ci hmem;obtain⟨s,hs⟩:=oQ (e.str ci);rw[hs] at nc hsz;have HS:=hZ hs;have HP:=hZ (fun W=>putString_yes s hsz W);obtain⟨D,hD⟩:∃D:ByteArray,((⟨(putI s.size).toArray⟩:ByteArray)++s)=D:=⟨_,rfl⟩;rw[hD] at HP;have hDl:D.data.toList=putS s:=by rw[←hD];unfold putS;simp
      have hDs:D.size≤65546:=by
       have h9:=putS_len hsz;rw[←hDl] at h9;exact h9
      have HD:=hZ hDl
      have hbd:(l++putsS e (is.take k)).length+D.size≤1000000000:=by
       rw[List.length_append];have:=putsS_len e (is.take k) (fun i hi=>HI.out i (List.mem_of_mem_take hi));rw[List.length_take] at this;omega
      have HBD:=hZ hbd;(have d1:decide (k<m)=true:=by simp[hkm]);(have z1:(0:Int)≤(k:Int):=by omega);(have z2:(k:Int)<(m:Int):=by omega);(have w1:IntKind.i64.wrap ((k:Int)+1)=((k+1:Nat):Int):=by rw[IntKind.wrap_i64];omega);clear hmem hci htake hs hD hDl hDs hbd hW hE hO hB2 hK hsz hkl
      go_wp2_with (first
       | (go_at_call 124;(with_reducible refine(HP.out _).mono ?_);rintro e2 w2 ⟨rfl,hb⟩
          have HWR:=hZ (wt_write (HW2.out.below hb) D HBD.out (Nat.le_trans hB (Nat.le_trans HB2.out.size hb.size)));have HB3:=hZ (HB2.out.trans (hb.mono (Nat.le_trans hB HB2.out.size)));have HK3:=hZ ((kept_below (b:=b) hb))
          clear hb)
       | (go_at_call 123;(with_reducible refine HWR.out.mono ?_);rintro e3 w3 ⟨rfl,hw3,hb3,hk3⟩
          have HW4:=hZ hw3;have HB4:=hZ (HB3.out.trans hb3);have HK4:=hZ (HK3.out.trans hk3)
          clear hw3 hb3 hk3)
       |fail)
      go_round
      case rel=>
       have hbl:=HW.out.lt.2;refine⟨k+1,rfl,by omega,?_,HK4.out _ _ HE2.out (fun e9=>by have:=Option.some.inj e9;omega) (fun c fz e9=>by injection e9 with e1 e2 e3;exact absurd e2 (by decide)),HO2.out.keep (fun q hq=> ?_),HB4.out,HK2.out.trans HK4.out⟩
       · have:=HW4.out
         rw[HD.out] at this;rw[HT.out];(have e9:l++putsS e (is.take k++[ci])=l++putsS e (is.take k)++putS s:=by unfold putsS;rw[←HS.out];simp);rw[e9];exact this
       · obtain⟨cur,hcur⟩:=ol_kind HO2.out q hq
         have hge:=(HO2.out.lt q hq).1;rw[hcur];exact HK4.out _ _ hcur (fun e9=>by have:=Option.some.inj e9;omega) (fun c fz e9=>by injection e9 with e1 e2 e3;exact absurd e2 (by decide))
      case measure=>simp;omega
    · have d1:decide (k<m)=false:=by simp;omega
      clear hW hE hO hB2 hK;go_wp2_with fail
      go_end0
      refine⟨rfl,?_,HB2.out,HK2.out⟩;have:=HW2.out
      rwa[List.take_of_length_le (by rw[HM.out];omega)] at this
def keyIx (k:Int):Nat:=if k=2∨k=6∨k=8 then 8 else 1
def keyE (e:Ent):List UInt8:=if validE e then putI e.kind++putI (e.num (keyIx e.kind)) else[]
def KeyP (w:World) (l:List UInt8) (e:Ending) (w':World):Prop:=e=.returned (.string ⟨l.toArray⟩)∧Below w.heap.size w w'
theorem putI_ne (n:Int):putI n≠[]:=by
 have:∀z,grpF 9 z≠[]:=fun z=>by rw[grpF];split<;>simp
 unfold putI leb lebF;simpa using this (zig n)
theorem key_core (e:Ent) (hs:e.Small) (d:ShapeD) (ci:Nat) (w:World) (hp:Pow10 w) (hS:∀W,Calls Tryz.prog 62 #[.int .i64 e.kind] W (ShapeP W d)) (hf:Fits (.num d.key 1) (.num ci 1)) (hv:validE e=true) (hk:WireI e.kind) (hx:WireI (e.num ci)):
 Calls Tryz.prog 17 #[e.val] w (KeyP w (putI e.kind++putI (e.num ci))):=by
 have HV:=hZ (fun W (h:Below w.heap.size w W)=>valid_walk_E e hs W (hp.below h));rw[hv] at HV;have HS:=hZ hS;have IE:=hZ (ientry (e:=e));have HF:=hZ hf;have HK:=hZ hk;have HX:=hZ hx;obtain⟨pl,hpl⟩:=oQ (d.parts.length);obtain⟨rl,hrl⟩:=oQ (d.rest.length);have HPL:=hZ hpl;have HRL:=hZ hrl;clear hs hp hS hf hv hk hx hpl hrl
 go_enter Tryz.func17,Tryz.ntmps17
 go_wp2_with (first
  | ((with_reducible refine box_ent rfl (.tmp 0) rfl e ?hx ?_);(case hx=>rfl);intro w1 he1 hb1 hs1
     have HE1:=hZ he1;have HB1:=hZ hb1;have HRG:=hZ (range_of (cs:=e.cells) he1)
     clear he1 hb1 hs1)
  |((with_reducible refine wpList_load_mid rfl 33 (.tmp 1) rfl w.heap.size 0 ?hx e.cells _ HRG.out Tryz.underlying33 rfl IE.out ?_);(case hx=>rfl))
  | (go_at_call 20;(with_reducible refine(HV.out _ HB1.out).mono ?_);rintro e2 w2 ⟨rfl,hb2⟩
     have HE2:=hZ (HE1.out.below hb2);have HB2:=bTr HB1 hb2;have x0:=HE2.out.cell (i:=0) rfl
     clear hb2)
  | (go_at_call 62;(with_reducible refine(HS.out _).mono ?_);rintro e3 w3 ⟨v,rfl,hsh,hb3⟩
     obtain⟨b1,R,cr,rfl,-,-⟩:=hsh.open;rw[HPL.out,HRL.out];have HE3:=hZ (HE2.out.below hb3);have HB3:=bTr HB2 hb3;obtain⟨k1,k2,k3,k4⟩:=two_boxes w3 #[.slice (some ⟨b1,0,none⟩) pl pl,.func (.func d.key) #[] #[],.int .i64 1,.int .i64 1000000,.nilFunc,.slice R rl cr] #[.pointer none,.slice none 0 0] 112 120;have he5:=HE3.out.below k4;have x1:=he5.cell (i:=0) rfl;have hb5:=HB3.out.trans (k4.mono HB3.out.size);have hwt:WtAt ((w3.alloc (.cells #[.slice (some ⟨b1,0,none⟩) pl pl,.func (.func d.key) #[] #[],.int .i64 1,.int .i64 1000000,.nilFunc,.slice R rl cr] 112)).alloc (.cells #[.pointer none,.slice none 0 0] 120)) w.heap.size (w3.heap.size+1) []:=⟨_,_,Nat.le_succ_of_le HB3.out.size,.inl rfl,k2,World.ownsRowF_nil _ _ _ _,by simp[Value.ownBlock]⟩;have k6:=below_new ((w3.alloc (.cells #[.slice (some ⟨b1,0,none⟩) pl pl,.func (.func d.key) #[] #[],.int .i64 1,.int .i64 1000000,.nilFunc,.slice R rl cr] 112)).alloc (.cells #[.pointer none,.slice none 0 0] 120)) (.cells #[.int .i64 e.kind] 3);have hn:=World.alloc_heap_new ((w3.alloc (.cells #[.slice (some ⟨b1,0,none⟩) pl pl,.func (.func d.key) #[] #[],.int .i64 1,.int .i64 1000000,.nilFunc,.slice R rl cr] 112)).alloc (.cells #[.pointer none,.slice none 0 0] 120)) (.cells #[.int .i64 e.kind] 3);rw[k3] at hn
     have HPUT:=hZ (put_walk (w3.heap.size+1) w.heap.size [] [e.kind] (some ⟨w3.heap.size+2,0,none⟩) 1 1 rfl (by decide) (by decide) (((w3.alloc (.cells #[.slice (some ⟨b1,0,none⟩) pl pl,.func (.func d.key) #[] #[],.int .i64 1,.int .i64 1000000,.nilFunc,.slice R rl cr] 112)).alloc (.cells #[.pointer none,.slice none 0 0] 120)).alloc (.cells #[.int .i64 e.kind] 3)) (hwt.below k6) (Nat.le_trans hb5.size k6.size)
      (fun i y hy=>by
        match i,hy with
        |0,hy=>cases hy;exact⟨_,rfl,cells_lt hn,cells_i hn rfl⟩)
      (fun a ha=>by cases ha;exact⟨_,_,hn,by decide,by show w3.heap.size+2≠w3.heap.size+1;omega⟩)
      (fun y hy=>by rw[List.mem_singleton.1 hy];exact HK.out))
     have HE5:=hZ (he5.below k6);have HSH:=hZ (below_at2 k6 k1);have HB5:=hZ (hb5.trans (k6.mono hb5.size));have hlt5:=cells_lt HE3.out;have HLT5:=hZ hlt5
     clear hb3 hsh k1 k2 k3 k4 he5 hb5 hwt k6 hn hlt5)
  | (go_at_call 63;(with_reducible refine HPUT.out.mono ?_);rintro e4 w4 ⟨rfl,hw4,hb4,hk4⟩
     have HB6:=hZ (HB5.out.trans hb4);have hlt5:=HLT5.out;have hsh4:=hk4 _ _ HSH.out (fun e9=>by have:=Option.some.inj e9;omega) (fun c fz e9=>by injection e9 with e1 e2 e3;exact absurd e2 (by decide));have he4:=hk4 _ _ HE5.out (fun e9=>by have:=Option.some.inj e9;omega) (fun c fz e9=>by injection e9 with e1 e2 e3;exact absurd e2 (by decide));have s1:=cells_i (i:=1) hsh4 rfl;have s2:=cells_i (i:=2) hsh4 rfl;have s3:=cells_i (i:=3) hsh4 rfl;have s4:=cells_i (i:=4) hsh4 rfl;have HRG4:=hZ (range_of (cs:=e.cells) he4);have HPART:=hZ (part_num (w3.heap.size+1) w.heap.size _ (by have:=putsI_len [e.kind];simp at this⊢;omega) d.key ci 1 e HF.out w4 hw4 HB6.out.size HX.out)
     clear hw4 hb4 hk4 hsh4 he4 hlt5)
  |((with_reducible refine wpList_load_mid rfl 33 (.tmp 1) rfl w.heap.size 0 ?hx e.cells _ HRG4.out Tryz.underlying33 rfl IE.out ?_);(case hx=>rfl))
  | (go_at_call 64;(with_reducible refine HPART.out.mono ?_);rintro e5 w5 ⟨rfl,hw5,hb5,hk5⟩
     have HSTR:=hZ (wt_string hw5 (by simp[putI_ne]));have HB7:=hZ (HB6.out.trans hb5)
     clear hw5 hb5 hk5)
  |(go_at_call 65;(with_reducible refine HSTR.out.mono ?_);rintro e6 w6 ⟨rfl,hb6,hk6⟩)
  |fail)
 have hps:putsI [e.kind]=putI e.kind:=by unfold putsI;simp
 have hfin:KeyP w (putI e.kind++putI (e.num ci)) (.returned (.string ⟨(putsI [e.kind]++putI (e.num ci)).toArray⟩)) w6:=⟨by rw[hps],HB7.out.trans hb6⟩;clear hps;go_ret;exact hfin
theorem valid_kind {e:Ent} (h:validE e=true):1≤e.kind∧e.kind≤9:=by
 by_cases hk:e.kind<1∨9<e.kind
 · have:validE e=false:=by
    unfold validE shapeQ;rw[if_neg (by omega),if_neg (by omega),if_neg (by omega),if_neg (by omega),if_neg (by omega),if_neg (by omega),if_neg (by omega),if_neg (by omega),if_neg (by omega)]
   rw[this] at h;cases h
 · omega
theorem valid_key {e:Ent} (h:validE e=true):1≤e.num (keyIx e.kind)∧e.num (keyIx e.kind)≤1000000:=by
 have hk:=valid_kind h
 rcases(by omega:e.kind=1∨e.kind=2∨e.kind=3∨e.kind=4∨e.kind=5∨e.kind=6∨e.kind=7∨e.kind=8∨e.kind=9) with q|q|q|q|q|q|q|q|q<;>
 · unfold validE at h
   rw[q] at h⊢;simp[shapeQ,checks] at h;simp[keyIx];omega
theorem key_walk (e:Ent) (hs:e.Small) (w:World) (hp:Pow10 w):Calls Tryz.prog 17 #[e.val] w (KeyP w (keyE e)):=by
 unfold keyE
 by_cases hv:validE e=true
 · rw[if_pos hv]
   have hk:=valid_kind hv;rcases(by omega:e.kind=1∨e.kind=2∨e.kind=3∨e.kind=4∨e.kind=5∨e.kind=6∨e.kind=7∨e.kind=8∨e.kind=9) with q|q|q|q|q|q|q|q|q
   · have hkx:keyIx e.kind=1:=by rw[q];decide
     have hb:=valid_key hv;rw[hkx] at hb⊢;exact key_core e hs _ 1 w hp (fun W=>by rw[q];exact shape1 W) (fit_id 1) hv (by unfold WireI;omega) (by unfold WireI;omega)
   · have hkx:keyIx e.kind=8:=by rw[q];decide
     have hb:=valid_key hv;rw[hkx] at hb⊢;exact key_core e hs _ 8 w hp (fun W=>by rw[q];exact shape2 W) (fit_item 1) hv (by unfold WireI;omega) (by unfold WireI;omega)
   · have hkx:keyIx e.kind=1:=by rw[q];decide
     have hb:=valid_key hv;rw[hkx] at hb⊢;exact key_core e hs _ 1 w hp (fun W=>by rw[q];exact shape3 W) (fit_id 1) hv (by unfold WireI;omega) (by unfold WireI;omega)
   · have hkx:keyIx e.kind=1:=by rw[q];decide
     have hb:=valid_key hv;rw[hkx] at hb⊢;exact key_core e hs _ 1 w hp (fun W=>by rw[q];exact shape4 W) (fit_id 1) hv (by unfold WireI;omega) (by unfold WireI;omega)
   · have hkx:keyIx e.kind=1:=by rw[q];decide
     have hb:=valid_key hv;rw[hkx] at hb⊢;exact key_core e hs _ 1 w hp (fun W=>by rw[q];exact shape5 W) (fit_id 1) hv (by unfold WireI;omega) (by unfold WireI;omega)
   · have hkx:keyIx e.kind=8:=by rw[q];decide
     have hb:=valid_key hv;rw[hkx] at hb⊢;exact key_core e hs _ 8 w hp (fun W=>by rw[q];exact shape6 W) (fit_item 1) hv (by unfold WireI;omega) (by unfold WireI;omega)
   · have hkx:keyIx e.kind=1:=by rw[q];decide
     have hb:=valid_key hv;rw[hkx] at hb⊢;exact key_core e hs _ 1 w hp (fun W=>by rw[q];exact shape7 W) (fit_id 1) hv (by unfold WireI;omega) (by unfold WireI;omega)
   · have hkx:keyIx e.kind=8:=by rw[q];decide
     have hb:=valid_key hv;rw[hkx] at hb⊢;exact key_core e hs _ 8 w hp (fun W=>by rw[q];exact shape8 W) (fit_item 1) hv (by unfold WireI;omega) (by unfold WireI;omega)
   · have hkx:keyIx e.kind=1:=by rw[q];decide
     have hb:=valid_key hv;rw[hkx] at hb⊢;exact key_core e hs _ 1 w hp (fun W=>by rw[q];exact shape9 W) (fit_id 1) hv (by unfold WireI;omega) (by unfold WireI;omega)
 · rw [if_neg hv]
   have HV:=hZ (fun W (h:Below w.heap.size w W)=>valid_walk_E e hs W (hp.below h));rw[show validE e=false by simpa using hv] at HV;have IE:=hZ (ientry (e:=e));clear hs hp hv
   go_enter Tryz.func17,Tryz.ntmps17
   go_wp2_with (first
    | ((with_reducible refine box_ent rfl (.tmp 0) rfl e ?hx ?_);(case hx=>rfl);intro w1 he1 hb1 hs1
       have HB1:=hZ hb1;have HRG:=hZ (range_of (cs:=e.cells) he1)
       clear he1 hb1 hs1)
    |((with_reducible refine wpList_load_mid rfl 33 (.tmp 1) rfl w.heap.size 0 ?hx e.cells _ HRG.out Tryz.underlying33 rfl IE.out ?_);(case hx=>rfl))
    | (go_at_call 20;(with_reducible refine(HV.out _ HB1.out).mono ?_);rintro e2 w2 ⟨rfl,hb2⟩
       have HB2:=bTr HB1 hb2
       clear hb2)
    |fail)
   go_ret;exact⟨rfl,HB2.out⟩
end Go.Proofs.YteeifhlhpiimoaaGreatDoor
end
