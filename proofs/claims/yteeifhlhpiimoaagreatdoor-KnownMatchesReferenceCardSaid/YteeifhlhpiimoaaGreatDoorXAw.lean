/-
  An entry by value, opened as an argument; the like for what stands beside it. Condition: the argument is what the row's first reading says.
-/
import Derived.Test.YteeifhlhpiimoaaGreatDoorXAq
import Derived.Test.YteeifhlhpiimoaaGreatDoorXAe
import Derived.Lib.SmallJoins
import Derived.Test.YteeifhlhpiimoaaGreatDoorXAa
set_option maxRecDepth 100000
open Go renaming DataW→oq,MemPlace→Gs,Value→ai
open Go.Act renaming put→sV
open Go.Addr renaming add→jy
open Go.DataW renaming Trod→NQ,trod→D7,trod_int→B5,trod_struct→acY
open Go.Proofs.Tryz renaming prog→ah,underlying3→nL,underlying67→KE
open List renaming ext_getElem?→pO,getElem?_drop→s8,getElem?_eq_none→jz,getElem?_take→s9,setIfInBounds_toArray→ta,set_cons_succ→tc,set_cons_zero→td
section
namespace Go.Proofs.YteeifhlhpiimoaaGreatDoor
open Go Go.RowKit Go.ChangeShapes Go.WideShapes Go.Deep
theorem MX {cs:List ai} {o:Nat} {v:ai} (h:(cs.drop o).take 1=[v]):cs[o]?=some v:=by
 have h1:=congrArg (fun l:List ai=>l[0]?) h;simpa[s9,s8] using h1
theorem Yi {H:Type} {fs:Array Field} {xs:List (oq H×List Gs)} {g:Field→Option (oq H×List Gs)} (hl:xs.length=fs.size) (hi:∀(i:Nat) (f:Field),fs[i]?=some f→g f=xs[i]?) (i:Nat) (f:Field) (h:fs[i]?=some f):∃x,g f=some x:=by
 have h1:=hi i f h;rw[List.getElem?_eq_getElem (by rw[hl];exact(Array.getElem?_eq_some_iff.1 h).1)] at h1;exact⟨_,h1⟩
section
variable {H:Type} {enc:TypeId×ai→H} {W:World} {base n:Nat} {sp:Nat→Bool} {held:Bool} {cs:List ai} {o:Nat} {x:oq H×List Gs}
theorem xe (h:D7 enc ah W base sp held n 3 ((cs.drop o).take (ah.cellsOf 3))=some x):∃z,cs[o]?=some (.int .i64 z):=by
 obtain⟨z,e,_⟩:=B5 nL h;rw[show ah.cellsOf 3=1 by kernel_rfl] at e;exact⟨z,MX e⟩
theorem TA (h:D7 enc ah W base sp held n 9 ((cs.drop o).take (ah.cellsOf 9))=some x):∃z,cs[o]?=some (.string z):=by
 obtain⟨z,e,_⟩:=DataW.trod_string Tryz.underlying9 h;rw[show ah.cellsOf 9=1 by kernel_rfl] at e;exact⟨z,MX e⟩
theorem ah3 (h:D7 enc ah W base sp held n 4 ((cs.drop o).take (ah.cellsOf 4))=some x):∃z,cs[o]?=some (.bool z):=by
 obtain⟨z,e,_⟩:=DataW.trod_bool Tryz.underlying4 h;rw[show ah.cellsOf 4=1 by kernel_rfl] at e;exact⟨z,MX e⟩
theorem S7 (h:D7 enc ah W base sp held n 29 ((cs.drop o).take (ah.cellsOf 29))=some x):∃a b,cs[o]?=some (.string a)∧cs[o+1]?=some (.string b):=by
 obtain⟨y0,y1,m,_,_,h0,h1⟩:=trod_struct2 Tryz.underlying29 h;obtain⟨a,ha⟩:=TA h0;obtain⟨b,hb⟩:=TA h1;rw[show ah.cellsOf 29=2 by kernel_rfl] at ha hb;refine⟨a,b,?_,?_⟩
 ·
  simpa[s9,s8] using ha
 ·
  simpa[s9,s8] using hb
theorem al0 (h:D7 enc ah W base sp held n 31 ((cs.drop o).take (ah.cellsOf 31))=some x):∃a b c d,cs[o]?=some (.string a)∧cs[o+1]?=some (.string b)∧cs[o+2]?=some (.string c)∧cs[o+3]?=some (.string d):=by
 obtain⟨y0,y1,m,_,_,h0,h1⟩:=trod_struct2 Tryz.underlying31 h;obtain⟨a,b,ha,hb⟩:=S7 h0;obtain⟨c,d,hc,hd⟩:=S7 h1;rw[show ah.cellsOf 31=4 by kernel_rfl] at ha hb hc hd;refine⟨a,b,c,d,?_,?_,?_,?_⟩
 ·
  simpa[s9,s8] using ha
 ·
  simpa[s9,s8] using hb
 ·
  simpa[s9,s8] using hc
 ·
  simpa[s9,s8] using hd
end
section
variable {H:Type} {enc:TypeId×ai→H} {W:World} {base n:Nat} {sp:Nat→Bool} {held:Bool} {b0:Nat} {r:Reach} {v:ai} {d:oq H} {p:List Gs}
theorem ai3 {cs:List ai} {x:oq H×List Gs} (hc:cs.length=18) (hf:D7 enc ah W base sp held n 33 cs=some x):∃e:af,cs=e.cells:=by
 obtain⟨xs,m,_,_,_,oc,hi⟩:=acY Tryz.underlying33 hf;have hg:=Yi oc hi;obtain⟨z0,e0⟩:=xe (hg 0 _ rfl).choose_spec;obtain⟨z1,e1⟩:=xe (hg 1 _ rfl).choose_spec;obtain⟨z2,e2⟩:=xe (hg 2 _ rfl).choose_spec;obtain⟨z3,e3⟩:=xe (hg 3 _ rfl).choose_spec;obtain⟨z5,e5⟩:=xe (hg 5 _ rfl).choose_spec;obtain⟨z6,e6⟩:=xe (hg 6 _ rfl).choose_spec;obtain⟨z7,e7⟩:=xe (hg 7 _ rfl).choose_spec;obtain⟨z8,e8⟩:=xe (hg 8 _ rfl).choose_spec;obtain⟨z9,e9⟩:=xe (hg 9 _ rfl).choose_spec;obtain⟨z10,e10⟩:=xe (hg 10 _ rfl).choose_spec;obtain⟨z4,e4⟩:=ah3 (hg 4 _ rfl).choose_spec;obtain⟨a,b,c,d',e11,e12,e13,e14⟩:=al0 (hg 11 _ rfl).choose_spec;obtain⟨f,g,e15,e16⟩:=S7 (hg 12 _ rfl).choose_spec;obtain⟨t,e17⟩:=TA (hg 13 _ rfl).choose_spec;refine⟨⟨z0,z1,z2,z3,z4,z5,z6,z7,z8,z9,z10,a,b,c,d',f,g,t⟩,?_⟩;apply pO;intro i;rcases Nat.lt_or_ge i 18 with h|h
 · have h18:i=0∨i=1∨i=2∨i=3∨i=4∨i=5∨i=6∨i=7∨i=8∨i=9∨i=10∨i=11∨i=12∨i=13∨i=14∨i=15∨i=16∨i=17:=by omega
   rcases h18 with rfl|rfl|rfl|rfl|rfl|rfl|rfl|rfl|rfl|rfl|rfl|rfl|rfl|rfl|rfl|rfl|rfl|rfl<;>first|exact e0|exact e1|exact e2|exact e3|exact e4|exact e5|exact e6|exact e7|exact e8|exact e9|exact e10|exact e11|exact e12|exact e13|exact e14|exact e15|exact e16|exact e17
 · rw[jz (by omega),jz (by exact h)]
theorem alM (hv:Value.okWide ah W r b0 25 v) (h:NQ enc ah W base sp held 25 v d p):
 ∃(A:Option Addr) (l:List af) (cap:Nat),v=.slice A l.length cap∧l.length≤maxLen∧tj W W.heap.size A 18 af.cells l:=by
 obtain⟨A,l,cap,h1,h2,h3,h4,_⟩:=abr (e:=33) af.cells (fun _=>True) Tryz.underlying25 18 (by kernel_rfl) (by decide) (fun n cs x hl ht=>by
  obtain⟨e,he⟩:=ai3 hl ht
  exact⟨e,he,trivial⟩) hv h
 exact⟨A,l,cap,h1,by omega,h4⟩
theorem SC {cs:List ai} {o:Nat} {x:oq H×List Gs} (h:D7 enc ah W base sp held n 3 ((cs.drop o).take (ah.cellsOf 3))=some x):∃z,cs[o]?=some (.int .i64 z)∧iN z:=by
 obtain⟨z,e,_,wz⟩:=B5 nL h;rw[show ah.cellsOf 3=1 by kernel_rfl] at e;exact⟨z,MX e,bounds_i64 wz⟩
theorem alL (hv:Value.okWide ah W r b0 67 v) (h:NQ enc ah W base sp held 67 v d p):∃a b c:Int,v=.agg #[.int .i64 a,.int .i64 b,.int .i64 c]∧iN a∧iN b∧iN c:=by
 obtain⟨cs,rfl,aU⟩:=okWide_struct KE hv;have hc:cs.toList.length=3:=by rw[Array.length_toList,aU];kernel_rfl
 obtain⟨fuel,hf⟩:=h;obtain⟨xs,m,_,_,_,oc,hi⟩:=acY KE hf;have hg:=Yi oc hi;obtain⟨z0,e0,w0⟩:=SC (hg 0 _ rfl).choose_spec;obtain⟨z1,e1,w1⟩:=SC (hg 1 _ rfl).choose_spec;obtain⟨z2,e2,w2⟩:=SC (hg 2 _ rfl).choose_spec;refine⟨z0,z1,z2,?_,w0,w1,w2⟩
 have:cs.toList=[.int .i64 z0,.int .i64 z1,.int .i64 z2]:=by
  apply pO;intro i;rcases Nat.lt_or_ge i 3 with h|h
  · obtain rfl|rfl|rfl:i=0∨i=1∨i=2:=by omega
    · exact e0
    · exact e1
    · exact e2
  · rw[jz (by omega),jz (by exact h)]
 exact congrArg Value.agg (by rw[←this,Array.toArray_toList])
end
end Go.Proofs.YteeifhlhpiimoaaGreatDoor
end
