/-
  Contracts of the digest laws' own functions: left. Conditions: bounds.
-/
import Derived.Test.YtjelniemoambaaaDoorSane
import Derived.Test.YtjelniemoambaaaDoorExtP
namespace Go.Proofs.YtjelniemoambaaaDoor
open Go Go.RowKit Go.Shelf

theorem OL.slice0 {α : Type} {w : World} {B : Nat} {e : TypeId} {size : Nat} {f : α → List Value} {v : Value} {l : List α} (h : OL w B e size f v l) : ∃ A cap, v = .slice A l.length cap ∧ l.length ≤ cap ∧ cap ≤ maxLen ∧ (A = none → cap = 0) := by
  rcases h.2 with ⟨rfl, h0⟩ | ⟨g, cap, cur, hv, hb, hg, hc, hm, _⟩
  · exact ⟨none, 0, by rw [h0], by omega, by unfold maxLen; omega, fun _ => rfl⟩
  · exact ⟨_, cap, hv, hc, hm, fun h => by cases h⟩
/-- How memory stands inside a law: slices that show lists. -/
structure LawSt (w : World) (ls : List (Option Addr × List ByteArray)) (W : World) : Prop where
  l : ∀ x ∈ ls, LAt W W.heap.size x.1 .string x.2
  k : KAt W
  b : Below w.heap.size w W
theorem LawSt.below {w W W' : World} {ls : List (Option Addr × List ByteArray)} (h : LawSt w ls W) (hb : Below W.heap.size W W') : LawSt w ls W' :=
  ⟨fun x hx => ((h.l x hx).below hb).more hb.size, h.k.below hb, h.b.trans (hb.mono h.b.size)⟩
theorem LawSt.add {w W : World} {ls : List (Option Addr × List ByteArray)} (h : LawSt w ls W) {A : Option Addr} {l : List ByteArray} (hl : LAt W W.heap.size A .string l) : LawSt w ((A, l) :: ls) W :=
  ⟨fun x hx => by rcases List.mem_cons.1 hx with rfl | h2; (· exact hl); (· exact h.l x h2), h.k, h.b⟩
theorem LawSt.root {w W : World} {ls : List (Option Addr × List ByteArray)} (h : LawSt w ls W) {A : Option Addr} {l : List ByteArray} (hm : (A, l) ∈ ls) (n cap : Nat) (hn : l.length = n) (hl : n ≤ 1000) (hs : ∀ s ∈ l, s.size ≤ 100000) :
    Calls Tryd.prog 19 #[.slice A n cap] W fun e W' => e = .returned (.string (rootS l)) ∧ LawSt w ls W' :=
  (root_at A l n cap hn hl hs W (h.l _ hm) h.k).mono fun _ _ ⟨he, hb⟩ => ⟨he, h.below hb⟩
theorem LawSt.node {w W : World} {ls : List (Option Addr × List ByteArray)} (h : LawSt w ls W) (a b : ByteArray) (hs : a.size + b.size ≤ 999000) :
    Calls Tryd.prog 32 #[.string a, .string b] W fun e W' => e = .returned (.string (nodeS a b)) ∧ LawSt w ls W' :=
  (node_walk a b W hs h.k).mono fun _ _ ⟨he, hb⟩ => ⟨he, h.below hb⟩
theorem LawSt.leaf {w W : World} {ls : List (Option Addr × List ByteArray)} (h : LawSt w ls W) (a : ByteArray) (hs : a.size ≤ 999000) :
    Calls Tryd.prog 29 #[.string a] W fun e W' => e = .returned (.string (leafS a)) ∧ LawSt w ls W' :=
  (leaf_walk a W hs h.k).mono fun _ _ ⟨he, hb⟩ => ⟨he, h.below hb⟩
theorem LawSt.sum {w W : World} {ls : List (Option Addr × List ByteArray)} (h : LawSt w ls W) (a : ByteArray) (hs : a.size ≤ 1000000) :
    Calls Tryd.prog 30 #[.string a] W fun e W' => e = .returned (.string (shaS a.data.toList)) ∧ LawSt w ls W' :=
  (sum_walk a hs W h.k).mono fun _ _ ⟨he, hb⟩ => ⟨he, h.below hb⟩
theorem LawSt.vext {w W : World} {ls : List (Option Addr × List ByteArray)} (h : LawSt w ls W) {A : Option Addr} {p : List ByteArray} (hm : (A, p) ∈ ls) (old root : ByteArray) (m n : Int) (np cap : Nat) (hnp : p.length = np) (hp : np ≤ 1000) (hcap : np ≤ cap) (hn : n ≤ 9223372036854775807) :
    Calls Tryd.prog 23 #[.string old, .int .i64 m, .string root, .int .i64 n, .slice A np cap] W fun e W' => e = .returned (.bool (verE old m root n p)) ∧ LawSt w ls W' :=
  (vext_walk old root m n A p np cap hnp hp hcap hn W (h.l _ hm) h.k).mono fun _ _ ⟨he, hb⟩ => ⟨he, h.below hb⟩
theorem LawSt.ver {w W : World} {ls : List (Option Addr × List ByteArray)} (h : LawSt w ls W) {A : Option Addr} {p : List ByteArray} (hm : (A, p) ∈ ls) (root s : ByteArray) (n i : Int) (np cap : Nat) (hnp : p.length = np) (hp : np ≤ 1000) (hcap : np ≤ cap) (hs : s.size ≤ 100000) (hn : n ≤ 9223372036854775807) :
    Calls Tryd.prog 21 #[.string root, .int .i64 n, .int .i64 i, .string s, .slice A np cap] W fun e W' => e = .returned (.bool (verB root n i s p)) ∧ LawSt w ls W' :=
  (verify_walk root s n i A p np cap hnp hp hcap hs hn W (h.l _ hm) h.k).mono fun _ _ ⟨he, hb⟩ => ⟨he, h.below hb⟩
theorem leftN_of {k n e : Nat} (hk : k = 2 ^ e) (h1 : k < n) (h2 : n ≤ 2 * k) : leftN n = k := by
  obtain ⟨r, rfl⟩ : ∃ r, n = k + r := ⟨n - k, by omega⟩
  rw [hk]; exact leftN_pow (by omega) (by omega)

set_option maxHeartbeats 2000000 in
theorem lawleft_walk (n : Nat) (h2 : 2 ≤ n) (h63 : n ≤ 9223372036854775807) (w : World) :
    Calls Tryd.prog 31 #[.int .i64 n] w fun e w' => e = .returned (.int .i64 (leftN n : Nat)) ∧ w = w' := by
  go_enter Tryd.func31, Tryd.ntmps31
  go_wp2_with fail
  go_loop [3] (fun v3 => ∃ k e : Nat, k = 2 ^ e ∧ k < n ∧ v3 = .int .i64 k) (fun v => n - (intOf v).toNat)
  case atStart => exact ⟨1, 0, rfl, by omega, rfl⟩
  case round =>
    obtain ⟨k, e, hk, h1, rfl⟩ := hrel
    have HK := Lib.hid hk
    have hp : 0 < k := by rw [hk]; exact Nat.two_pow_pos e
    clear hk
    by_cases hlt : k < n - k
    · obtain ⟨k2, hk2⟩ : ∃ k2, 2 * k = k2 := ⟨_, rfl⟩
      have e1 : 2 * (k : Int) = (k2 : Int) := by omega
      have d1 : decide ((k : Int) < (n : Int) - (k : Int)) = true := by simp; omega
      have e2 : IntKind.i64.wrap (k2 : Int) = (k2 : Int) := by rw [IntKind.wrap_i64]; omega
      go_wp2_with fail
      refine ⟨⟨k2, e + 1, by rw [← hk2, HK.out, Nat.pow_succ]; omega, by omega, rfl⟩, by simp [intOf]; omega⟩
    · have d1 : decide ((k : Int) < (n : Int) - (k : Int)) = false := by simp; omega
      have hf := leftN_of HK.out h1 (by omega)
      have HF := Lib.hid hf
      clear hf
      go_wp2_with fail
      go_ret
      exact ⟨by rw [HF.out]; rfl, rfl⟩

end Go.Proofs.YtjelniemoambaaaDoor
