/-
  The root of a list, as a plain function; the stack of complete parts. No condition.
-/
import Derived.Test.YtllmciiadceinaaGreatDoorDigG
namespace Go.Proofs.YtllmciiadceinaaGreatDoor
open Go

/-- The greatest power of two below n (2 or more). -/
def leftN (n : Nat) : Nat := 2 ^ Nat.log2 (n - 1)
theorem leftN_pow {e r : Nat} (h0 : 0 < r) (h1 : r ≤ 2 ^ e) : leftN (2 ^ e + r) = 2 ^ e := by
  unfold leftN
  have hp : 0 < 2 ^ e := Nat.two_pow_pos e
  have h2 : 2 ^ (e + 1) = 2 ^ e + 2 ^ e := by rw [Nat.pow_succ]; omega
  have a : e ≤ Nat.log2 (2 ^ e + r - 1) := (Nat.le_log2 (by omega)).2 (by omega)
  have b : Nat.log2 (2 ^ e + r - 1) < e + 1 := (Nat.log2_lt (by omega)).2 (by omega)
  rw [show Nat.log2 (2 ^ e + r - 1) = e by omega]
theorem leftN_ok {n : Nat} (h : 2 ≤ n) : 0 < leftN n ∧ leftN n < n ∧ n ≤ 2 * leftN n := by
  unfold leftN
  have a := (Nat.le_log2 (n := n - 1) (k := Nat.log2 (n - 1)) (by omega)).1 (Nat.le_refl _)
  have b := (Nat.log2_lt (n := n - 1) (k := Nat.log2 (n - 1) + 1) (by omega)).1 (by omega)
  have h2 : 2 ^ (Nat.log2 (n - 1) + 1) = 2 ^ Nat.log2 (n - 1) + 2 ^ Nat.log2 (n - 1) := by rw [Nat.pow_succ]; omega
  exact ⟨Nat.two_pow_pos _, by omega, by omega⟩

def rootF : Nat → List ByteArray → ByteArray
  | 0, _ => shaS []
  | _ + 1, [] => shaS []
  | _ + 1, [x] => leafS x
  | f + 1, x :: y :: l => nodeS (rootF f ((x :: y :: l).take (leftN (l.length + 2)))) (rootF f ((x :: y :: l).drop (leftN (l.length + 2))))
def rootS (l : List ByteArray) : ByteArray := rootF l.length l
theorem rootF_two (f : Nat) {l : List ByteArray} (h : 2 ≤ l.length) : rootF (f + 1) l = nodeS (rootF f (l.take (leftN l.length))) (rootF f (l.drop (leftN l.length))) := by
  match l, h with
  | x :: y :: l, _ => rfl
theorem rootF_any : ∀ (f : Nat) (l : List ByteArray), l.length ≤ f → rootF f l = rootF l.length l := by
  intro f
  induction f using Nat.strongRecOn with
  | ind f ih =>
    intro l hl
    rcases Nat.lt_or_ge l.length 2 with h2 | h2
    · match l, h2 with
      | [], _ => cases f <;> rfl
      | [x], _ => cases f with
        | zero => simp at hl
        | succ f => rfl
    · obtain ⟨h0, h1, h3⟩ := leftN_ok h2
      obtain ⟨f, rfl⟩ : ∃ g, f = g + 1 := ⟨f - 1, by omega⟩
      obtain ⟨n, hn⟩ : ∃ n, l.length = n + 1 := ⟨l.length - 1, by omega⟩
      have ht : (l.take (leftN l.length)).length ≤ n := by rw [List.length_take]; omega
      have hd : (l.drop (leftN l.length)).length ≤ n := by rw [List.length_drop]; omega
      have e : rootF l.length l = nodeS (rootF n (l.take (leftN l.length))) (rootF n (l.drop (leftN l.length))) := by
        conv => lhs; arg 1; rw [hn]
        exact rootF_two n h2
      rw [rootF_two f h2, e, ih f (by omega) _ (by omega), ih f (by omega) _ (by omega)]
      rcases Nat.lt_or_ge n f with hf | hf
      · rw [ih n (by omega) _ ht, ih n (by omega) _ hd]
      · obtain rfl : n = f := by omega
        rw [ih n (by omega) _ ht, ih n (by omega) _ hd]
theorem rootS_nil : rootS [] = shaS [] := rfl
theorem rootS_one (x : ByteArray) : rootS [x] = leafS x := rfl
theorem rootS_two {l : List ByteArray} (h : 2 ≤ l.length) : rootS l = nodeS (rootS (l.take (leftN l.length))) (rootS (l.drop (leftN l.length))) := by
  obtain ⟨h0, h1, h2⟩ := leftN_ok h
  obtain ⟨n, hn⟩ : ∃ n, l.length = n + 1 := ⟨l.length - 1, by omega⟩
  unfold rootS
  conv => lhs; rw [hn, rootF_two n h]
  rw [rootF_any n _ (by rw [List.length_take]; omega), rootF_any n _ (by rw [List.length_drop]; omega)]
theorem rootS_append {a b : List ByteArray} {e : Nat} (ha : a.length = 2 ^ e) (h0 : 0 < b.length) (h1 : b.length ≤ 2 ^ e) : rootS (a ++ b) = nodeS (rootS a) (rootS b) := by
  have hl : (a ++ b).length = 2 ^ e + b.length := by rw [List.length_append, ha]
  have hp := Nat.two_pow_pos e
  rw [rootS_two (by omega), hl, leftN_pow h0 h1, ← ha, List.take_left, List.drop_left]

/-- Parts of lengths that are powers of two, each one shorter than those ahead of it. -/
def Desc (ss : List (List ByteArray)) : Prop := ss.Pairwise (fun a b => b.length < a.length) ∧ ∀ s ∈ ss, ∃ e, s.length = 2 ^ e
/-- The same, the last one perhaps as long as the one ahead of it. -/
def DescL (pre : List (List ByteArray)) (s : List ByteArray) : Prop := Desc pre ∧ (∃ e, s.length = 2 ^ e) ∧ ∀ p ∈ pre, s.length ≤ p.length
theorem Desc.nil : Desc [] := ⟨List.Pairwise.nil, fun s h => by cases h⟩
theorem Desc.leaf {ss : List (List ByteArray)} (h : Desc ss) (x : ByteArray) : DescL ss [x] :=
  ⟨h, ⟨0, rfl⟩, fun p hp => by obtain ⟨e, he⟩ := h.2 p hp; rw [he]; exact Nat.two_pow_pos e⟩
theorem DescL.done {pre : List (List ByteArray)} {s : List ByteArray} (h : DescL pre s) (hne : ∀ p, pre.getLast? = some p → p.length ≠ s.length) : Desc (pre ++ [s]) := by
  obtain ⟨⟨h1, h2⟩, h3, h4⟩ := h
  refine ⟨List.pairwise_append.2 ⟨h1, List.pairwise_singleton _ _, fun a ha b hb => ?_⟩, fun t ht => ?_⟩
  · obtain rfl := List.mem_singleton.1 hb
    rcases List.eq_nil_or_concat pre with rfl | ⟨p2, q, rfl⟩
    · cases ha
    · have hq := hne q (by simp)
      have hq2 := h4 q (by simp)
      rcases List.mem_append.1 (by simpa using ha : a ∈ p2 ++ [q]) with h5 | h5
      · have h1' : (p2 ++ [q]).Pairwise (fun a b => b.length < a.length) := by simpa using h1
        have := (List.pairwise_append.1 h1').2.2 a h5 q (by simp)
        omega
      · obtain rfl := List.mem_singleton.1 h5
        omega
  · rcases List.mem_append.1 ht with h5 | h5
    · exact h2 t h5
    · obtain rfl := List.mem_singleton.1 h5; exact h3
theorem pow_lt_le {a b : Nat} (h : 2 ^ a < 2 ^ b) : 2 ^ a + 2 ^ a ≤ 2 ^ b := by
  have : a < b := (Nat.pow_lt_pow_iff_right (by decide)).1 h
  have h2 : 2 ^ (a + 1) ≤ 2 ^ b := Nat.pow_le_pow_right (by decide) this
  rw [Nat.pow_succ] at h2
  omega
theorem DescL.merge {pre : List (List ByteArray)} {q s : List ByteArray} (h : DescL (pre ++ [q]) s) (he : q.length = s.length) : DescL pre (q ++ s) ∧ rootS (q ++ s) = nodeS (rootS q) (rootS s) := by
  obtain ⟨⟨h1, h2⟩, ⟨e, h3⟩, h4⟩ := h
  obtain ⟨a1, a2, a3⟩ := List.pairwise_append.1 h1
  have hp := Nat.two_pow_pos e
  refine ⟨⟨⟨a1, fun t ht => h2 t (List.mem_append_left _ ht)⟩, ⟨e + 1, by rw [List.length_append, he, h3, Nat.pow_succ]; omega⟩, fun p hpp => ?_⟩, rootS_append (e := e) (by omega) (by omega) (by omega)⟩
  have hlt := a3 p hpp q (by simp)
  obtain ⟨e2, he2⟩ := h2 p (List.mem_append_left _ hpp)
  rw [he, h3, he2] at hlt
  have := pow_lt_le hlt
  rw [List.length_append, he, h3, he2]
  exact this
theorem desc_sum : ∀ {ss : List (List ByteArray)}, Desc ss → ∀ (e : Nat), (∀ s ∈ ss, s.length < 2 ^ e) → ss.flatten.length < 2 ^ e := by
  intro ss
  induction ss with
  | nil => intro _ e _; exact Nat.two_pow_pos e
  | cons s ss ih =>
    rintro ⟨h1, h2⟩ e hlt
    obtain ⟨b1, b2⟩ := List.pairwise_cons.1 h1
    obtain ⟨a, ha⟩ := h2 s (by simp)
    have hs := hlt s (by simp)
    have h := ih ⟨b2, fun t ht => h2 t (List.mem_cons_of_mem _ ht)⟩ a (fun t ht => by rw [← ha]; exact b1 t ht)
    rw [ha] at hs
    have := pow_lt_le hs
    rw [List.flatten_cons, List.length_append, ha]
    omega
/-- The parts' roots put together, the last ones first. -/
theorem desc_root {init : List (List ByteArray)} {last : List ByteArray} (h : Desc (init ++ [last])) : init.foldr (fun s out => nodeS (rootS s) out) (rootS last) = rootS (init ++ [last]).flatten := by
  induction init with
  | nil => simp
  | cons s init ih =>
    obtain ⟨h1, h2⟩ := h
    obtain ⟨b1, b2⟩ := List.pairwise_cons.1 h1
    have hd : Desc (init ++ [last]) := ⟨b2, fun t ht => h2 t (List.mem_cons_of_mem _ ht)⟩
    obtain ⟨a, ha⟩ := h2 s (by simp)
    have hs := desc_sum hd a (fun t ht => by rw [← ha]; exact b1 t ht)
    obtain ⟨c, hc⟩ := h2 last (by simp)
    have hp := Nat.two_pow_pos c
    have h0 : 0 < (init ++ [last]).flatten.length := by simp [hc]; omega
    rw [List.foldr_cons, ih hd, List.cons_append, List.flatten_cons, rootS_append ha h0 (by omega)]

theorem desc_len {ss : List (List ByteArray)} (h : Desc ss) : ss.length ≤ ss.flatten.length := by
  replace h := h.2
  induction ss with
  | nil => simp
  | cons s ss ih =>
    obtain ⟨e, he⟩ := h s (by simp)
    have := Nat.two_pow_pos e
    have := ih (fun t ht => h t (List.mem_cons_of_mem _ ht))
    rw [List.flatten_cons, List.length_append, List.length_cons]; omega
theorem sha_length (l : List UInt8) : (sha l).length = 32 := by
  unfold sha
  have h : ∀ (n : Nat) (p : List UInt8), (blocks shaH p n).length = 8 := by
    intro n p
    induction n with
    | zero => rfl
    | succ n ih => exact addB_length ih
  rw [outB_length, h]
theorem shaS_size (l : List UInt8) : (shaS l).size = 32 := by unfold shaS; rw [ba_mk_size, sha_length]
theorem leafS_size (s : ByteArray) : (leafS s).size = 32 := shaS_size _
theorem nodeS_size (a b : ByteArray) : (nodeS a b).size = 32 := shaS_size _
theorem chainS_size (a b : ByteArray) : (chainS a b).size = 32 := shaS_size _
theorem rootF_size (f : Nat) (l : List ByteArray) : (rootF f l).size = 32 := by
  match f, l with
  | 0, _ => exact shaS_size _
  | _ + 1, [] => exact shaS_size _
  | _ + 1, [_] => exact shaS_size _
  | _ + 1, _ :: _ :: _ => exact shaS_size _
theorem rootS_size (l : List ByteArray) : (rootS l).size = 32 := rootF_size _ _

end Go.Proofs.YtllmciiadceinaaGreatDoor
