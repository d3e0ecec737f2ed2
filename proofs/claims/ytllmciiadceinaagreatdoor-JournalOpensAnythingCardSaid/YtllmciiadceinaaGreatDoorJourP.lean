/-
  A list of records as it is stored: plain laws. No condition.
-/
import Derived.Test.YtllmciiadceinaaGreatDoorWireLaw
import Derived.Test.YtllmciiadceinaaGreatDoorTree
namespace Go.Proofs.YtllmciiadceinaaGreatDoor
open Go Wr

def zero32 : ByteArray := ⟨(List.replicate 32 0).toArray⟩
/-- How a string is stored; how a record is stored behind a head. -/
def putL (r : ByteArray) : List UInt8 := putI r.size ++ r.data.toList
def recL (h r : ByteArray) : List UInt8 := 1 :: (putL r ++ (chainS h r).data.toList)
/-- A list of records, its head, its size. -/
structure TS where
  recs : List ByteArray
  head : ByteArray
  size : Nat
def TS.add (t : TS) (r : ByteArray) : TS := ⟨t.recs ++ [r], chainS t.head r, t.size + (recL t.head r).length⟩
def TS.zero : TS := ⟨[], zero32, 0⟩
def TS.adds (t : TS) : List ByteArray → TS
  | [] => t
  | r :: l => (t.add r).adds l
def storeL (h : ByteArray) : List ByteArray → List UInt8
  | [] => []
  | r :: l => recL h r ++ storeL (chainS h r) l
def headF (h : ByteArray) : List ByteArray → ByteArray
  | [] => h
  | r :: l => headF (chainS h r) l

/-- The string at the beginning of a list of bytes, and how many bytes it takes. -/
def strL (l : List UInt8) : Option (ByteArray × Nat) := match decI l with
  | some (z, c) => if 0 ≤ unzig z ∧ unzig z ≤ 65536 ∧ c + (unzig z).toNat ≤ l.length then some (⟨((l.drop c).take (unzig z).toNat).toArray⟩, c + (unzig z).toNat) else none
  | none => none

theorem chainL_length (h r : ByteArray) : (chainS h r).data.toList.length = 32 := by rw [ba_length]; exact chainS_size h r
theorem recL_length (h r : ByteArray) : (recL h r).length = (putL r).length + 33 := by unfold recL; rw [List.length_cons, List.length_append, chainL_length]
theorem putL_length (r : ByteArray) : (putL r).length = (putI r.size).length + r.size := by unfold putL; rw [List.length_append, ba_length]
theorem putI_len9 {n : Nat} (h : n ≤ 65536) : (putI n).length ≤ 9 ∧ 0 < (putI n).length := ⟨leb_length (zig_lt (by unfold maxI; omega) (by unfold maxI; omega)), leb_pos _⟩
theorem storeL_append (h : ByteArray) (a b : List ByteArray) : storeL h (a ++ b) = storeL h a ++ storeL (headF h a) b := by
  induction a generalizing h with
  | nil => rfl
  | cons r a ih => rw [List.cons_append, storeL, storeL, ih, headF, List.append_assoc]
theorem headF_append (h : ByteArray) (a b : List ByteArray) : headF h (a ++ b) = headF (headF h a) b := by
  induction a generalizing h with
  | nil => rfl
  | cons r a ih => rw [List.cons_append, headF, ih, headF]
theorem TS.adds_eq (t : TS) (l : List ByteArray) : t.adds l = ⟨t.recs ++ l, headF t.head l, t.size + (storeL t.head l).length⟩ := by
  induction l generalizing t with
  | nil => simp [TS.adds, headF, storeL]
  | cons r l ih => rw [TS.adds, ih]; simp [TS.add, headF, storeL]; omega
theorem TS.adds_append (t : TS) (a b : List ByteArray) : t.adds (a ++ b) = (t.adds a).adds b := by
  induction a generalizing t with
  | nil => rfl
  | cons r a ih => rw [List.cons_append, TS.adds, ih, TS.adds]

theorem strL_put (r : ByteArray) (h : r.size ≤ 65536) (rest : List UInt8) : strL (putL r ++ rest) = some (r, (putL r).length) := by
  unfold strL putL
  rw [List.append_assoc, decI_putI (by unfold maxI; omega) (by unfold maxI; omega)]
  simp only [unzig_zig, Int.toNat_natCast]
  rw [if_pos ⟨by omega, by omega, by simp⟩, List.drop_left, ← ba_length, List.take_left, List.length_append]
theorem strL_only {l : List UInt8} {r : ByteArray} {n : Nat} (h : strL l = some (r, n)) : r.size ≤ 65536 ∧ n = (putL r).length ∧ l = putL r ++ l.drop n := by
  unfold strL at h
  cases hd : decI l with
  | none => rw [hd] at h; cases h
  | some zc =>
    obtain ⟨z, c⟩ := zc
    rw [hd] at h
    simp only at h
    split at h
    · rename_i hc
      obtain ⟨h1, h2, h3⟩ := hc
      have hu := decI_unique hd
      obtain ⟨b1, b2, b3, b4⟩ := decI_bd hd
      simp only [Option.some.injEq, Prod.mk.injEq] at h
      obtain ⟨h4, h5⟩ := h
      have hsz : r.size = (unzig z).toNat := by
        rw [← h4, ba_mk_size, List.length_take, List.length_drop]; omega
      have hput : putI r.size = l.take c := by
        unfold putI; rw [hsz, Int.toNat_of_nonneg h1, zig_unzig]; exact hu
      have hr : r.data.toList = (l.drop c).take (unzig z).toNat := by rw [← h4]
      have hlen : (putL r).length = n := by rw [putL_length, hput, List.length_take, hsz, ← h5]; omega
      refine ⟨by omega, hlen.symm, ?_⟩
      unfold putL
      rw [hput, hr, ← h5, ← List.drop_drop, List.append_assoc, List.take_append_drop, List.take_append_drop]
    · cases h

/-- What a content holds: nothing, where it is damaged. -/
def loadW (l : List UInt8) (t : TS) : Option TS :=
  match l with
  | [] => some t
  | b :: m =>
    if b = 0 then some t else if b = 1 then
      match strL m with
      | some (r, n) => if (m.drop n).take 32 = (chainS t.head r).data.toList then loadW (m.drop (n + 32)) (t.add r) else none
      | none => none
    else none
termination_by l.length
decreasing_by simp only [List.length_drop, List.length_cons]; omega

theorem loadW_end {l : List UInt8} {t : TS} (h : ∀ b ∈ l.head?, b = 0) : loadW l t = some t := by
  unfold loadW
  cases l with
  | nil => rfl
  | cons b m => simp only; rw [if_pos (h b rfl)]
theorem loadW_rec {t : TS} {r : ByteArray} (h : r.size ≤ 65536) (rest : List UInt8) : loadW (recL t.head r ++ rest) t = loadW rest (t.add r) := by
  conv => lhs; unfold loadW
  unfold recL
  simp only [List.cons_append, List.append_assoc]
  rw [if_neg (by decide), if_pos trivial, strL_put r h]
  simp only
  rw [List.drop_left, ← chainL_length t.head r, List.take_left, if_pos rfl, ← List.drop_drop, List.drop_left, List.drop_left]
theorem loadW_store {t : TS} {L : List ByteArray} (h : ∀ r ∈ L, r.size ≤ 65536) (rest : List UInt8) : loadW (storeL t.head L ++ rest) t = loadW rest (t.adds L) := by
  induction L generalizing t with
  | nil => rfl
  | cons r L ih =>
    rw [storeL, List.append_assoc, loadW_rec (h r (by simp)), show chainS t.head r = (t.add r).head from rfl, ih (fun x hx => h x (by simp [hx]))]
    rfl
theorem loadW_bad {b : UInt8} {m : List UInt8} {t : TS} (h0 : b ≠ 0) (h1 : b ≠ 1) : loadW (b :: m) t = none := by
  unfold loadW; rw [if_neg h0, if_neg h1]
theorem loadW_step {m : List UInt8} {t : TS} : loadW (1 :: m) t = match strL m with
      | some (r, n) => if (m.drop n).take 32 = (chainS t.head r).data.toList then loadW (m.drop (n + 32)) (t.add r) else none
      | none => none := by
  conv => lhs; unfold loadW
  rw [if_neg (by decide), if_pos rfl]
/-- What is read was stored so. -/
theorem loadW_only : ∀ (n : Nat) (l : List UInt8) (t t' : TS), l.length ≤ n → loadW l t = some t' →
    ∃ L rest, t' = t.adds L ∧ l = storeL t.head L ++ rest ∧ (∀ b ∈ rest.head?, b = 0) ∧ ∀ r ∈ L, r.size ≤ 65536 := by
  intro n
  induction n with
  | zero =>
    intro l t t' hl h
    have : l = [] := List.eq_nil_of_length_eq_zero (by omega)
    subst this
    rw [loadW_end (by simp)] at h
    cases h
    exact ⟨[], [], rfl, rfl, by simp, by simp⟩
  | succ n ih =>
    intro l t t' hl h
    cases l with
    | nil =>
      rw [loadW_end (by simp)] at h
      cases h
      exact ⟨[], [], rfl, rfl, by simp, by simp⟩
    | cons b m =>
      by_cases h0 : b = 0
      · rw [loadW_end (by simp [h0])] at h
        cases h
        exact ⟨[], b :: m, rfl, rfl, by simp [h0], by simp⟩
      · by_cases h1 : b = 1
        · subst h1
          rw [loadW_step] at h
          cases hs : strL m with
          | none => rw [hs] at h; cases h
          | some x =>
            obtain ⟨r, k⟩ := x
            rw [hs] at h
            simp only at h
            split at h
            · rename_i hc
              obtain ⟨g1, g2, g3⟩ := strL_only hs
              rw [← List.drop_drop] at h
              obtain ⟨L, rest, e1, e2, e3, e4⟩ := ih ((m.drop k).drop 32) (t.add r) t' (by rw [List.length_drop, List.length_drop]; rw [List.length_cons] at hl; omega) h
              refine ⟨r :: L, rest, e1, ?_, e3, ?_⟩
              · have e2' : (m.drop k).drop 32 = storeL (chainS t.head r) L ++ rest := e2
                rw [storeL, List.append_assoc, ← e2']
                unfold recL
                rw [List.cons_append, List.append_assoc, ← hc, List.take_append_drop, ← g3]
              · intro x hx
                rcases List.mem_cons.1 hx with rfl | hx
                · exact g1
                · exact e4 x hx
            · cases h
        · rw [loadW_bad h0 h1] at h; cases h
end Go.Proofs.YtllmciiadceinaaGreatDoor
