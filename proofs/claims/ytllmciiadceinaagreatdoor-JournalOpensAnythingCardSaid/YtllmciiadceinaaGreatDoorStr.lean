/-
  Small laws of strings as rows of bytes. No condition.
-/
import Derived.WalkKit
import Derived.Laws.Concat
import Derived.Laws.Strings
namespace Go.Proofs.YtllmciiadceinaaGreatDoor
open Go Go.RowKit

theorem ba_ext {a b : ByteArray} (h : a.data.toList = b.data.toList) : a = b := ByteArray.ext (Array.toList_inj.1 h)
theorem ba_append (a b : ByteArray) : (a ++ b).data.toList = a.data.toList ++ b.data.toList := by simp
theorem ba_length (a : ByteArray) : a.data.toList.length = a.size := by simp
theorem ba_mk (l : List UInt8) : (⟨l.toArray⟩ : ByteArray).data.toList = l := rfl
theorem ba_mk_size (l : List UInt8) : (⟨l.toArray⟩ : ByteArray).size = l.length := by show l.toArray.size = _; simp
theorem ba_size_append (a b : ByteArray) : (a ++ b).size = a.size + b.size := by rw [← ba_length, ba_append, List.length_append, ba_length, ba_length]
theorem ba_eta (a : ByteArray) : (⟨a.data.toList.toArray⟩ : ByteArray) = a := ba_ext rfl
theorem str_eq (a b : ByteArray) : (a.toList == b.toList) = decide (a = b) := by
  rw [ByteArray.toList_eq, ByteArray.toList_eq, Bool.eq_iff_iff]
  simp only [beq_iff_eq, decide_eq_true_eq]
  exact ⟨ba_ext, fun h => by rw [h]⟩
theorem strAdd {P : Program} (a b : ByteArray) (h : a.size + b.size ≤ 9223372036854775807) (w : World) : (Op.stringOp .add a b).run P w = .ok (.string (a ++ b)) w := run_string_add_sum (w := w) a b h

end Go.Proofs.YtllmciiadceinaaGreatDoor
