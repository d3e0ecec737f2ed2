/-
  Contracts of package digest's Leaf, Node and Chain. Conditions: the strings have at most 1000000 bytes together, and the table's variable holds the table.
-/
import Derived.Test.YtllmciiadceinaaGreatDoorDigF
import Derived.Test.YtllmciiadceinaaGreatDoorShelf
import Derived.Test.YtllmciiadceinaaGreatDoorStr
namespace Go.Proofs.YtllmciiadceinaaGreatDoor
open Go Go.RowKit

/-- The digest of some bytes, as a string. -/
def shaS (l : List UInt8) : ByteArray := ⟨(sha l).toArray⟩
theorem flatten_length (xs : List ByteArray) : (xs.map (·.data.toList)).flatten.length = (xs.map ByteArray.size).sum := by
  rw [List.length_flatten, List.map_map]; rfl
theorem join_empty (xs : List (List UInt8)) : Lib.join xs [] = xs.flatten := by
  unfold Lib.join
  induction xs with
  | nil => rfl
  | cons x xs ih => cases xs with
    | nil => simp [List.intercalate]
    | cons y ys => simp [List.intercalate, List.intersperse] at ih ⊢; exact ih

theorem marked_any (m : ByteArray) (w : World) :
    Calls Tryz.prog 95 #[.string m] w fun e w' => e = .returned (.func (.func 109) #[] #[.pointer (some ⟨w.heap.size, 0, none⟩)]) ∧ w' = w.alloc (.cells #[.string m] 9) := by
  go_enter Tryz.func95, Tryz.ntmps95
  go_wp2
  go_ret
  exact ⟨rfl, rfl⟩

set_option maxRecDepth 100000 in
set_option maxHeartbeats 2000000 in
theorem marked1_walk (m : ByteArray) (b bk c : Nat) (xs : List ByteArray) (w : World) (hb : w.cell? ⟨b, 0, none⟩ = some (.string m)) (hx : ∀ (j : Nat) x, xs[j]? = some x → w.cell? ⟨bk, j, none⟩ = some (.string x)) (hbk : bk < w.heap.size) (hc : xs.length ≤ c) (hn : xs.length ≤ 1000)
    (hs : m.size + (xs.map ByteArray.size).sum ≤ 1000000) (hK : KAt w) :
    Calls Tryz.prog 109 #[.slice (some ⟨bk, 0, none⟩) xs.length c, .pointer (some ⟨b, 0, none⟩)] w fun e w' => e = .returned (.string (shaS (m.data.toList ++ (xs.map (·.data.toList)).flatten))) ∧ Below w.heap.size w w' := by
  have HX := Lib.hid hx
  have HK := Lib.hid hK
  have HS := Lib.hid hs
  have hl : (Lib.join (xs.map (·.data.toList)) (⟨#[]⟩ : ByteArray).data.toList) = (xs.map (·.data.toList)).flatten := join_empty _
  have HL := Lib.hid hl
  have HF := Lib.hid (flatten_length xs)
  have hfs : (⟨(xs.map (·.data.toList)).flatten.toArray⟩ : ByteArray).size = (xs.map ByteArray.size).sum := (ba_mk_size _).trans (flatten_length xs)
  have HFS := Lib.hid hfs
  have hss : (m ++ ⟨(xs.map (·.data.toList)).flatten.toArray⟩).size ≤ 1000000 := by rw [ba_size_append, hfs]; exact hs
  have HSS := Lib.hid hss
  have hadd := fun w => strAdd (P := Tryz.prog) m ⟨(xs.map (·.data.toList)).flatten.toArray⟩ (by have := HFS.out; have := HS.out; omega) w
  have hbl := cell_lt (a := ⟨b, 0, none⟩) hb
  clear hx hK hs hl hfs hss
  go_enter Tryz.func109, Tryz.ntmps109
  go_wp2_with fail
  go_region_held3 (fun w' => w'.cell? ⟨b, 0, none⟩ = some (.string m)) (first | exact hb | go_keep) (first
    | (go_at_call 111; refine (Tryz.strings_Join bk 0 c xs ⟨#[]⟩ w.drew (fun j x hj => by rw [Nat.zero_add]; exact HX.out j x hj) hbk (by omega) hc (by rw [HL.out, HF.out]; have := HS.out; omega)).mono ?_; rw [HL.out]; rintro e w1 ⟨rfl, hb1⟩; have hc1 := (hb1.cell (p := ⟨b, 0, none⟩) hbl).trans hb; have HB1 := Lib.hid ((Below.refl w.heap.size w).drew.trans hb1))
    | (go_at_call 110; refine (sum_walk _ HSS.out w1 (HK.out.below HB1.out)).mono ?_; rintro e w2 ⟨rfl, hb2⟩; have hc2 := (hb2.cell (p := ⟨b, 0, none⟩) (Nat.lt_of_lt_of_le hbl HB1.out.size)).trans hc1; have HB2 := Lib.hid (HB1.out.trans (hb2.mono HB1.out.size)); clear hb2))
  go_wp2_with fail
  go_ret
  refine ⟨?_, HB2.out⟩
  unfold shaS; rfl

def leafS (s : ByteArray) : ByteArray := shaS (0 :: s.data.toList)
def nodeS (a b : ByteArray) : ByteArray := shaS (1 :: (a.data.toList ++ b.data.toList))
def chainS (a b : ByteArray) : ByteArray := shaS (2 :: (a.data.toList ++ b.data.toList))

theorem marked_one (mk : UInt8) (a : ByteArray) (w : World) (hs : a.size ≤ 999000) (hK : KAt w) :
    Calls Tryz.prog 109 #[.slice (some ⟨w.heap.size + 1, 0, none⟩) 1 1, .pointer (some ⟨w.heap.size, 0, none⟩)] ((w.alloc (.cells #[.string ⟨#[mk]⟩] 9)).alloc (.cells #[.string a] 9)) fun e w' => e = .returned (.string (shaS (mk :: a.data.toList))) ∧ Below w.heap.size w w' := by
  have hb0 : Below w.heap.size w ((w.alloc (.cells #[.string ⟨#[mk]⟩] 9)).alloc (.cells #[.string a] 9)) := ((Below.refl _ _).alloc (Nat.le_refl _) _).alloc (by simp) _
  refine (marked1_walk ⟨#[mk]⟩ w.heap.size (w.heap.size + 1) 1 [a] _ (by simp) ?_ (by simp) (by simp) (by simp) ?_ (hK.below hb0)).mono ?_
  · intro j x hj
    match j with
    | 0 => simp at hj; subst hj; simp
    | j + 1 => simp at hj
  · show 1 + _ ≤ _; simp; omega
  · rintro e w' ⟨rfl, hb⟩
    exact ⟨by simp, hb0.trans (hb.mono hb0.size)⟩
theorem marked_two (mk : UInt8) (a b : ByteArray) (w : World) (hs : a.size + b.size ≤ 999000) (hK : KAt w) :
    Calls Tryz.prog 109 #[.slice (some ⟨w.heap.size + 1, 0, none⟩) 2 2, .pointer (some ⟨w.heap.size, 0, none⟩)] ((w.alloc (.cells #[.string ⟨#[mk]⟩] 9)).alloc (.cells #[.string a, .string b] 9)) fun e w' => e = .returned (.string (shaS (mk :: (a.data.toList ++ b.data.toList)))) ∧ Below w.heap.size w w' := by
  have hb0 : Below w.heap.size w ((w.alloc (.cells #[.string ⟨#[mk]⟩] 9)).alloc (.cells #[.string a, .string b] 9)) := ((Below.refl _ _).alloc (Nat.le_refl _) _).alloc (by simp) _
  refine (marked1_walk ⟨#[mk]⟩ w.heap.size (w.heap.size + 1) 2 [a, b] _ (by simp) ?_ (by simp) (by simp) (by simp) ?_ (hK.below hb0)).mono ?_
  · intro j x hj
    match j with
    | 0 => simp at hj; subst hj; simp
    | 1 => simp at hj; subst hj; simp
    | j + 2 => simp at hj
  · show 1 + _ ≤ _; simp; omega
  · rintro e w' ⟨rfl, hb⟩
    exact ⟨by simp, hb0.trans (hb.mono hb0.size)⟩

set_option maxHeartbeats 1000000 in
theorem chain_walk (a b : ByteArray) (w : World) (hs : a.size + b.size ≤ 999000) (hK : KAt w) :
    Calls Tryz.prog 70 #[.string a, .string b] w fun e w' => e = .returned (.string (chainS a b)) ∧ Below w.heap.size w w' := by
  have HK := Lib.hid hK
  clear hK
  go_enter Tryz.func70, Tryz.ntmps70
  go_wp2_with (first | (go_at_call 95; refine (marked_any _ _).mono ?_; rintro e w' ⟨rfl, rfl⟩) | (go_at_call 109; refine (marked_two 2 a b w hs HK.out).mono ?_; rintro e w' ⟨rfl, hb⟩))
  go_ret
  exact ⟨rfl, hb⟩

end Go.Proofs.YtllmciiadceinaaGreatDoor
