/-
  Contracts of package digest's take, all, join and Proof. Conditions: each contract's own.
-/
import Derived.Test.YtjelniemoambaaaDoorDigI
namespace Go.Proofs.YtjelniemoambaaaDoor
open Go Go.RowKit Go.Shelf

set_option maxHeartbeats 1000000 in
theorem isDigest_walk (s : ByteArray) (w : World) :
    Calls Tryd.prog 51 #[.string s] w fun e w' => e = .returned (.bool (decide (s.size = 32))) ∧ w = w' := by
  go_enter Tryd.func51, Tryd.ntmps51
  by_cases h : s.size = 32
  · have h1 : ((s.size : Int) == 32) = true := by simp; omega
    have H := Lib.hid h
    clear h
    go_wp2
    go_ret
    exact ⟨by simp [H.out], rfl⟩
  · have h1 : ((s.size : Int) == 32) = false := by simp; omega
    have H := Lib.hid h
    clear h
    go_wp2
    go_ret
    exact ⟨by simp [H.out], rfl⟩
set_option maxHeartbeats 1000000 in
theorem all1_walk (s : ByteArray) (w : World) :
    Calls Tryd.prog 61 #[.string s] w fun e w' => e = .returned (.bool (!decide (s.size = 32))) ∧ w = w' := by
  go_enter Tryd.func61, Tryd.ntmps61
  obtain ⟨b, hb⟩ : ∃ b, decide (s.size = 32) = b := ⟨_, rfl⟩
  rw [hb]
  have HB := Lib.hid hb
  clear hb
  go_wp2_with (go_at_call 51; refine (isDigest_walk _ _).mono ?_; rw [HB.out]; rintro e w' ⟨rfl, rfl⟩)
  go_ret
  exact ⟨rfl, rfl⟩

/-- Are all strings digests? -/
def allB (l : List ByteArray) : Bool := l.all fun s => decide (s.size = 32)
/-- The first place that holds no digest. -/
def oddAt (l : List ByteArray) : Nat := l.findIdx fun s => !decide (s.size = 32)

set_option maxRecDepth 100000 in
set_option maxHeartbeats 2000000 in
theorem index_walk (A : Option Addr) (l : List ByteArray) (cap : Nat) (hl : l.length ≤ 1000000) (w : World) (hA : LAt w w.heap.size A .string l) :
    Calls Tryd.prog 73 #[.slice A l.length cap, .func (.func 61) #[] #[]] w fun e w' => (∃ n : Int, e = .returned (.int .i64 n) ∧ decide (0 ≤ n) = !allB l) ∧ w = w' := by
  have HA := Lib.hid hA
  clear hA
  go_enter Tryd.func73, Tryd.ntmps73
  go_wp2_with fail
  go_loop [5, 8] (fun _ i => ∃ k : Nat, k ≤ l.length ∧ i = .int .i64 k ∧ ∀ s ∈ l.take k, s.size = 32) (fun _ i => l.length - (intOf i).toNat)
  case atStart => exact ⟨0, by omega, rfl, by simp⟩
  case round =>
    obtain ⟨k, hk, rfl, hall⟩ := hrel
    have HALL := Lib.hid hall
    clear hall
    by_cases hlt : k < l.length
    · obtain ⟨a, rfl, hab, hac⟩ := HA.out.get hlt
      have y1 : (0 : Int) ≤ (k : Int) := by omega
      have y2 : (k : Int) < (l.length : Int) := by omega
      by_cases hs : l[k].size = 32
      · have hb : (!decide (l[k].size = 32)) = false := by simp [hs]
        have HS := Lib.hid hs
        clear hs
        have HB := Lib.hid hb
        clear hb
        go_wp2_with (go_at_call 61; refine (all1_walk _ _).mono ?_; rw [HB.out]; rintro e w' ⟨rfl, rfl⟩)
        refine ⟨⟨k + 1, by omega, rfl, ?_⟩, by simp [intOf]; omega⟩
        intro s hs
        rw [List.take_succ_eq_append_getElem hlt] at hs
        rcases List.mem_append.1 hs with h | h
        · exact HALL.out s h
        · obtain rfl := List.mem_singleton.1 h; exact HS.out
      · have hb : (!decide (l[k].size = 32)) = true := by simp [hs]
        have HS := Lib.hid hs
        clear hs
        have HB := Lib.hid hb
        clear hb
        go_wp2_with (go_at_call 61; refine (all1_walk _ _).mono ?_; rw [HB.out]; rintro e w' ⟨rfl, rfl⟩)
        go_ret
        refine ⟨⟨k, rfl, ?_⟩, rfl⟩
        have : allB l = false := by unfold allB; rw [List.all_eq_false]; exact ⟨_, List.getElem_mem hlt, by simp [HS.out]⟩
        rw [this]; simp
    · obtain rfl : k = l.length := by omega
      go_wp2_with fail
      go_ret
      refine ⟨⟨-1, rfl, ?_⟩, rfl⟩
      have : allB l = true := by
        unfold allB; rw [List.all_eq_true]
        intro s hs
        have := HALL.out s (by rw [List.take_length]; exact hs)
        simp [this]
      rw [this]; rfl
set_option maxHeartbeats 1000000 in
theorem all_walk (A : Option Addr) (l : List ByteArray) (cap : Nat) (hl : l.length ≤ 1000000) (w : World) (hA : LAt w w.heap.size A .string l) :
    Calls Tryd.prog 45 #[.slice A l.length cap] w fun e w' => e = .returned (.bool (allB l)) ∧ w = w' := by
  have HA := Lib.hid hA
  clear hA
  have hc : Calls Tryd.prog 62 #[.slice A l.length cap, .func (.func 61) #[] #[]] w fun e w' => e = .returned (.bool (!allB l)) ∧ w = w' := by
    obtain ⟨b, hb⟩ : ∃ b, (!allB l) = b := ⟨_, rfl⟩
    rw [hb]
    have HB := Lib.hid hb
    clear hb
    go_enter Tryd.func62, Tryd.ntmps62
    go_wp2_with (go_at_call 73; refine (index_walk A l cap hl _ HA.out).mono ?_; rintro e w' ⟨⟨n, rfl, hn⟩, rfl⟩; rw [HB.out] at hn)
    go_ret
    exact ⟨rfl, rfl⟩
  obtain ⟨b, hb⟩ : ∃ b, (!allB l) = b := ⟨_, rfl⟩
  rw [show allB l = !b by rw [← hb]; simp]
  rw [hb] at hc
  clear hb
  go_enter Tryd.func45, Tryd.ntmps45
  go_wp2_with (go_at_call 62; refine hc.mono ?_; rintro e w' ⟨rfl, rfl⟩)
  go_ret
  exact ⟨rfl, rfl⟩

set_option maxHeartbeats 2000000 in
theorem take_some (A : Option Addr) (l : List ByteArray) (x : ByteArray) (cap : Nat) (hl : l.length ≤ 1000000) (hcap : l.length + 1 ≤ cap) (w : World) (hA : LAt w w.heap.size A .string (l ++ [x])) :
    Calls Tryd.prog 46 #[.slice A (l.length + 1) cap] w fun e w' => e = .returned (.tuple #[.string x, .slice A l.length cap, .bool true]) ∧ ∃ n, w' = w.drewN n := by
  obtain ⟨a, rfl, hab, hac⟩ := hA.get (i := l.length) (by simp)
  rw [show (l ++ [x])[l.length]'(by simp) = x by simp] at hac
  obtain ⟨n, hn⟩ : ∃ n, l.length = n := ⟨_, rfl⟩
  rw [hn] at hac hl hcap ⊢
  clear hn hA
  have y1 : (0 : Int) ≤ (n : Int) := by omega
  have y2 : (n : Int) < (n : Int) + 1 := by omega
  have y3 : IntKind.i64.wrap ((n : Int) + 1 - 1) = (n : Int) := by rw [IntKind.wrap_i64]; omega
  have y4 : (n : Int) ≤ (cap : Int) := by omega
  have y5 : (n : Int) < ((n + 1 : Nat) : Int) := by omega
  have y6 : ((n : Int) + 1 == 0) = false := by simp; omega
  go_enter Tryd.func46, Tryd.ntmps46
  go_wp2_with fail
  go_quiet (fail)
  go_wp2_with fail
  go_ret3
  exact ⟨rfl, _, rfl⟩
set_option maxHeartbeats 2000000 in
theorem take_none (A : Option Addr) (cap : Nat) (w : World) :
    Calls Tryd.prog 46 #[.slice A 0 cap] w fun e w' => e = .returned (.tuple #[.string ⟨#[]⟩, .slice none 0 0, .bool false]) ∧ w = w' := by
  go_enter Tryd.func46, Tryd.ntmps46
  go_wp2_with fail
  go_ret3
  exact ⟨rfl, rfl⟩

def joinS (x : ByteArray × Bool) (p : ByteArray) : ByteArray := if x.2 then nodeS x.1 p else nodeS p x.1
theorem joinS_size (x : ByteArray × Bool) (p : ByteArray) : (joinS x p).size = 32 := by unfold joinS; split <;> exact nodeS_size _ _
set_option maxHeartbeats 2000000 in
theorem join_walk (x : ByteArray × Bool) (p : ByteArray) (w : World) (hs : x.1.size + p.size ≤ 999000) (hK : KAt w) :
    Calls Tryd.prog 48 #[sideV x, .string p] w fun e w' => e = .returned (.string (joinS x p)) ∧ Below w.heap.size w w' := by
  obtain ⟨r, f⟩ := x
  have HK := Lib.hid hK
  have hB := (Below.refl w.heap.size w).alloc (Nat.le_refl _) (.cells #[.string r, .bool f] 58)
  have HKB := Lib.hid (hK.below hB)
  have HB := Lib.hid hB
  clear hK hB
  unfold sideV
  cases f
  · go_enter Tryd.func48, Tryd.ntmps48
    go_wp2_with (go_at_call 32; refine (node_walk _ _ _ (by simp at hs; omega) HKB.out).mono ?_; rintro e w' ⟨rfl, hb⟩)
    go_ret
    exact ⟨rfl, HB.out.trans (hb.mono (by simp))⟩
  · go_enter Tryd.func48, Tryd.ntmps48
    go_wp2_with (go_at_call 32; refine (node_walk _ _ _ (by simp at hs; omega) HKB.out).mono ?_; rintro e w' ⟨rfl, hb⟩)
    go_ret
    exact ⟨rfl, HB.out.trans (hb.mono (by simp))⟩

end Go.Proofs.YtjelniemoambaaaDoor
