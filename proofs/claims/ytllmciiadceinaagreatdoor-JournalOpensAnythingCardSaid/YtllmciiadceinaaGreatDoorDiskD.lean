/-
  Contracts of package disk's settle. Conditions: each contract's own.
-/
import Derived.Test.YtllmciiadceinaaGreatDoorDiskC
namespace Go.Proofs.YtllmciiadceinaaGreatDoor
open Go Go.RowKit

/-- Cells written into a block leave its shape. -/
theorem setCells_shape (g : Nat) : ∀ (vs : List Value) (o : Nat) (w : World) (cs : Array Value) (t : TypeId), w.heap[g]? = some (.cells cs t (0, 0)) → ∃ cs' : Array Value, (w.setCells g o vs).heap[g]? = some (.cells cs' t (0, 0)) ∧ cs'.size = cs.size
  | [], _, _, cs, _, h => ⟨cs, h, rfl⟩
  | v :: vs, o, w, cs, t, h => by
    have h2 : (w.setCell ⟨g, o, none⟩ v).heap[g]? = some (.cells (cs.setIfInBounds o v) t (0, 0)) := by
      simp only [World.setCell, Array.getElem?_modify, h]
      simp
    obtain ⟨cs', h3, h4⟩ := setCells_shape g vs (o + 1) _ _ t h2
    exact ⟨cs', h3, by rw [h4, Array.size_setIfInBounds]⟩
theorem run_clear_cells {P : Program} (w : World) (t e ty : TypeId) (z : Value) (ht : P.underlying t = some (.slice e)) (hv : ∀ w, (zeroValue e).run P w = .ok z w) (g n c : Nat) (hn : 0 < n)
    (h1 : ∀ v ∈ (Builtin.zeroCells z.cells n).toList, v.oneCell' = true)
    (hc : ∀ j, j < (Builtin.zeroCells z.cells n).toList.length → (w.cell? ⟨g, j, none⟩).isSome = true) (hf : ∀ j, j < (Builtin.zeroCells z.cells n).toList.length → w.frozen? ⟨g, j, none⟩ = false) :
    (Builtin.clear_ #[t] ty #[.slice (some ⟨g, 0, none⟩) n c]).run P w = .ok (.tuple #[]) (w.setCells g 0 (Builtin.zeroCells z.cells n).toList) := by
  have hst := run_storeCells_cells (P := P) g 0 (Builtin.zeroCells z.cells n).toList 0 w (by simpa using hc) (by simpa using hf) h1
  simp only [Nat.add_zero] at hst
  obtain ⟨m, rfl⟩ : ∃ m, n = m + 1 := ⟨n - 1, by omega⟩
  simp [Builtin.clear_, run_underlying ht, hv, hst]
theorem run_clear_none {P : Program} (w : World) (t e ty : TypeId) (ht : P.underlying t = some (.slice e)) (A : Option Addr) (c : Nat) : (Builtin.clear_ #[t] ty #[.slice A 0 c]).run P w = .ok (.tuple #[]) w := by
  cases A <;> simp [Builtin.clear_, run_underlying ht]

section
variable {W W' : World} {F : Nat → Prop} {d gd gv n : Nat} {vp : Value} {s : DS}
theorem DAt.setDur (h : DAt W F d gd gv vp n s) (m : List UInt8) (hm : m.length = n) : DAt (W.setCells gd 0 (m.map bv)) F d gd gv vp n { s with dur := m } ∧ Turns F W (W.setCells gd 0 (m.map bv)) := by
  obtain ⟨hs, hb⟩ := heap_setCells gd (m.map bv) 0 W
  have ht := Turns.of_but hb
  obtain ⟨n1, n2, n3⟩ := h.ne
  obtain ⟨f1, f2, f3⟩ := h.fd
  refine ⟨⟨(hb.block d (h.lf d f1) n1).trans h.hd, h.rd.setAll (by rw [hm, h.ld]), h.rv.but hb n3.symm, hm, h.lv, ?_, h.fit, h.ne, h.np, h.fd, h.fp, fun k hk => Nat.lt_of_lt_of_le (h.lf k hk) ht.size, h.n64⟩, ht.mono (fun k hk => by rw [hk]; exact f2)⟩
  exact h.pp.keep fun g hg => hb.block g (h.pp.lt g hg).2 (h.np g hg).2.1
theorem DAt.setVis (h : DAt W F d gd gv vp n s) (m : List UInt8) (hm : m.length = n) : DAt (W.setCells gv 0 (m.map bv)) F d gd gv vp n { s with vis := m } ∧ Turns F W (W.setCells gv 0 (m.map bv)) := by
  obtain ⟨hs, hb⟩ := heap_setCells gv (m.map bv) 0 W
  have ht := Turns.of_but hb
  obtain ⟨n1, n2, n3⟩ := h.ne
  obtain ⟨f1, f2, f3⟩ := h.fd
  refine ⟨⟨(hb.block d (h.lf d f1) n2).trans h.hd, h.rd.but hb n3, h.rv.setAll (by rw [hm, h.lv]), h.ld, hm, ?_, h.fit, h.ne, h.np, h.fd, h.fp, fun k hk => Nat.lt_of_lt_of_le (h.lf k hk) ht.size, h.n64⟩, ht.mono (fun k hk => by rw [hk]; exact f3)⟩
  exact h.pp.keep fun g hg => hb.block g (h.pp.lt g hg).2 (h.np g hg).2.2
/-- The row a copies the row b. -/
theorem run_copy_rows {a b : Nat} {l m : List UInt8} (ha : RAt W a bv l) (hb : RAt W b bv m) (hl : l.length = n) (hm : m.length = n) (ty : TypeId) :
    (Builtin.copy_ #[39, 39] ty #[.slice (some ⟨a, 0, none⟩) n n, .slice (some ⟨b, 0, none⟩) n n]).run Tryz.prog W = .ok (goInt n) (W.setCells a 0 (m.map bv)) := by
  have h1 := run_copy_cells (P := Tryz.prog) W 39 39 ty 5 a 0 n n ⟨b, 0, none⟩ n n (m.map bv) Tryz.underlying39 (by kernel_rfl) (by simp [hm])
    (fun j v hv => by have := hb.range j v hv; rw [Nat.zero_add] at this; rw [show (⟨b, 0, none⟩ : Addr).add j = ⟨b, j, none⟩ by simp [Addr.add]; omega]; exact this)
    (fun j hj => by rw [List.length_map] at hj; exact (ha.there j (by omega)).1)
    (fun j hj => by rw [List.length_map] at hj; exact (ha.there j (by omega)).2)
    (fun v hv => by obtain ⟨x, _, rfl⟩ := List.mem_map.1 hv; rfl)
  rw [List.length_map, hm] at h1
  exact h1
theorem oneZero (k : Nat) : ∀ v ∈ (Builtin.zeroCells #[.int .i64 0, .string ByteArray.empty] k).toList, v.oneCell' = true := by
  intro v hv
  simp only [Builtin.zeroCells, Array.mem_toList_iff, Array.mem_map] at hv
  obtain ⟨i, _, rfl⟩ := hv
  have : i % 2 = 0 ∨ i % 2 = 1 := by omega
  rcases this with h | h <;> simp [h, Value.oneCell']
theorem zeroWrite (w : World) : (zeroValue 92).run Tryz.prog w = .ok (.agg #[.int .i64 0, .string ByteArray.empty]) w := by kernel_rfl
/-- The pending writes are cleared and the row cut to none. -/
theorem DAt.clear (h : DAt W F d gd gv vp n s) : ∃ W2 A c, vp = .slice A s.pend.length c ∧ (∀ ty, (Builtin.clear_ #[93] ty #[vp]).run Tryz.prog W = .ok (.tuple #[]) W2) ∧
    W2.heap[d]? = W.heap[d]? ∧ DAt (W2.setCell ⟨d, 4, none⟩ (.slice A 0 c)) F d gd gv (.slice A 0 c) n { s with pend := [] } ∧ Turns F W (W2.setCell ⟨d, 4, none⟩ (.slice A 0 c)) := by
  obtain ⟨A, c, rfl, hc, hm⟩ := h.pp.slice
  rcases Nat.eq_zero_or_pos s.pend.length with h0 | h0
  · have hp : s.pend = [] := List.length_eq_zero_iff.1 h0
    have h1 := h.put 4 (.slice A 0 c) { s with pend := [] } (.slice A 0 c) rfl rfl rfl (fun x hx => absurd hx (by simp)) (by have := h.pp; rw [hp] at this; exact this)
      (fun g hg => h.np g (by cases A with | none => cases hg | some a => exact hg)) (fun g hg => h.fp g (by cases A with | none => cases hg | some a => exact hg))
    exact ⟨W, A, c, rfl, fun ty => by rw [h0]; exact run_clear_none W _ _ ty Tryz.underlying93 A c, rfl, h1⟩
  · rcases h.pp.2 with ⟨_, hn⟩ | ⟨g, cap, cur, he, _, hg, hcap, hmax, hsz, htk⟩
    · omega
    · injection he with e1 e2 e3
      subst e1 e3
      have hnp := h.np g rfl
      have hfp := h.fp g rfl
      obtain ⟨hs2, hb⟩ := heap_setCells g (Builtin.zeroCells #[.int .i64 0, .string ByteArray.empty] s.pend.length).toList 0 W
      obtain ⟨cs', hg', hsz'⟩ := setCells_shape g (Builtin.zeroCells #[.int .i64 0, .string ByteArray.empty] s.pend.length).toList 0 W cur _ hg
      have ht := Turns.of_but hb
      have hzl : (Builtin.zeroCells #[.int .i64 0, .string ByteArray.empty] s.pend.length).toList.length = s.pend.length * 2 := by rw [Array.length_toList, size_zeroCells]; rfl
      refine ⟨_, some ⟨g, 0, none⟩, c, rfl, fun ty => run_clear_cells W _ _ ty (.agg #[.int .i64 0, .string ByteArray.empty]) Tryz.underlying93 zeroWrite g _ c h0 ?_ ?_ ?_, ?_, ?_⟩
      · intro v hv
        exact oneZero _ v hv
      · intro j hj
        have hj1 : j < s.pend.length * 2 := hzl ▸ hj
        have hj2 : j < cur.size := by rw [hsz]; omega
        simp [World.cell?, hg, hj2]
      · intro j hj
        simp [World.frozen?, hg]
      · exact hb.block d (h.lf d h.fd.1) hnp.1.symm
      · obtain ⟨n1, n2, n3⟩ := h.ne
        obtain ⟨f1, f2, f3⟩ := h.fd
        show DAt ((W.setCells g 0 (Builtin.zeroCells #[.int .i64 0, .string ByteArray.empty] s.pend.length).toList).setCell _ _) _ _ _ _ _ _ _ ∧ Turns _ _ ((W.setCells g 0 (Builtin.zeroCells #[.int .i64 0, .string ByteArray.empty] s.pend.length).toList).setCell _ _)
        generalize W.setCells g 0 (Builtin.zeroCells #[.int .i64 0, .string ByteArray.empty] s.pend.length).toList = W1 at hs2 hb hg' ht
        have hput : Turns (fun k => k = d) W1 (W1.setCell ⟨d, 4, none⟩ (.slice (some ⟨g, 0, none⟩) 0 c)) := Turns.setCell W1 _ _ rfl
        have h1 : W1.heap[d]? = _ := (hb.block d (h.lf d f1) hnp.1.symm).trans h.hd
        have hT : Turns F W (W1.setCell ⟨d, 4, none⟩ (.slice (some ⟨g, 0, none⟩) 0 c)) := (ht.mono (fun k hk => by rw [hk]; exact hfp)).trans (hput.mono (fun k hk => by rw [hk]; exact f1))
        refine ⟨⟨?_, (h.rd.but hb hnp.2.1.symm).other ⟨d, 4, none⟩ n1 _, (h.rv.but hb hnp.2.2.symm).other ⟨d, 4, none⟩ n2 _, h.ld, h.lv, ?_, fun x hx => absurd hx (by simp), h.ne, h.np, h.fd, h.fp, fun k hk => Nat.lt_of_lt_of_le (h.lf k hk) hT.size, h.n64⟩, hT⟩
        · simp only [World.setCell, Array.getElem?_modify, h1]
          simp
        · refine ⟨by simp, .inr ⟨g, c, cs', rfl, Nat.zero_le _, ?_, Nat.zero_le _, hmax, by rw [hsz', hsz], by simp⟩⟩
          refine (hput.block g ?_ hnp.1).trans hg'
          rw [hs2]; exact h.lf g hfp
end

end Go.Proofs.YtllmciiadceinaaGreatDoor
