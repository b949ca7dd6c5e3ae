/-
  slices.Clone at marks; 'clear' on a slice of structs.
-/
import Derived.Test.YtebgaglofabegaaDoorTr7
import Derived.WalkLawsBesides
import Derived.Lib.SliceRun
namespace Go.Proofs.YtebgaglofabegaaDoor
open Go.RowKit Go.Lib

theorem markRows_one (l : List MarkV) : ∀ u ∈ markRows l, u.oneCell' = true := by
  intro u hu
  simp only [markRows, List.mem_flatten, List.mem_map] at hu
  obtain ⟨_, ⟨m, _, rfl⟩, hu⟩ := hu
  simp only [markCells, List.mem_cons, List.not_mem_nil, or_false] at hu
  rcases hu with rfl | rfl | rfl | rfl <;> rfl

theorem own_fresh (w : World) (e size : Nat) : (w.alloc (.cells #[] e)).ownsRow w.heap.size e size (.slice (some ⟨w.heap.size, 0, none⟩) 0 0) 0 [] :=
  ⟨by simp, .inr ⟨w.heap.size, 0, #[], rfl, Nat.le_refl _, heap_alloc_new w _, Nat.le_refl _, Nat.zero_le _, by simp, by simp⟩⟩

set_option maxRecDepth 100000 in
theorem clone_any (l : List MarkV) (A : Option Addr) (c : Nat) (w : World) (hA : At w A (markRows l)) (hlen : l.length * 32 ≤ 140737488355328) :
    Calls Tryd.prog 39 #[.slice A l.length c] w fun e w' => (∃ v, e = .returned v ∧ w'.ownsRow w.heap.size 28 4 v l.length (markRows l)) ∧ Below w.heap.size w w' := by
  obtain ⟨i0, hi, hz0, hz1, hz2⟩ := info_parts info_mark
  cases A with
  | none =>
    have hl : l = [] := by
      cases l with
      | nil => rfl
      | cons a l =>
        obtain ⟨b, o, h, _⟩ := hA (by simp [markRows, markCells])
        cases h
    subst hl
    have hq := fun w => Lib.run_eql_slice_nil (P := Tryd.prog) w 22 28 none 0 c 0 0 Tryd.underlying22
    simp only [Option.isNone_none] at hq
    simp only [List.length_nil]
    go_enter Tryd.func39, Tryd.ntmps39
    go_wp2_with fail
    go_ret
    exact ⟨⟨_, rfl, World.ownsRow_nil _ _ _ _⟩, Below.refl _ _⟩
  | some ad =>
    have hq := fun w => Lib.run_eql_slice_nil (P := Tryd.prog) w 22 28 (some ad) l.length c 0 0 Tryd.underlying22
    simp only [Option.isNone_some] at hq
    have HO := Lib.hid (own_fresh w 28 4)
    have hn : ∀ j u, (markRows l)[j]? = some u → (w.alloc (.cells #[] 28)).cell? (ad.add j) = some u := fun j u h => by
      have hne : markRows l ≠ [] := fun e => by rw [e] at h; simp at h
      obtain ⟨b, o, hA', _, hc⟩ := (hA.later (below_alloc (.cells #[] 28)) (Nat.le_refl _)) hne
      injection hA' with hA'
      subst hA'
      rw [Addr.add_lit]
      exact hc j u h
    have HN := Lib.hid hn
    clear hn
    go_enter Tryd.func39, Tryd.ntmps39
    go_wp2_with ((at_builtin; refine wpList_append_own _ rfl _ _ 22 rfl w.heap.size 28 i0 (.agg #[.int .i64 0, .int .u8 0, .int .i64 0, .int .i64 0]) 4 32 Tryd.underlying22 hi hz0 hz1 hz2 rfl (by decide) _ _ _ rfl HO.out ad l.length c (markRows l) rfl (markRows_length l) HN.out (markRows_one l) (by unfold maxLen; omega) (by omega) (by simp) ?_; intro v1 w1 own1 hg1 _))
    go_ret
    rw [Nat.zero_add, List.nil_append] at own1
    exact ⟨⟨_, rfl, own1⟩, (below_alloc _).grown hg1 (by simp) (fun k hk => (HO.out.lt k hk).1)⟩

theorem zeroCells_len (cs : Array Value) (n : Nat) : (Builtin.zeroCells cs n).toList.length = n * cs.size := by simp [Builtin.zeroCells]
theorem zeroCells_mem {cs : Array Value} {n : Nat} {v : Value} (h : v ∈ (Builtin.zeroCells cs n).toList) : v ∈ cs.toList := by
  simp only [Builtin.zeroCells, Array.toList_map, List.mem_map] at h
  obtain ⟨i, hi, rfl⟩ := h
  have h0 : 0 < cs.size := by
    rcases Nat.eq_zero_or_pos cs.size with h | h
    · simp [h] at hi
    · exact h
  rw [getElem!_pos cs _ (Nat.mod_lt _ h0)]
  simp

/-- 'clear(s)', s a slice of structs: the cells turn, nothing else. -/
theorem run_clear_rows {P : Program} (w : World) (t e ty : TypeId) (z : Value) (ht : P.underlying t = some (.slice e)) (hv : ∀ w, (zeroValue e).run P w = .ok z w) (h1 : ∀ u ∈ z.cells.toList, u.oneCell' = true) (b o n c : Nat) (hn : 0 < n)
    (hc : ∀ j, j < n * z.cells.size → (w.cell? ⟨b, o + j, none⟩).isSome = true) (hf : ∀ j, j < n * z.cells.size → w.frozen? ⟨b, o + j, none⟩ = false) :
    (Builtin.clear_ #[t] ty #[.slice (some ⟨b, o, none⟩) n c]).run P w = .ok (.tuple #[]) (w.setCells b o (Builtin.zeroCells z.cells n).toList) := by
  have hst := run_storeCells_cells (P := P) b o (Builtin.zeroCells z.cells n).toList 0 w (by rw [zeroCells_len]; simpa using hc) (by rw [zeroCells_len]; simpa using hf) (by intro v hv'; exact h1 v (zeroCells_mem hv'))
  simp only [Nat.add_zero] at hst
  obtain ⟨m, rfl⟩ : ∃ m, n = m + 1 := ⟨n - 1, by omega⟩
  simp [Builtin.clear_, run_underlying ht, hv, hst]

end Go.Proofs.YtebgaglofabegaaDoor
