/-
  The document's words of a line.
-/
import Derived.Test.YtebgaglofabegaaDoorRf2
namespace Go.Proofs.YtebgaglofabegaaDoor
open Go.RowKit Go.Lib

theorem parts_snoc_sep (c : UInt8) (l : Bs) : parts c (l ++ [c]) = parts c l ++ [[]] := by
  induction l with
  | nil => simp [parts]
  | cons x r ih =>
    rw [List.cons_append, parts, parts]
    split
    · rw [ih]; rfl
    · rw [ih]
      have hne := parts_ne c r
      cases hp : parts c r with
      | nil => exact absurd hp hne
      | cons a b => rfl

/-- The last word, and those ahead of it. -/
theorem parts_last (c : UInt8) (l : Bs) : ∃ ws w, parts c l = ws ++ [w] := by
  have h := parts_ne c l
  exact ⟨(parts c l).dropLast, (parts c l).getLast h, (List.dropLast_concat_getLast h).symm⟩

theorem parts_snoc (c x : UInt8) (hx : x ≠ c) (l : Bs) : ∀ ws w, parts c l = ws ++ [w] → parts c (l ++ [x]) = ws ++ [w ++ [x]] := by
  induction l with
  | nil =>
    intro ws w h
    have h' : [[]] = ws ++ [w] := h
    cases ws with
    | nil => simp at h'; subst h'; simp [parts, hx]
    | cons a b => have := congrArg List.length h'; simp at this
  | cons y r ih =>
    intro ws w h
    rw [parts] at h
    rw [List.cons_append, parts]
    split
    · rename_i hy
      rw [if_pos hy] at h
      cases ws with
      | nil =>
        have : parts c r = [] := by simpa using (List.cons.inj h).2
        exact absurd this (parts_ne c r)
      | cons a b =>
        obtain ⟨rfl, h2⟩ := List.cons.inj h
        rw [ih b w h2]; rfl
    · rename_i hy
      rw [if_neg hy] at h
      cases ws with
      | nil =>
        obtain ⟨h1, h2⟩ := List.cons.inj h
        have hpc := parts_cons c r
        rw [h2] at hpc
        have := ih [] ((parts c r).headD []) hpc.symm
        rw [this]
        simp only [List.nil_append, List.headD_cons, List.tail_cons]
        rw [← h1]; rfl
      | cons a b =>
        obtain ⟨h1, h2⟩ := List.cons.inj h
        have hpc := parts_cons c r
        rw [h2] at hpc
        have := ih ((parts c r).headD [] :: b) w hpc.symm
        rw [this]
        simp only [List.cons_append, List.headD_cons, List.tail_cons]
        rw [h1]

def strCells (l : List Bs) : List Value := l.map fun b => .string (mk b)

theorem ownsRow_set {w : World} {B e n cap g i : Nat} {xs : List Value} (u : Value) (h : w.ownsRow B e 1 (.slice (some ⟨g, 0, none⟩) n cap) n xs) (hi : i < n) :
    (w.setCell ⟨g, i, none⟩ u).ownsRow B e 1 (.slice (some ⟨g, 0, none⟩) n cap) n (xs.set i u) := by
  obtain ⟨hl, h2⟩ := h
  rcases h2 with ⟨h3, _⟩ | ⟨g', cap', cur, hv, hg, hh, hc, hm, hs, ht⟩
  · cases h3
  · injection hv with h1 _ h3
    injection h1 with h1
    injection h1 with h1
    subst h1 h3
    refine ⟨by rw [List.length_set]; exact hl, .inr ⟨g, cap, cur.setIfInBounds i u, rfl, hg, heap_cells_set hh u, hc, hm, by rw [Array.size_setIfInBounds]; exact hs, ?_⟩⟩
    rw [Array.toList_setIfInBounds, ← ht, List.take_set]

theorem info_str : (Tryd.prog.info? 9).map (fun i => (i.zero, i.size, i.bytes)) = some (some (.string ⟨#[]⟩), 1, 16) := by kernel_rfl

set_option maxRecDepth 100000 in
set_option maxHeartbeats 2000000 in
theorem words_any (s : ByteArray) (hs : s.size ≤ 4194304) (w : World) (hlow : 10 ≤ w.heap.size) :
    Calls Tryd.prog 50 #[.string s] w fun e w' => ∃ v, e = .returned v ∧ w'.ownsRow w.heap.size 9 1 v (parts 32 s.data.toList).length (strCells (parts 32 s.data.toList)) ∧ Below w.heap.size w w' := by
  have Hlen := Lib.hid (size_toList s)
  go_enter Tryd.func50, Tryd.ntmps50
  go_wp2_with fail
  have own0 : (w.alloc (.cells #[.string ⟨#[]⟩] 9)).ownsRow w.heap.size 9 1 (.slice (some ⟨w.heap.size, 0, none⟩) 1 1) 1 (strCells (parts 32 (s.data.toList.take 0))) :=
    ⟨rfl, .inr ⟨w.heap.size, 1, #[.string ⟨#[]⟩], rfl, Nat.le_refl _, World.alloc_heap_new w _, Nat.le_refl _, by decide, rfl, rfl⟩⟩
  go_loopw [3, 4] (fun v i wr => ∃ k : Nat, k ≤ s.size ∧ i = .int .i64 k ∧ wr.ownsRow w.heap.size 9 1 v (parts 32 (s.data.toList.take k)).length (strCells (parts 32 (s.data.toList.take k))) ∧ Below w.heap.size w wr) (fun _ i _ => s.size - (RowKit.intOf i).toNat)
  case atStart => exact ⟨0, Nat.zero_le _, rfl, own0, below_alloc _⟩
  case round =>
    obtain ⟨k, hks, rfl, hown, hb⟩ := hrel
    have hpl := parts_length 32 (s.data.toList.take k)
    have hcn : (s.data.toList.take k).count 32 ≤ k := Nat.le_trans List.count_le_length (List.length_take_le _ _)
    obtain ⟨ws, w0, hps⟩ := parts_last 32 (s.data.toList.take k)
    rw [hps] at hown hpl
    have hwl : (ws ++ [w0]).length = ws.length + 1 := by simp
    rw [hwl] at hown hpl
    have hNk : ws.length ≤ k := by omega
    clear hpl hcn
    obtain ⟨g, cap, rfl⟩ := ownsRow_succ hown
    have hfro := hown
    by_cases hlt : k < s.size
    · obtain ⟨c, hck⟩ : ∃ c, s.data.toList[k]? = some c := ⟨_, List.getElem?_eq_getElem (by have := Hlen.out; omega)⟩
      have hkl : k < s.data.toList.length := by have := Hlen.out; omega
      have ek : s.data.toList.take (k + 1) = s.data.toList.take k ++ [c] := by
        rw [List.take_succ_eq_append_getElem hkl]
        rw [List.getElem?_eq_getElem hkl] at hck
        rw [Option.some.inj hck]
      have hix : ∀ h, s[k]'h = c := fun h => by
        rw [List.getElem?_eq_getElem hkl] at hck
        exact Option.some.inj hck
      clear hkl
      have hltI : (k : Int) < (s.size : Int) := by omega
      by_cases hc : c = 32
      · subst hc
        obtain ⟨i0, hi, hz0, hz1, hz2⟩ := info_parts info_str
        have E := Lib.hid (show parts 32 (s.data.toList.take (k + 1)) = ws ++ [w0] ++ [[]] by rw [ek, parts_snoc_sep, hps])
        clear ek hps hck hfro
        go_wp2_with ((at_builtin; refine wpList_append_own _ rfl _ _ 78 rfl w.heap.size 9 i0 (.string ⟨#[]⟩) 1 16 Tryd.underlying78 hi hz0 hz1 hz2 rfl (by omega) _ _ _ rfl (hown.alloc _) ⟨wr.heap.size, 0, none⟩ 1 1 [.string ⟨#[]⟩] rfl rfl (cell_one_new _ _ _) (by simp [Value.oneCell']) (by unfold maxLen; omega) (by omega) (by have := hb.size; simp; omega) ?_; intro v3 w3 hown3 hgrow3 _))
        have hb3 : Below w.heap.size w w3 := ((hb.alloc hb.size _).grown hgrow3 (by have := hb.size; simp; omega) (fun g hg => (hown.lt g hg).1))
        refine ⟨⟨k + 1, by omega, by go_num, ?_, hb3⟩, by simp [RowKit.intOf]; omega⟩
        rw [E.out]
        have e1 : (ws ++ [w0] ++ [[]]).length = ws.length + 1 + 1 := by simp
        have e2 : strCells (ws ++ [w0] ++ [[]]) = strCells (ws ++ [w0]) ++ [.string ⟨#[]⟩] := by simp [strCells, mk]
        rw [e1, e2]; exact hown3
      · have hcI : ((c.toNat : Int) == 32) = false := by
          rw [beq_eq_false_iff_ne]
          intro h
          exact hc (UInt8.toNat_inj.1 (show c.toNat = 32 by omega))
        have E := Lib.hid (show parts 32 (s.data.toList.take (k + 1)) = ws ++ [w0 ++ [c]] by rw [ek]; exact parts_snoc 32 c hc _ _ _ hps)
        have hw0 : w0.length ≤ k := by
          have := parts_mem_len 32 _ w0 (show w0 ∈ parts 32 (s.data.toList.take k) by rw [hps]; simp)
          exact Nat.le_trans this (List.length_take_le _ _)
        have hgl := hown.lt g rfl
        have hcell : wr.cell? ⟨g, ws.length, none⟩ = some (.string (mk w0)) := by
          have := hown.cells (g := g) rfl ws.length (.string (mk w0)) (by simp [strCells])
          rw [Addr.add_lit, Nat.zero_add] at this
          exact this
        have hfz : wr.frozen? ⟨g, ws.length, none⟩ = false := by
          obtain ⟨cc, hcc⟩ : ∃ cc, wr.heap[g]? = some (.cells cc 9 (0, 0)) := by
            rcases hown.2 with ⟨h3, _⟩ | ⟨g', cap', cur, hv, hg, hh, _⟩
            · cases h3
            · injection hv with h1
              injection h1 with h1
              injection h1 with h1
              subst h1
              exact ⟨cur, hh⟩
          simp [World.frozen?, hcc]
        have ownB : (wr.alloc (.cells #[.int .u8 c.toNat] 5)).drew.ownsRow wr.heap.size 5 1 (.slice (some ⟨wr.heap.size, 0, none⟩) 1 1) 1 (byteCells [c]) :=
          ⟨rfl, .inr ⟨wr.heap.size, 1, #[.int .u8 c.toNat], rfl, Nat.le_refl _, World.alloc_heap_new wr _, Nat.le_refl _, by decide, rfl, rfl⟩⟩
        have hcv := run_string_of_row ownB
        have hs1 : (mk w0).size = w0.length := mk_size _
        have hs2 : (mk [c]).size = 1 := mk_size _
        generalize hN : ws.length = N at *
        clear ek hps hck hfro ownB
        go_wp2_with fail
        go_region
        all_goals
          go_wp2_with fail
          have hset := ownsRow_set (.string (mk w0 ++ mk [c])) hown (Nat.lt_succ_self N)
          have hown3 := hset.alloc (.cells #[.int .u8 c.toNat] 5)
          have hb2 := below_set (i := N) hb hgl.1 (.string (mk w0 ++ mk [c]))
          have hb3 := hb2.alloc hb2.size (.cells #[.int .u8 c.toNat] 5)
          refine ⟨⟨k + 1, by omega, by go_num, ?_, ⟨hb3.os, hb3.tape, hb3.output, hb3.size, hb3.block⟩⟩, by simp [RowKit.intOf]; omega⟩
          rw [E.out]
          have e1 : (ws ++ [w0 ++ [c]]).length = N + 1 := by simp [hN]
          have e2 : strCells (ws ++ [w0 ++ [c]]) = (strCells (ws ++ [w0])).set N (.string (mk w0 ++ mk [c])) := by
            rw [mk_append, ← hN]; simp [strCells]
          rw [e1, e2]; exact hown3
    · have hke : k = s.size := by omega
      have hge : (s.size : Int) ≤ (k : Int) := by omega
      have et : s.data.toList.take k = s.data.toList := by rw [hke, Hlen.out, List.take_length]
      have hfin : wr.ownsRow w.heap.size 9 1 (.slice (some ⟨g, 0, none⟩) (ws.length + 1) cap) (parts 32 s.data.toList).length (strCells (parts 32 s.data.toList)) := by
        rw [← et, hps, hwl]; exact hown
      clear hke et hps hwl
      go_wp2_with fail
      go_ret
      exact ⟨_, rfl, hfin, hb⟩

end Go.Proofs.YtebgaglofabegaaDoor
