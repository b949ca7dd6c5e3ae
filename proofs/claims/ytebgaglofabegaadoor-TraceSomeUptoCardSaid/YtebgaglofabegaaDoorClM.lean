/-
  FROM A ROW's CONDITIONS TO THE WALKS: the words of the marks; a slice of marks, opened.
-/
import Derived.Test.YtebgaglofabegaaDoorTr12
import Derived.Test.YtebgaglofabegaaDoorClose
namespace Go.Proofs.YtebgaglofabegaaDoor
open Go.ChangeShapes Go.WideShapes Go.ChangeAt Go.RowKit Go.Deep

theorem bulkOne {H : Type} (d : DataW H) : 1 ≤ Rows.uptoBulk d := by
  cases d with
  | lit l => cases l <;> simp [Rows.uptoBulk]
  | _ => simp [Rows.uptoBulk]

theorem bulkAll_len {H : Type} : ∀ l : List (DataW H), l.length ≤ Rows.uptoBulkAll l
  | [] => Nat.zero_le _
  | d :: r => by
    have := bulkOne d
    have := bulkAll_len r
    simp only [List.length_cons, Rows.uptoBulkAll]
    omega

theorem markWords_of_laid {W : World} {laid : List (String × DataW Unit)} (h : laidMetH Tryd.prog laid W) (hpl : (laid.all fun x => x.2.handleName?.isNone) = true) (m : ("verge/trace.words", Rows.laid_verge_trace_words) ∈ laid) : MarkWords W := by
  rw [MakeChecks.laidMetH_plain _ _ _ hpl] at h
  intro k h0 h1
  have hw := fun i l hi => laid_words (n := "verge/trace.words") (ws := [[], markWord 1, markWord 2, markWord 3, markWord 4, markWord 5, markWord 6, markWord 7, markWord 8, markWord 9, markWord 10, markWord 11]) h m gTWords (by kernel_rfl) Tryd.underlying140 (by kernel_rfl) i l hi
  have h : k = 0 ∨ k = 1 ∨ k = 2 ∨ k = 3 ∨ k = 4 ∨ k = 5 ∨ k = 6 ∨ k = 7 ∨ k = 8 ∨ k = 9 ∨ k = 10 ∨ k = 11 := by omega
  rcases h with rfl | rfl | rfl | rfl | rfl | rfl | rfl | rfl | rfl | rfl | rfl | rfl <;> exact hw _ _ rfl

set_option maxRecDepth 100000 in
/-- A slice of marks, opened. -/
theorem open_marks {H : Type} {enc : TypeId × Value → H} {W : World} {base : Nat} {sp : Nat → Bool} {held : Bool} {r : Reach} {b0 : Nat} {v : Value} {d : DataW H} {p : List MemPlace}
    (hv : Value.okWide Tryd.prog W r b0 22 v) (h : DataW.Trod enc Tryd.prog W base sp held 22 v d p) :
    ∃ (A : Option Addr) (l : List MarkV) (c : Nat), v = .slice A l.length c ∧ At W A (markRows l) ∧ (∀ a ∈ l, 0 ≤ a.kind) ∧ l.length ≤ Rows.uptoBulk d := by
  obtain ⟨a0, len, cap, rfl⟩ := okWide_slice Tryd.underlying22 hv
  obtain ⟨fuel, hf⟩ := h
  rcases open_slice Tryd.underlying22 hf with ⟨hcs, hx⟩ | ⟨a, len', cap', m, n, D, Pl, hcs, _, hl, hm, hmm, hx, hel⟩
  · simp [Value.cells] at hcs
    obtain ⟨rfl, rfl, rfl⟩ := hcs
    exact ⟨none, [], 0, rfl, At.nil _ _, (fun a ha => by cases ha), Nat.zero_le _⟩
  · simp [Value.cells] at hcs
    obtain ⟨rfl, rfl, rfl⟩ := hcs
    have hlm : len ≤ m := by rw [hmm]; split <;> omega
    have hC : Tryd.prog.cellsOf 28 = 4 := by kernel_rfl
    have key : ∀ i, i < len → ∃ x : MarkV, 0 ≤ x.kind ∧ W.cell? (a.add (i * 4)) = some (.int .i64 x.time) ∧ W.cell? (a.add (i * 4 + 1)) = some (.int .u8 x.kind) ∧ W.cell? (a.add (i * 4 + 2)) = some (.int .i64 x.who) ∧ W.cell? (a.add (i * 4 + 3)) = some (.int .i64 x.a) := by
      intro i hi
      obtain ⟨cs', hc, ht⟩ := hel i (by omega)
      rw [hC] at hc
      obtain ⟨ys, n', _, hy, hlen4, hyl, hfi⟩ := DataW.trod_struct Tryd.underlying28 ht
      obtain ⟨_, hcl, hat⟩ := World.cells?_some hc
      obtain ⟨c0, c1, c2, c3, rfl⟩ : ∃ c0 c1 c2 c3, cs' = [c0, c1, c2, c3] := by
        match cs', hcl with
        | [c0, c1, c2, c3], _ => exact ⟨c0, c1, c2, c3, rfl⟩
      have f0 := hfi 0 _ rfl
      have f1 := hfi 1 _ rfl
      have f2 := hfi 2 _ rfl
      have f3 := hfi 3 _ rfl
      have hy4 : ys.length = 4 := hyl
      obtain ⟨y0, y1, y2, y3, rfl⟩ : ∃ y0 y1 y2 y3, ys = [y0, y1, y2, y3] := by
        match ys, hy4 with
        | [y0, y1, y2, y3], _ => exact ⟨y0, y1, y2, y3, rfl⟩
      obtain ⟨z0, e0, _, w0⟩ := DataW.trod_int Tryd.underlying2 (show _ = some y0 from f0)
      obtain ⟨z1, e1, _, w1⟩ := DataW.trod_int Tryd.underlying23 (show _ = some y1 from f1)
      obtain ⟨z2, e2, _, w2⟩ := DataW.trod_int Tryd.underlying3 (show _ = some y2 from f2)
      obtain ⟨z3, e3, _, w3⟩ := DataW.trod_int Tryd.underlying2 (show _ = some y3 from f3)
      have k1 : Tryd.prog.cellsOf 23 = 1 := by kernel_rfl
      have k2 : Tryd.prog.cellsOf 3 = 1 := by kernel_rfl
      have k3 : Tryd.prog.cellsOf 2 = 1 := by kernel_rfl
      replace e0 : List.take (Tryd.prog.cellsOf 2) [c0, c1, c2, c3] = _ := e0
      replace e1 : List.take (Tryd.prog.cellsOf 23) [c1, c2, c3] = _ := e1
      replace e2 : List.take (Tryd.prog.cellsOf 3) [c2, c3] = _ := e2
      replace e3 : List.take (Tryd.prog.cellsOf 2) [c3] = _ := e3
      rw [k3] at e0
      rw [k1] at e1
      rw [k2] at e2
      rw [k3] at e3
      simp only [List.take_succ_cons, List.take_zero, List.cons.injEq, and_true] at e0 e1 e2 e3
      subst e0 e1 e2 e3
      have a0 := hat 0 (by omega)
      have a1 := hat 1 (by omega)
      have a2 := hat 2 (by omega)
      have a3 := hat 3 (by omega)
      rw [Go.Deep.add_add] at a0 a1 a2 a3
      exact ⟨⟨z0, z1, z2, z3⟩, (bounds_u8 w1).1, a0, a1, a2, a3⟩
    obtain ⟨l, hll, hlp⟩ := list_of len _ key
    subst hll
    refine ⟨some a, l, cap, rfl, fun hne => ?_, fun x hx => ?_, ?_⟩
    · have hpos : 0 < l.length := by
        rcases l with _ | ⟨x, r⟩
        · exact absurd rfl hne
        · simp
      obtain ⟨b, off, spot⟩ := a
      obtain ⟨_, g0, _⟩ := hlp 0 l[0] (List.getElem?_eq_getElem hpos)
      have hlt : b < W.heap.size := by
        rcases Nat.lt_or_ge b W.heap.size with h' | h'
        · exact h'
        · rw [show (⟨b, off, spot⟩ : Addr).add (0 * 4) = ⟨b, off, spot⟩ from rfl] at g0
          simp [World.cell?, Array.getElem?_eq_none h'] at g0
      have hspot : spot = none := World.cell?_spot (show W.cell? ⟨b, off, spot⟩ = some _ from g0)
      subst hspot
      refine ⟨b, off, rfl, hlt, fun j u hu => ?_⟩
      have hj : j < l.length * 4 := by rw [← markRows_length]; exact (List.getElem?_eq_some_iff.1 hu).1
      have hji : j / 4 < l.length := by omega
      obtain ⟨_, q0, q1, q2, q3⟩ := hlp (j / 4) l[j / 4] (List.getElem?_eq_getElem hji)
      rw [Addr.add_lit] at q0 q1 q2 q3
      have hd : j = j / 4 * 4 + j % 4 := by omega
      have hget := markRows_get l (j / 4) (j % 4) (by omega)
      rw [← hd, hu, List.getElem?_eq_getElem hji] at hget
      generalize l[j / 4] = x at *
      have h4 : j % 4 = 0 ∨ j % 4 = 1 ∨ j % 4 = 2 ∨ j % 4 = 3 := by omega
      rcases h4 with h4 | h4 | h4 | h4 <;> rw [h4] at hget <;> simp [markCells] at hget <;> rw [hget]
      · rw [show off + j = off + j / 4 * 4 by omega]; exact q0
      · rw [show off + j = off + (j / 4 * 4 + 1) by omega]; exact q1
      · rw [show off + j = off + (j / 4 * 4 + 2) by omega]; exact q2
      · rw [show off + j = off + (j / 4 * 4 + 3) by omega]; exact q3
    · obtain ⟨i, hi, rfl⟩ := List.mem_iff_getElem.1 hx
      exact (hlp i l[i] (List.getElem?_eq_getElem hi)).1
    · obtain ⟨rfl, _⟩ := Prod.mk.inj hx
      simp only [Rows.uptoBulk]
      have := bulkAll_len ((List.range l.length).map D)
      simp only [List.length_map, List.length_range] at this
      omega

end Go.Proofs.YtebgaglofabegaaDoor
