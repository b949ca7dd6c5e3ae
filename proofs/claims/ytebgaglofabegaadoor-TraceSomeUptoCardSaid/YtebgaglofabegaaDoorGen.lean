/-
  Small lemmas on blocks of four cells, results of calls, and slices that a call owns.
-/
import Derived.Test.YtebgaglofabegaaDoorTr2
namespace Go.Proofs.YtebgaglofabegaaDoor
open Go.RowKit Go.Lib

theorem c4 {w : World} {g : Nat} {c0 c1 c2 c3 : Value} {t : TypeId} (h : w.heap[g]? = some (.cells #[c0, c1, c2, c3] t)) :
    w.cell? ⟨g, 0, none⟩ = some c0 ∧ w.cell? ⟨g, 1, none⟩ = some c1 ∧ w.cell? ⟨g, 2, none⟩ = some c2 ∧ w.cell? ⟨g, 3, none⟩ = some c3 ∧ ∀ o, w.frozen? ⟨g, o, none⟩ = false := by
  have q0 := cell_of_row w g 0 _ _ _ h
  have q1 := cell_of_row w g 1 _ _ _ h
  have q2 := cell_of_row w g 2 _ _ _ h
  have q3 := cell_of_row w g 3 _ _ _ h
  simp only [List.getElem?_toArray, List.getElem?_cons_zero, List.getElem?_cons_succ] at q0 q1 q2 q3
  exact ⟨q0, q1, q2, q3, fun o => by simp [World.frozen?, h]⟩

theorem st4 {w : World} {g : Nat} {c0 c1 c2 c3 : Value} {t : TypeId} {fr : Nat × Nat} (h : w.heap[g]? = some (.cells #[c0, c1, c2, c3] t fr)) (d0 d1 d2 d3 : Value) :
    ((((w.setCell ⟨g, 0, none⟩ d0).setCell ⟨g, 1, none⟩ d1).setCell ⟨g, 2, none⟩ d2).setCell ⟨g, 3, none⟩ d3).heap[g]? = some (.cells #[d0, d1, d2, d3] t fr) :=
  heap_cells_set (heap_cells_set (heap_cells_set (heap_cells_set h _) _) _) _

theorem bl1 {B : Nat} {a w : World} (h : Below B a w) {b i : Nat} (hb : B ≤ b) (v : Value) : Below B a (w.setCell ⟨b, i, none⟩ v) := h.setCell (p := ⟨b, i, none⟩) hb v

theorem bl4 {B g : Nat} {w0 w : World} (h : Below B w0 w) (hg : B ≤ g) (d0 d1 d2 d3 : Value) : Below B w0 ((((w.setCell ⟨g, 0, none⟩ d0).setCell ⟨g, 1, none⟩ d1).setCell ⟨g, 2, none⟩ d2).setCell ⟨g, 3, none⟩ d3) :=
  bl1 (bl1 (bl1 (bl1 h hg _) hg _) hg _) hg _

theorem parts_len (c : UInt8) (l w : Bs) (h : w ∈ parts c l) : w.length ≤ l.length := by
  induction l generalizing w with
  | nil => simp [parts] at h; subst h; simp
  | cons x r ih =>
    unfold parts at h
    split at h
    · rcases List.mem_cons.1 h with rfl | h
      · simp
      · have := ih w h; simp only [List.length_cons]; omega
    · rcases List.mem_cons.1 h with rfl | h
      · have := ih ((parts c r).headD []) (by rw [← parts_cons]; simp)
        simp only [List.length_cons]; omega
      · have := ih w (List.mem_of_mem_tail h); simp only [List.length_cons]; omega

/-- strings.Split(s, " "). -/
theorem splits (s : ByteArray) (w : World) (hs : s.size ≤ 4194304) (hE : Env w) :
    Calls Tryd.prog 45 #[.string s, .string (mk [32])] w fun e w' => e = .returned (.slice (some ⟨w.heap.size, 0, none⟩) (parts 32 s.data.toList).length (parts 32 s.data.toList).length) ∧
      w' = w.alloc (.cells (((parts 32 s.data.toList).map fun l => Value.string (mk l)).toArray) 9) := by
  obtain ⟨mx, hmx⟩ := hE.maxlen
  refine (Tryd.strings_Split s (mk [32]) mx w (by omega) hmx (by rw [mk_size]; decide)).mono ?_
  rintro e w' ⟨rfl, rfl⟩
  rw [countB_one, parts_length, ← countB_one, split_strings, List.map_map]
  exact ⟨rfl, rfl⟩

/-- strings.Cut(s, "\n"). -/
theorem cuts (s : ByteArray) (w : World) (hs : s.size ≤ 4194304) (hE : Env w) :
    Calls Tryd.prog 70 #[.string s, .string (mk [10])] w fun e w' => e = .returned (.tuple #[.string (mk (cutL 10 s.data.toList).1), .string (mk (cutL 10 s.data.toList).2.1), .bool (cutL 10 s.data.toList).2.2]) ∧ ∃ n, w' = w.drewN n := by
  obtain ⟨mx, hmx⟩ := hE.maxlen
  refine (Tryd.strings_Cut s (mk [10]) mx w (by omega) hmx).mono ?_
  rintro e w' ⟨rfl, hw⟩
  rw [mk_data, cut_cutL]
  exact ⟨rfl, hw⟩

theorem cutL_le (l : Bs) : (cutL 10 l).1.length ≤ l.length ∧ (cutL 10 l).2.1.length ≤ l.length := by
  induction l with
  | nil => exact ⟨Nat.le_refl _, Nat.le_refl _⟩
  | cons x r ih => unfold cutL; split <;> simp only [List.length_cons, List.length_nil] <;> omega

theorem env_drewN {w : World} (h : Env w) (n : Nat) : Env (w.drewN n) := ⟨h.low, h.maxlen, h.syn, h.rng, h.pow⟩

theorem own_slice {W : World} {B e size n : Nat} {v : Value} {xs : List Value} (h : W.ownsRow B e size v n xs) : ∃ A c, v = .slice A n c := by
  rcases h.2 with ⟨rfl, h0⟩ | ⟨g, cap, cur, hv, _⟩
  · exact ⟨none, 0, by rw [h0]⟩
  · exact ⟨_, cap, hv⟩

theorem own_at {w : World} {B e size n : Nat} {v : Value} {xs : List Value} (h : w.ownsRow B e size v n xs) : ∃ A c, v = .slice A n c ∧ At w A xs := by
  obtain ⟨A, c, rfl⟩ := own_slice h
  exact ⟨A, c, rfl, At.ofOwn h⟩

end Go.Proofs.YtebgaglofabegaaDoor
