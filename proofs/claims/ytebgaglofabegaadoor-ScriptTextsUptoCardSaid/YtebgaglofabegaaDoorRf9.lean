/-
  The document's Get.
-/
import Derived.Test.YtebgaglofabegaaDoorRf8
namespace Go.Proofs.YtebgaglofabegaaDoor
open Go.RowKit Go.Lib

theorem lns_app2 (a b : Bs) : lns (a ++ b) = lns a ++ lns (rst a ++ b) ∧ rst (a ++ b) = rst (rst a ++ b) := by
  generalize hn : a.length = n
  induction n using Nat.strongRecOn generalizing a with
  | _ n ih =>
    rcases line_cases a with hl | ⟨v, r, rfl, hv⟩
    · rw [lns_none a hl, rst_none a hl]; exact ⟨rfl, rfl⟩
    · have := ih r.length (by simp at hn; omega) r rfl
      rw [lns_app v r hv, rst_app v r hv, List.append_assoc, List.cons_append, lns_app v (r ++ b) hv, rst_app v (r ++ b) hv, this.1, this.2]
      exact ⟨rfl, rfl⟩

theorem pieces_app (a b : Bs) : pieces (a ++ b) = (lns a).map (·, true) ++ pieces (rst a ++ b) := by
  unfold pieces
  rw [(lns_app2 a b).1, (lns_app2 a b).2, List.map_append, List.append_assoc]

theorem rst_clean (l : Bs) : (10 : UInt8) ∉ rst l := by
  generalize hn : l.length = n
  induction n using Nat.strongRecOn generalizing l with
  | _ n ih =>
    rcases line_cases l with hl | ⟨v, r, rfl, hv⟩
    · rw [rst_none l hl]; exact hl
    · rw [rst_app v r hv]
      exact ih r.length (by simp at hn; omega) r rfl

theorem snoc_feed (l : Bs) : lns (l ++ [10]) = lns l ++ [rst l] ∧ rst (l ++ [10]) = [] := by
  have h := lns_app2 l [10]
  rw [h.1, h.2, show rst l ++ [10] = rst l ++ 10 :: [] from rfl, lns_app _ _ (rst_clean l), rst_app _ _ (rst_clean l)]
  exact ⟨rfl, rfl⟩

theorem snoc_byte (l : Bs) (x : UInt8) (hx : x ≠ 10) : lns (l ++ [x]) = lns l ∧ rst (l ++ [x]) = rst l ++ [x] := by
  have h := lns_app2 l [x]
  have hc : (10 : UInt8) ∉ rst l ++ [x] := by
    rw [List.mem_append]
    rintro (h | h)
    · exact rst_clean l h
    · exact hx (List.mem_singleton.1 h).symm
  rw [h.1, h.2, lns_none _ hc, rst_none _ hc, List.append_nil]
  exact ⟨rfl, rfl⟩

theorem rst_len (l : Bs) : (rst l).length ≤ l.length := by
  have := congrArg List.length (unl_lns l)
  rw [List.length_append] at this
  omega

/-- What is got of the lines so far. -/
def Got (l : Bs) (acc : List ActV) : Prop := ∀ r, getGo ((lns l).map (·, true) ++ r) [] 0 = getGo r acc (lns l).length

theorem got_nil : Got [] [] := fun r => rfl

theorem got_byte {l : Bs} {acc : List ActV} {x : UInt8} (h : Got l acc) (hx : x ≠ 10) : Got (l ++ [x]) acc := by
  unfold Got; rw [(snoc_byte l x hx).1]; exact h

theorem got_feed {l : Bs} {acc acc' : List ActV} (h : Got l acc) (hx : ∀ r, getGo ((rst l, true) :: r) acc (lns l).length = getGo r acc' ((lns l).length + 1)) : Got (l ++ [10]) acc' := fun r => by
  rw [(snoc_feed l).1, List.map_append, List.append_assoc, h, List.length_append]
  exact hx r

theorem got_stop {full l rest : Bs} {acc : List ActV} {e : Int} (hf : full = l ++ 10 :: rest) (h : Got l acc) (hx : ∀ r, getGo ((rst l, true) :: r) acc (lns l).length = ([], ((lns l).length : Int) + 1, e)) :
    getGo (pieces full) [] 0 = ([], ((lns l).length : Int) + 1, e) := by
  rw [hf, pieces_app, h, show rst l ++ 10 :: rest = (rst l ++ [10]) ++ rest by simp, pieces_app, show rst l ++ [10] = rst l ++ 10 :: [] from rfl, lns_app _ _ (rst_clean l)]
  exact hx _

theorem got_end {l : Bs} {acc : List ActV} (h : Got l acc) : getGo (pieces l) [] 0 = if rst l = [] then (acc, 0, 0) else ([], ((lns l).length : Int) + 1, 8) := by
  unfold pieces
  rw [h]
  split
  · rfl
  · simp [getGo]

end Go.Proofs.YtebgaglofabegaaDoor
