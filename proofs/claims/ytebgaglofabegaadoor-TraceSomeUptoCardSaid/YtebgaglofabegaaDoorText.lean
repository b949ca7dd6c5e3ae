/-
  Plain facts on texts: a text cut at a byte, its whole lines and what stands behind the last line feed; strings.Split and strings.Cut at a separator of one byte. No program stands here.
-/
import Derived.Lib.SplitLaws
import Derived.Lib.CutLaws
import Derived.Lib.IndexBytes
namespace Go.Proofs.YtebgaglofabegaaDoor
open Go.Lib

abbrev Bs := List UInt8
/-- The string of these bytes. -/
def mk (l : Bs) : ByteArray := ⟨l.toArray⟩
theorem mk_data (l : Bs) : (mk l).data.toList = l := by simp [mk]
theorem mk_size (l : Bs) : (mk l).size = l.length := by simp [mk, ByteArray.size]
theorem mk_of (s : ByteArray) : mk s.data.toList = s := by cases s; simp [mk]
theorem mk_inj {a b : Bs} (h : mk a = mk b) : a = b := by
  have := congrArg (fun s => s.data.toList) h
  simpa [mk_data] using this
theorem size_toList (s : ByteArray) : s.size = s.data.toList.length := Array.length_toList.symm

/-- A text cut at each byte c. -/
def parts (c : UInt8) : Bs → List Bs
  | [] => [[]]
  | x :: r => if x = c then [] :: parts c r else ((x :: (parts c r).headD []) :: (parts c r).tail)

theorem parts_ne (c : UInt8) (l : Bs) : parts c l ≠ [] := by
  cases l with
  | nil => simp [parts]
  | cons x r => unfold parts; split <;> simp

theorem parts_cons (c : UInt8) (l : Bs) : (parts c l).headD [] :: (parts c l).tail = parts c l := by
  have := parts_ne c l
  cases h : parts c l with
  | nil => exact absurd h this
  | cons a b => rfl

theorem parts_length (c : UInt8) (l : Bs) : (parts c l).length = l.count c + 1 := by
  induction l with
  | nil => rfl
  | cons x r ih =>
    unfold parts
    by_cases h : x = c
    · subst h; simp [ih]
    · rw [if_neg h, List.count_cons_of_ne h]
      have := congrArg List.length (parts_cons c r)
      simp only [List.length_cons] at this ⊢
      omega

/-- Words put together again, with c between. -/
def joins (c : UInt8) : List Bs → Bs
  | [] => []
  | [w] => w
  | w :: ws => w ++ c :: joins c ws

theorem joins_cons (c : UInt8) (w : Bs) (ws : List Bs) (h : ws ≠ []) : joins c (w :: ws) = w ++ c :: joins c ws := by
  cases ws with
  | nil => exact absurd rfl h
  | cons a b => rfl

theorem joins_push (c x : UInt8) (ps : List Bs) (h : ps ≠ []) : joins c ((x :: ps.headD []) :: ps.tail) = x :: joins c ps := by
  cases ps with
  | nil => exact absurd rfl h
  | cons a b =>
    cases b with
    | nil => rfl
    | cons b1 b2 => rfl

theorem joins_parts (c : UInt8) (l : Bs) : joins c (parts c l) = l := by
  induction l with
  | nil => rfl
  | cons x r ih =>
    unfold parts
    split
    · rename_i h; subst h
      rw [joins_cons _ _ _ (parts_ne _ _), ih]; rfl
    · rw [joins_push _ _ _ (parts_ne _ _), ih]

theorem parts_clean (c : UInt8) (w : Bs) (h : c ∉ w) : parts c w = [w] := by
  induction w with
  | nil => rfl
  | cons x r ih =>
    simp only [List.mem_cons, not_or] at h
    unfold parts
    rw [if_neg (fun e => h.1 e.symm), ih h.2]; rfl

theorem parts_app (c : UInt8) (w r : Bs) (h : c ∉ w) : parts c (w ++ c :: r) = w :: parts c r := by
  induction w with
  | nil => show parts c (c :: r) = _; rw [parts, if_pos rfl]
  | cons x t ih =>
    simp only [List.mem_cons, not_or] at h
    show parts c (x :: (t ++ c :: r)) = _
    rw [parts, if_neg (fun e => h.1 e.symm), ih h.2]; rfl

theorem parts_joins (c : UInt8) (ws : List Bs) (hne : ws ≠ []) (h : ∀ w ∈ ws, c ∉ w) : parts c (joins c ws) = ws := by
  induction ws with
  | nil => exact absurd rfl hne
  | cons w ws ih =>
    cases ws with
    | nil => exact parts_clean c w (h w (by simp))
    | cons a b =>
      rw [joins_cons _ _ _ (by simp), parts_app _ _ _ (h w (by simp)), ih (by simp) (fun x hx => h x (List.mem_cons_of_mem _ hx))]

/-! ### strings.Split at a separator of one byte -/
theorem index_cons_eq (c : UInt8) (l : Bs) : index (c :: l) [c] = 0 := by simp [index, List.isPrefixOf]
theorem index_cons_ne (b c : UInt8) (l : Bs) (h : b ≠ c) : index (b :: l) [c] = if index l [c] == -1 then -1 else index l [c] + 1 := by
  rw [index, if_neg]
  simp [List.isPrefixOf]
  exact fun e => h e.symm

theorem splitK_parts (c : UInt8) (l : Bs) : ∀ k, l.count c ≤ k → splitK [c] 0 k l = parts c l := by
  induction l with
  | nil =>
    intro k _
    cases k with
    | zero => rfl
    | succ k => simp [splitK, index, parts]
  | cons x r ih =>
    intro k hk
    by_cases h : x = c
    · subst h
      simp only [List.count_cons_self] at hk
      obtain ⟨k, rfl⟩ : ∃ m, k = m + 1 := ⟨k - 1, by omega⟩
      rw [splitK, index_cons_eq, parts, if_pos rfl]
      rw [if_neg (by decide)]
      have := ih k (by omega)
      simpa using this
    · rw [List.count_cons_of_ne h] at hk
      rw [parts, if_neg h]
      cases k with
      | zero =>
        have e := ih 0 hk
        simp only [splitK] at e ⊢
        rw [← e]; rfl
      | succ k =>
        have e := ih (k + 1) hk
        simp only [splitK] at e ⊢
        rw [index_cons_ne x c r h]
        by_cases hi : (index r [c] == -1) = true
        · rw [if_pos hi] at e
          rw [if_pos hi, if_pos (show ((-1 : Int) == -1) = true from rfl), ← e]; rfl
        · rw [if_neg hi] at e
          rw [if_neg hi]
          have hg := index_ge r [c]
          have hne : index r [c] ≠ -1 := by simpa using hi
          have ht : (index r [c] + 1).toNat = (index r [c]).toNat + 1 := by omega
          rw [if_neg (by simp; omega), ht, ← e]
          simp

theorem splitB_parts (c : UInt8) (s : ByteArray) (n : Nat) (hn : s.data.toList.count c ≤ n) : (splitB (mk [c]) 0 n s).map (·.data.toList) = parts c s.data.toList := by
  rw [splitB_data, mk_data]
  exact splitK_parts c _ _ hn

theorem countB_one (c : UInt8) (s : ByteArray) : countB s (mk [c]) = s.data.toList.count c := by
  show count s.data.toList (mk [c]).data.toList = _
  rw [mk_data, count_one]

/-- What strings.Split(s, "c") hands back. -/
theorem split_strings (c : UInt8) (s : ByteArray) : splitB (mk [c]) 0 (countB s (mk [c])) s = (parts c s.data.toList).map mk := by
  have h := splitB_parts c s (countB s (mk [c])) (by rw [countB_one]; exact Nat.le_refl _)
  have h2 := congrArg (List.map mk) h
  rw [List.map_map] at h2
  rw [← h2]
  conv => lhs; rw [← List.map_id (splitB (mk [c]) 0 (countB s (mk [c])) s)]
  refine List.map_congr_left fun x _ => ?_
  simp [mk_of]

/-! ### strings.Cut at a separator of one byte: a text's first line -/
/-- The first line, what follows it, and whether it has its line feed. -/
def cutL (c : UInt8) : Bs → Bs × Bs × Bool
  | [] => ([], [], false)
  | x :: r => if x = c then ([], r, true) else (x :: (cutL c r).1, (cutL c r).2.1, (cutL c r).2.2)

theorem cut_cutL (c : UInt8) (l : Bs) : cut l [c] = cutL c l := by
  have key : ∀ l : Bs, (index l [c] = -1 → cutL c l = (l, [], false)) ∧ (index l [c] ≠ -1 → cutL c l = (l.take (index l [c]).toNat, l.drop ((index l [c]).toNat + 1), true)) := by
    intro l
    induction l with
    | nil => refine ⟨fun _ => rfl, fun h => absurd rfl h⟩
    | cons x r ih =>
      by_cases h : x = c
      · subst h
        rw [index_cons_eq]
        refine ⟨fun e => (by cases e), fun _ => ?_⟩
        simp [cutL]
      · rw [index_cons_ne _ _ _ h]
        have hg := index_ge r [c]
        by_cases hi : index r [c] = -1
        · rw [if_pos (by simp [hi])]
          refine ⟨fun _ => ?_, fun e => absurd rfl e⟩
          rw [cutL, if_neg h, ih.1 hi]
        · rw [if_neg (by simpa using hi)]
          refine ⟨fun e => by omega, fun _ => ?_⟩
          rw [cutL, if_neg h, ih.2 hi]
          have ht : (index r [c] + 1).toNat = (index r [c]).toNat + 1 := by omega
          rw [ht]
          simp
  have hg := index_ge l [c]
  unfold cut
  by_cases hi : index l [c] = -1
  · rw [(key l).1 hi, if_neg (by omega)]
  · rw [(key l).2 hi, if_pos (by omega)]
    simp

theorem cutL_length (c : UInt8) (l : Bs) (h : l ≠ []) : (cutL c l).2.1.length < l.length := by
  induction l with
  | nil => exact absurd rfl h
  | cons x r ih =>
    unfold cutL
    split
    · simp
    · by_cases hr : r = []
      · subst hr; simp [cutL]
      · have := ih hr
        simp only [List.length_cons]
        omega

/-- A text's whole lines. -/
def lns : Bs → List Bs
  | [] => []
  | x :: r => if x = 10 then [] :: lns r else if (10 : UInt8) ∈ r then (x :: (lns r).headD []) :: (lns r).tail else lns r
/-- What stands behind the last line feed. -/
def rst : Bs → Bs
  | [] => []
  | x :: r => if (10 : UInt8) ∈ (x :: r) then rst r else x :: r

theorem rst_none (l : Bs) (h : (10 : UInt8) ∉ l) : rst l = l := by
  cases l with
  | nil => rfl
  | cons x r => rw [rst, if_neg h]

theorem lns_none (l : Bs) (h : (10 : UInt8) ∉ l) : lns l = [] := by
  induction l with
  | nil => rfl
  | cons x r ih =>
    simp only [List.mem_cons, not_or] at h
    rw [lns, if_neg (fun e => h.1 e.symm), if_neg h.2, ih h.2]

theorem lns_app (w r : Bs) (h : (10 : UInt8) ∉ w) : lns (w ++ 10 :: r) = w :: lns r := by
  induction w with
  | nil => show lns (10 :: r) = _; rw [lns, if_pos rfl]
  | cons x t ih =>
    simp only [List.mem_cons, not_or] at h
    show lns (x :: (t ++ 10 :: r)) = _
    rw [lns, if_neg (fun e => h.1 e.symm), if_pos (by simp), ih h.2]; rfl

theorem rst_app (w r : Bs) (h : (10 : UInt8) ∉ w) : rst (w ++ 10 :: r) = rst r := by
  induction w with
  | nil => show rst (10 :: r) = _; rw [rst, if_pos (by simp)]
  | cons x t ih =>
    simp only [List.mem_cons, not_or] at h
    show rst (x :: (t ++ 10 :: r)) = _
    rw [rst, if_pos (by simp), ih h.2]

/-- A text is without a line feed, or it is a line, its line feed, and another text. -/
theorem line_cases (l : Bs) : ((10 : UInt8) ∉ l) ∨ ∃ w r, l = w ++ 10 :: r ∧ (10 : UInt8) ∉ w := by
  induction l with
  | nil => exact .inl (by simp)
  | cons x t ih =>
    by_cases h : x = 10
    · subst h; exact .inr ⟨[], t, rfl, by simp⟩
    · rcases ih with h1 | ⟨w, r, rfl, hw⟩
      · exact .inl (by simp only [List.mem_cons, not_or]; exact ⟨fun e => h e.symm, h1⟩)
      · exact .inr ⟨x :: w, r, rfl, by simp only [List.mem_cons, not_or]; exact ⟨fun e => h e.symm, hw⟩⟩

theorem cutL_none (l : Bs) (h : (10 : UInt8) ∉ l) : cutL 10 l = (l, [], false) := by
  induction l with
  | nil => rfl
  | cons x r ih =>
    simp only [List.mem_cons, not_or] at h
    rw [cutL, if_neg (fun e => h.1 e.symm), ih h.2]

theorem cutL_app (w r : Bs) (h : (10 : UInt8) ∉ w) : cutL 10 (w ++ 10 :: r) = (w, r, true) := by
  induction w with
  | nil => show cutL 10 (10 :: r) = _; rw [cutL, if_pos rfl]
  | cons x t ih =>
    simp only [List.mem_cons, not_or] at h
    show cutL 10 (x :: (t ++ 10 :: r)) = _
    rw [cutL, if_neg (fun e => h.1 e.symm), ih h.2]

/-- The pieces that a reader by lines is handed: each whole line, then what stands behind them, if there is any. -/
def pieces (l : Bs) : List (Bs × Bool) := (lns l).map (·, true) ++ if rst l = [] then [] else [(rst l, false)]

theorem pieces_nil : pieces [] = [] := rfl
theorem pieces_cut (l : Bs) (h : l ≠ []) : pieces l = ((cutL 10 l).1, (cutL 10 l).2.2) :: pieces (cutL 10 l).2.1 := by
  rcases line_cases l with hn | ⟨w, r, rfl, hw⟩
  · unfold pieces
    rw [cutL_none l hn, lns_none l hn, rst_none l hn, if_neg h]
    rfl
  · unfold pieces
    rw [cutL_app w r hw, lns_app w r hw, rst_app w r hw]
    rfl

theorem lns_clean (l w : Bs) (h : w ∈ lns l) : (10 : UInt8) ∉ w := by
  generalize hn : l.length = n
  induction n using Nat.strongRecOn generalizing l with
  | _ n ih =>
    rcases line_cases l with hl | ⟨v, r, rfl, hv⟩
    · rw [lns_none l hl] at h; cases h
    · rw [lns_app v r hv] at h
      rcases List.mem_cons.1 h with rfl | h
      · exact hv
      · exact ih r.length (by simp at hn; omega) r h rfl

/-- A text of lines. -/
def unl (ls : List Bs) : Bs := (ls.map (· ++ [10])).flatten

theorem unl_cons (w : Bs) (ls : List Bs) : unl (w :: ls) = w ++ 10 :: unl ls := by simp [unl]

theorem lns_unl (ls : List Bs) (h : ∀ w ∈ ls, (10 : UInt8) ∉ w) : lns (unl ls) = ls ∧ rst (unl ls) = [] := by
  induction ls with
  | nil => exact ⟨rfl, rfl⟩
  | cons w ls ih =>
    have := ih (fun x hx => h x (List.mem_cons_of_mem _ hx))
    rw [unl_cons, lns_app _ _ (h w (by simp)), rst_app _ _ (h w (by simp)), this.1, this.2]
    exact ⟨rfl, rfl⟩

theorem unl_lns (l : Bs) : unl (lns l) ++ rst l = l := by
  generalize hn : l.length = n
  induction n using Nat.strongRecOn generalizing l with
  | _ n ih =>
    rcases line_cases l with hl | ⟨v, r, rfl, hv⟩
    · rw [lns_none l hl, rst_none l hl]; rfl
    · rw [lns_app v r hv, rst_app v r hv, unl_cons]
      have := ih r.length (by simp at hn; omega) r rfl
      simp [this]

theorem lns_count (l : Bs) : (lns l).length = l.count 10 := by
  generalize hn : l.length = n
  induction n using Nat.strongRecOn generalizing l with
  | _ n ih =>
    rcases line_cases l with hl | ⟨v, r, rfl, hv⟩
    · rw [lns_none l hl, List.count_eq_zero_of_not_mem hl]; rfl
    · rw [lns_app v r hv, List.count_append, List.count_eq_zero_of_not_mem hv, List.count_cons_self]
      have := ih r.length (by simp at hn; omega) r rfl
      simp [this]

end Go.Proofs.YtebgaglofabegaaDoor
