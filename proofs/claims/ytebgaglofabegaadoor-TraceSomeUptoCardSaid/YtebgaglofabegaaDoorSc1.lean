/-
  The walks of script's small functions: each hands back what the plain functions say.
-/
import Derived.Test.YtebgaglofabegaaDoorEnv
namespace Go.Proofs.YtebgaglofabegaaDoor
open Go.RowKit Go.Lib

theorem time_any (n : Int) (w : World) : Calls Tryd.prog 52 #[.int .i64 n] w fun e w' => e = .returned (.bool (decide (timeP n))) ∧ w = w' := by
  go_enter Tryd.func52, Tryd.ntmps52
  go_wp2
  · go_ret
    have h : 0 ≤ n := by assumption
    exact ⟨by simp [timeP, h], rfl⟩
  · go_ret
    have h : n < 0 := by assumption
    exact ⟨by rw [decide_eq_false (fun h2 : timeP n => by unfold timeP at h2; omega)]; rfl, rfl⟩

def tellsOf (k : Int) : Int := if k = 1 then 2 else if k = 2 ∨ k = 4 then 7 else if k = 3 ∨ k = 5 then 3 else 1

theorem lines_any (k : Int) (w : World) : Calls Tryd.prog 47 #[.int .u8 k] w fun e w' => e = .returned (.int .u8 (tellsOf k)) ∧ w = w' := by
  go_enter Tryd.func47, Tryd.ntmps47
  go_wp2
  all_goals (go_ret; simp_all [tellsOf]; try decide)

theorem has_any (a b : Int) (w : World) : Calls Tryd.prog 49 #[.int .u8 a, .int .u8 b] w fun e w' => e = .returned (.bool (bits .and .u8 a b != 0)) ∧ w = w' := by
  go_enter Tryd.func49, Tryd.ntmps49
  go_wp2
  go_ret
  exact ⟨rfl, rfl⟩

theorem has_who (k : Int) (w : World) : Calls Tryd.prog 49 #[.int .u8 (tellsOf k), .int .u8 1] w fun e w' => e = .returned (.bool (decide (k ≠ 1))) ∧ w = w' :=
  (has_any _ _ w).mono fun e w' ⟨he, hw⟩ => ⟨by
    rw [he]; congr 2; unfold tellsOf
    by_cases h1 : k = 1
    · subst h1; decide
    by_cases h2 : k = 2 ∨ k = 4
    · rw [if_neg h1, if_pos h2, decide_eq_true h1]; decide
    by_cases h3 : k = 3 ∨ k = 5
    · rw [if_neg h1, if_neg h2, if_pos h3, decide_eq_true h1]; decide
    rw [if_neg h1, if_neg h2, if_neg h3, decide_eq_true h1]; decide, hw⟩

theorem has_much (k : Int) (w : World) : Calls Tryd.prog 49 #[.int .u8 (tellsOf k), .int .u8 2] w fun e w' => e = .returned (.bool (decide (k = 1 ∨ k = 2 ∨ k = 3 ∨ k = 4 ∨ k = 5))) ∧ w = w' :=
  (has_any _ _ w).mono fun e w' ⟨he, hw⟩ => ⟨by
    rw [he]; congr 2; unfold tellsOf
    by_cases h1 : k = 1
    · subst h1; decide
    by_cases h2 : k = 2 ∨ k = 4
    · rw [if_neg h1, if_pos h2, decide_eq_true (by omega)]; decide
    by_cases h3 : k = 3 ∨ k = 5
    · rw [if_neg h1, if_neg h2, if_pos h3, decide_eq_true (by omega)]; decide
    rw [if_neg h1, if_neg h2, if_neg h3, decide_eq_false (by omega)]; decide, hw⟩

theorem has_more (k : Int) (w : World) : Calls Tryd.prog 49 #[.int .u8 (tellsOf k), .int .u8 4] w fun e w' => e = .returned (.bool (decide (k = 2 ∨ k = 4))) ∧ w = w' :=
  (has_any _ _ w).mono fun e w' ⟨he, hw⟩ => ⟨by
    rw [he]; congr 2; unfold tellsOf
    by_cases h1 : k = 1
    · subst h1; decide
    by_cases h2 : k = 2 ∨ k = 4
    · rw [if_neg h1, if_pos h2, decide_eq_true h2]; decide
    by_cases h3 : k = 3 ∨ k = 5
    · rw [if_neg h1, if_neg h2, if_pos h3, decide_eq_false h2]; decide
    rw [if_neg h1, if_neg h2, if_neg h3, decide_eq_false h2]; decide, hw⟩

/-- The same three, behind names that a walk does not open. -/
def tWho (k : Int) : Bool := decide (k ≠ 1)
def tMuch (k : Int) : Bool := decide (k = 1 ∨ k = 2 ∨ k = 3 ∨ k = 4 ∨ k = 5)
def tMore (k : Int) : Bool := decide (k = 2 ∨ k = 4)
theorem has_tWho (k : Int) (w : World) : Calls Tryd.prog 49 #[.int .u8 (tellsOf k), .int .u8 1] w fun e w' => e = .returned (.bool (tWho k)) ∧ w = w' := has_who k w
theorem has_tMuch (k : Int) (w : World) : Calls Tryd.prog 49 #[.int .u8 (tellsOf k), .int .u8 2] w fun e w' => e = .returned (.bool (tMuch k)) ∧ w = w' := has_much k w
theorem has_tMore (k : Int) (w : World) : Calls Tryd.prog 49 #[.int .u8 (tellsOf k), .int .u8 4] w fun e w' => e = .returned (.bool (tMore k)) ∧ w = w' := has_more k w

def actV (a : ActV) : Value := .agg #[.int .u8 a.kind, .int .i64 a.who, .int .i64 a.n, .int .i64 a.m]

def checkE (a : ActV) : Int := if okAct a then 0 else 2
theorem checkE_ok {a : ActV} (h : okAct a) : checkE a = 0 := if_pos h
theorem checkE_bad {a : ActV} (h : ¬ okAct a) : checkE a = 2 := if_neg h
theorem ret_i64 {a b : Int} (h : a = b) : Ending.returned (.int .i64 a) = .returned (.int .i64 b) := by rw [h]

set_option maxHeartbeats 1000000 in
theorem check_any (k who n m : Int) (hk : 0 ≤ k) (w : World) : Calls Tryd.prog 18 #[.agg #[.int .u8 k, .int .i64 who, .int .i64 n, .int .i64 m]] w fun e w' => e = .returned (.int .i64 (checkE ⟨k, who, n, m⟩)) ∧ Below w.heap.size w w' := by
  go_enter Tryd.func18, Tryd.ntmps18
  go_wp2_with (first | (go_at_call 47; refine (lines_any _ _).mono ?_; rintro e w' ⟨rfl, rfl⟩) | (go_at_call 52; refine (time_any _ _).mono ?_; rintro e w' ⟨rfl, rfl⟩) | (go_at_call 49; (first | ((with_reducible refine (has_who _ _).mono ?_); rintro e w' ⟨rfl, rfl⟩) | ((with_reducible refine (has_much _ _).mono ?_); rintro e w' ⟨rfl, rfl⟩) | ((with_reducible refine (has_more _ _).mono ?_); rintro e w' ⟨rfl, rfl⟩))))
  all_goals go_ret
  all_goals (refine ⟨?_, (Below.refl _ _).alloc (Nat.le_refl _) _⟩)
  all_goals go_light
  all_goals first
    | exact ret_i64 (checkE_ok (by (try simp only [bne_iff_ne, Bool.not_eq_true', decide_eq_true_eq, decide_eq_false_iff_not, beq_iff_eq, bne_eq_false_iff_eq, ne_eq, beq_eq_false_iff_ne, Bool.not_eq_false', Classical.not_not, Bool.not_eq_true, Bool.not_eq_false] at *); (try simp only [okAct, timeP] at *); omega)).symm
    | exact ret_i64 (checkE_bad (by (try simp only [bne_iff_ne, Bool.not_eq_true', decide_eq_true_eq, decide_eq_false_iff_not, beq_iff_eq, bne_eq_false_iff_eq, ne_eq, beq_eq_false_iff_ne, Bool.not_eq_false', Classical.not_not, Bool.not_eq_true, Bool.not_eq_false] at *); (try simp only [okAct, timeP] at *); omega)).symm

end Go.Proofs.YtebgaglofabegaaDoor
