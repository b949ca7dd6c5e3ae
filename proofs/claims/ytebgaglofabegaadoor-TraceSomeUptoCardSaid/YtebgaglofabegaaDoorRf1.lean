/-
  The document's numbers: a time, a number's digits, and what digits count.
-/
import Derived.Test.YtebgaglofabegaaDoorSc2
namespace Go.Proofs.YtebgaglofabegaaDoor
open Go.RowKit Go.Lib

theorem time1_any (n : Int) (w : World) : Calls Tryd.prog 73 #[.int .i64 n] w fun e w' => e = .returned (.bool (decide (timeP n))) ∧ w = w' := by
  go_enter Tryd.func73, Tryd.ntmps73
  go_wp2
  · go_ret
    have h : 0 ≤ n := by assumption
    exact ⟨by simp [timeP, h], rfl⟩
  · go_ret
    have h : n < 0 := by assumption
    exact ⟨by rw [decide_eq_false (fun h2 : timeP n => by unfold timeP at h2; omega)]; rfl, rfl⟩

theorem mk_append (a b : Bs) : mk a ++ mk b = mk (a ++ b) := by
  apply ByteArray.ext
  simp [mk]

theorem itoa_step (n : Int) (h : 10 ≤ n) : itoa n = itoa (n / 10) ++ itoa (n % 10) := by
  rw [itoa_nonneg n (by omega), itoa_nonneg (n / 10) (by omega), itoa_nonneg (n % 10) (by omega)]
  have e1 : (n / 10).toNat = n.toNat / 10 := by omega
  have e2 : (n % 10).toNat = n.toNat % 10 := by omega
  rw [e1, e2]
  have h10 : ¬ n.toNat < 10 := by omega
  have h11 : n.toNat % 10 < 10 := by omega
  conv => lhs; rw [decDigits, dif_neg h10]
  conv => rhs; rhs; rw [decDigits, dif_pos h11]

set_option maxRecDepth 100000 in
theorem number_any (u : Nat) : ∀ (n : Int), n = u → n ≤ 9223372036854775807 → ∀ w : World, Calls Tryd.prog 44 #[.int .i64 n] w fun e w' => e = .returned (.string (mk (itoa n))) ∧ w = w' := by
  induction u using Nat.strongRecOn with
  | _ u ih =>
    intro n hn hu w
    by_cases h : n < 10
    · have h10 : n = 0 ∨ n = 1 ∨ n = 2 ∨ n = 3 ∨ n = 4 ∨ n = 5 ∨ n = 6 ∨ n = 7 ∨ n = 8 ∨ n = 9 := by omega
      have hi : itoa n = [UInt8.ofNat (48 + n.toNat)] := by
        rw [itoa_nonneg n (by omega), decDigits, dif_pos (show n.toNat < 10 by omega)]
      clear ih hn hu h
      rcases h10 with rfl | rfl | rfl | rfl | rfl | rfl | rfl | rfl | rfl | rfl <;>
      · go_enter Tryd.func44, Tryd.ntmps44
        go_wp2
        go_ret
        exact ⟨by rw [hi]; rfl, rfl⟩
    · have h10 : 10 ≤ n := by omega
      have i1 := ih (n / 10).toNat (by omega) (n / 10) (by omega) (by omega)
      have i2 := ih (n % 10).toNat (by omega) (n % 10) (by omega) (by omega)
      have e := itoa_step n h10
      clear ih hn h
      go_enter Tryd.func44, Tryd.ntmps44
      go_wp2_with fail
      refine (i1 _).mono ?_
      rintro e1 w1 ⟨rfl, rfl⟩
      go_wp2_with fail
      refine (i2 _).mono ?_
      rintro e1 w1 ⟨rfl, rfl⟩
      have l1 := itoa_len (n / 10) (by omega) (by omega)
      have l2 := itoa_len (n % 10) (by omega) (by omega)
      rw [← mk_size] at l1 l2
      have E := Lib.hid e
      clear e
      go_wp2_with fail
      go_ret
      exact ⟨by rw [E.out, ← mk_append]; rfl, rfl⟩

end Go.Proofs.YtebgaglofabegaaDoor
