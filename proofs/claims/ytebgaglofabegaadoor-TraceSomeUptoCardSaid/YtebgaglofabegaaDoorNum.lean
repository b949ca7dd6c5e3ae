/-
  Plain facts on decimal numerals: which strings of bytes are numerals as strconv writes them, and what strconv.ParseInt makes of them. No program stands here.
-/
import Derived.Lib.ItoaNum
import Derived.Lib.ParseIntB
namespace Go.Proofs.YtebgaglofabegaaDoor
open Go.Lib

/-- A digit. -/
def isDig (c : UInt8) : Bool := decide (48 ≤ c.toNat) && decide (c.toNat ≤ 57)

/-- What digits spell, behind a number. -/
def digVal (acc : Nat) : List UInt8 → Nat
  | [] => acc
  | c :: r => digVal (acc * 10 + (c.toNat - 48)) r

theorem digVal_append (acc : Nat) (l : List UInt8) (c : UInt8) : digVal acc (l ++ [c]) = digVal acc l * 10 + (c.toNat - 48) := by
  induction l generalizing acc with
  | nil => rfl
  | cons x l ih => exact ih _

theorem digVal_ge (acc : Nat) (l : List UInt8) : acc ≤ digVal acc l := by
  induction l generalizing acc with
  | nil => exact Nat.le_refl _
  | cons x l ih => exact Nat.le_trans (by omega) (ih _)

theorem toNat_dig (d : Nat) (h : d < 10) : (UInt8.ofNat (48 + d)).toNat = 48 + d := by
  rw [UInt8.toNat_ofNat']; omega

theorem isDig_dig (d : Nat) (h : d < 10) : isDig (UInt8.ofNat (48 + d)) = true := by
  unfold isDig
  rw [toNat_dig d h]
  simp only [Bool.and_eq_true, decide_eq_true_eq]
  omega

theorem decDigits_all (u : Nat) : (decDigits u).all isDig = true := by
  induction u using Nat.strongRecOn with
  | _ u ih =>
    by_cases h : u < 10
    · rw [decDigits, dif_pos h, List.all_cons, isDig_dig u h]; rfl
    · rw [decDigits, dif_neg h, List.all_append, ih (u / 10) (by omega), List.all_cons, isDig_dig (u % 10) (by omega)]; rfl

theorem decDigits_val (u : Nat) : digVal 0 (decDigits u) = u := by
  induction u using Nat.strongRecOn with
  | _ u ih =>
    by_cases h : u < 10
    · rw [decDigits, dif_pos h]
      show 0 * 10 + ((UInt8.ofNat (48 + u)).toNat - 48) = u
      rw [toNat_dig u h]; omega
    · rw [decDigits, dif_neg h, digVal_append, ih (u / 10) (by omega), toNat_dig _ (by omega)]
      omega

theorem decDigits_ne (u : Nat) : decDigits u ≠ [] := by
  intro h
  have := decDigits_length u
  rw [h] at this
  have := nDigits_pos u
  simp at *
  omega

theorem decDigits_inj {a b : Nat} (h : decDigits a = decDigits b) : a = b := by
  have := congrArg (digVal 0) h
  rwa [decDigits_val, decDigits_val] at this

/-- The number of a numeral that is written as strconv writes it; none: it is no such numeral. -/
def canonN (l : List UInt8) : Option Nat := if decDigits (digVal 0 l) = l then some (digVal 0 l) else none

theorem canonN_iff (l : List UInt8) (n : Nat) : canonN l = some n ↔ decDigits n = l := by
  unfold canonN
  constructor
  · intro h
    split at h
    · rename_i e; simp only [Option.some.injEq] at h; rw [← h]; exact e
    · cases h
  · intro h
    subst h
    rw [decDigits_val, if_pos rfl]

theorem canonN_none (l : List UInt8) : canonN l = none ↔ ∀ n, decDigits n ≠ l := by
  constructor
  · intro h n e
    rw [(canonN_iff l n).2 e] at h
    cases h
  · intro h
    cases e : canonN l with
    | none => rfl
    | some n => exact absurd ((canonN_iff l n).1 e) (h n)

theorem parseUintM_dig (M acc : Nat) (l : List UInt8) (hd : l.all isDig = true) (hM : M < 18446744073709551616) (h : digVal acc l ≤ M) : parseUintM M acc l = .ok (digVal acc l) := by
  induction l generalizing acc with
  | nil => rfl
  | cons c r ih =>
    simp only [List.all_cons, Bool.and_eq_true] at hd
    have hc : 48 ≤ c.toNat ∧ c.toNat ≤ 57 := by simpa [isDig] using hd.1
    have hg := digVal_ge (acc * 10 + (c.toNat - 48)) r
    have h' : digVal (acc * 10 + (c.toNat - 48)) r ≤ M := h
    rw [parseUintM, if_pos hc, if_neg (by omega), if_neg (by omega)]
    exact ih _ hd.2 h'

theorem parseUintM_ok (M acc u : Nat) (l : List UInt8) (ha : acc ≤ M) (h : parseUintM M acc l = .ok u) : u = digVal acc l ∧ u ≤ M := by
  induction l generalizing acc with
  | nil => simp only [parseUintM] at h; injection h with h; subst h; exact ⟨rfl, ha⟩
  | cons c r ih =>
    simp only [parseUintM] at h
    split at h
    · split at h
      · cases h
      · split at h
        · cases h
        · exact ih _ (by omega) h
    · cases h

/-- The number of a numeral with a sign, as strconv writes it, of an int64. -/
def canonI (l : List UInt8) : Option Int :=
  match parseIntB 64 l with
  | .ok v => if itoa v = l then some v else none
  | _ => none

theorem decDigits_head (u : Nat) : ∃ c r, decDigits u = c :: r ∧ isDig c = true := by
  have h1 := decDigits_ne u
  have h2 := decDigits_all u
  cases e : decDigits u with
  | nil => exact absurd e h1
  | cons c r => rw [e] at h2; simp only [List.all_cons, Bool.and_eq_true] at h2; exact ⟨c, r, rfl, h2.1⟩

theorem parseIntB_itoa (v : Int) (h0 : -9223372036854775808 ≤ v) (h1 : v ≤ 9223372036854775807) : parseIntB 64 (itoa v) = .ok v := by
  unfold itoa
  by_cases hn : v < 0
  · rw [if_pos hn]
    unfold parseIntB
    have e1 : parseUintB 64 (decDigits v.natAbs) = .ok v.natAbs := by
      rw [parseUintB, if_neg (decDigits_ne _), parseUintM_dig _ _ _ (decDigits_all _) (by decide) (by rw [decDigits_val]; simp only [Nat.reducePow, Nat.reduceSub]; omega), decDigits_val]
    simp only [show (45 : UInt8).toNat = 45 from rfl, or_true, if_true, e1]
    rw [if_neg (by simp), if_neg (by simp only [Nat.reducePow, Nat.reduceSub]; omega)]
    congr 1
    omega
  · rw [if_neg hn]
    obtain ⟨c, r, e, hc⟩ := decDigits_head v.toNat
    have hc' : 48 ≤ c.toNat ∧ c.toNat ≤ 57 := by simpa [isDig] using hc
    have e1 : parseUintB 64 (decDigits v.toNat) = .ok v.toNat := by
      rw [parseUintB, if_neg (decDigits_ne _), parseUintM_dig _ _ _ (decDigits_all _) (by decide) (by rw [decDigits_val]; simp only [Nat.reducePow, Nat.reduceSub]; omega), decDigits_val]
    rw [e] at e1 ⊢
    unfold parseIntB
    have n1 : ¬ (c.toNat = 43 ∨ c.toNat = 45) := by omega
    have n2 : ¬ c.toNat = 45 := by omega
    simp only [if_neg n1, e1, if_neg n2]
    rw [if_neg (by simp only [Nat.reducePow, Nat.reduceSub]; omega), if_neg (by omega)]
    congr 1
    omega

theorem parseIntB_range {l : List UInt8} {v : Int} (hv : parseIntB 64 l = .ok v) : -9223372036854775808 ≤ v ∧ v ≤ 9223372036854775807 := by
  unfold parseIntB at hv
  split at hv
  · cases hv
  · rename_i c r
    simp only at hv
    split at hv
    · cases hv
    · cases hv
    · rename_i u hu
      split at hv
      · cases hv
      · split at hv
        · cases hv
        · rename_i h1 h2
          injection hv with hv
          simp only [Nat.reducePow, Nat.reduceSub] at h1 h2
          by_cases hc : c.toNat = 45
          · rw [if_pos hc] at hv
            omega
          · rw [if_neg hc] at hv
            omega

theorem canonI_iff (l : List UInt8) (v : Int) : canonI l = some v ↔ itoa v = l ∧ -9223372036854775808 ≤ v ∧ v ≤ 9223372036854775807 := by
  unfold canonI
  constructor
  · intro h
    split at h
    · rename_i v' hv
      split at h
      · rename_i e
        simp only [Option.some.injEq] at h
        subst h
        exact ⟨e, parseIntB_range hv⟩
      · cases h
    · cases h
  · rintro ⟨rfl, h0, h1⟩
    rw [parseIntB_itoa v h0 h1]
    simp

theorem itoa_nonneg (n : Int) (h : 0 ≤ n) : itoa n = decDigits n.toNat := by unfold itoa; rw [if_neg (by omega)]

theorem itoa_inj {a b : Int} (ha : 0 ≤ a) (hb : 0 ≤ b) (h : itoa a = itoa b) : a = b := by
  rw [itoa_nonneg a ha, itoa_nonneg b hb] at h
  have := decDigits_inj h
  omega

theorem itoa_neg_head (v : Int) (h : v < 0) : ∃ r, itoa v = 45 :: r := by unfold itoa; rw [if_pos h]; exact ⟨_, rfl⟩

/-- Of a number that is not below 0: the two readings are one. -/
theorem canonI_N (l : List UInt8) (n : Int) (h0 : 0 ≤ n) : canonI l = some n → canonN l = some n.toNat := by
  intro h
  have := ((canonI_iff l n).1 h).1
  rw [itoa_nonneg n h0] at this
  exact (canonN_iff _ _).2 this

theorem canonN_I (l : List UInt8) (n : Nat) (h : canonN l = some n) (hn : n ≤ 9223372036854775807) : canonI l = some (n : Int) := by
  have := (canonN_iff l n).1 h
  refine (canonI_iff l n).2 ⟨?_, by omega, by omega⟩
  rw [itoa_nonneg _ (by omega)]
  exact this

/-- No blank, and no line feed, stands in a numeral. -/
theorem itoa_clean (v : Int) (c : UInt8) (hc : c ∈ itoa v) : c ≠ 32 ∧ c ≠ 10 := by
  have hd : ∀ u, c ∈ decDigits u → c ≠ 32 ∧ c ≠ 10 := by
    intro u hu
    have := List.all_eq_true.1 (decDigits_all u) c hu
    have h2 : 48 ≤ c.toNat ∧ c.toNat ≤ 57 := by simpa [isDig] using this
    constructor
    · rintro rfl; simp at h2
    · rintro rfl; simp at h2
  unfold itoa at hc
  split at hc
  · rcases List.mem_cons.1 hc with rfl | h
    · exact ⟨by decide, by decide⟩
    · exact hd _ h
  · exact hd _ hc

theorem itoa_ne (v : Int) : itoa v ≠ [] := by
  unfold itoa
  split
  · exact fun h => by cases h
  · exact decDigits_ne _

theorem decDigits_len_le (u : Nat) (h : u < 10 ^ 19) : (decDigits u).length ≤ 19 := by
  rw [decDigits_length]
  by_cases h' : nDigits u ≤ 19
  · exact h'
  · exfalso
    have key : ∀ k u, u < 10 ^ k → 1 ≤ k → nDigits u ≤ k := by
      intro k
      induction k with
      | zero => intro u _ h; omega
      | succ k ih =>
        intro u hu _
        by_cases hs : u < 10
        · rw [nDigits_small hs]; omega
        · rw [nDigits_big hs]
          have hk : 1 ≤ k := by
            rcases Nat.eq_zero_or_pos k with e | e
            · subst e; simp at hu; omega
            · exact e
          have := ih (u / 10) (by rw [Nat.pow_succ] at hu; omega) hk
          omega
    exact h' (key 19 u h (by omega))

end Go.Proofs.YtebgaglofabegaaDoor
