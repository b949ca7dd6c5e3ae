/-
  The walks of trace's small functions.
-/
import Derived.Test.YtebgaglofabegaaDoorMk
import Derived.Test.YtebgaglofabegaaDoorSc3
namespace Go.Proofs.YtebgaglofabegaaDoor
open Go.RowKit Go.Lib

theorem ttime_any (n : Int) (w : World) : Calls Tryd.prog 85 #[.int .i64 n] w fun e w' => e = .returned (.bool (decide (timeP n))) ∧ w = w' := by
  go_enter Tryd.func85, Tryd.ntmps85
  go_wp2
  · go_ret
    have h : 0 ≤ n := by assumption
    exact ⟨by simp [timeP, h], rfl⟩
  · go_ret
    have h : n < 0 := by assumption
    exact ⟨by rw [decide_eq_false (fun h2 : timeP n => by unfold timeP at h2; omega)]; rfl, rfl⟩

set_option maxHeartbeats 1000000 in
theorem right_any (t k who a : Int) (hk : 0 ≤ k) (w : World) :
    Calls Tryd.prog 66 #[.agg #[.int .i64 t, .int .u8 k, .int .i64 who, .int .i64 a]] w fun e w' => e = .returned (.bool (decide (okMark ⟨t, k, who, a⟩))) ∧ Below w.heap.size w w' := by
  by_cases hok : okMark ⟨t, k, who, a⟩
  · have d := Lib.hid (decide_eq_true hok)
    obtain ⟨h1, h2, h3, h4, h5, h6⟩ := hok
    dsimp only at h1 h2 h3 h4 h5 h6
    have t1 : decide (timeP t) = true := decide_eq_true h3
    have t2 : decide (timeP a) = true := decide_eq_true h6
    have k1 : 0 < k := by omega
    have k2 : k < 12 := by omega
    clear h1 h2 h3 h6
    go_enter Tryd.func66, Tryd.ntmps66
    go_wp2_with (go_at_call 85; refine (ttime_any _ _).mono ?_; rintro e w' ⟨rfl, rfl⟩)
    go_ret
    exact ⟨by rw [d.out]; rfl, below_alloc _⟩
  · have d := Lib.hid (decide_eq_false hok)
    by_cases h1' : k ≤ 0
    · clear hok
      go_enter Tryd.func66, Tryd.ntmps66
      go_wp2_with (go_at_call 85; refine (ttime_any _ _).mono ?_; rintro e w' ⟨rfl, rfl⟩)
      go_ret
      exact ⟨by rw [d.out]; rfl, below_alloc _⟩
    have h1 : 0 < k := by omega
    by_cases h2' : 12 ≤ k
    · clear hok h1'
      go_enter Tryd.func66, Tryd.ntmps66
      go_wp2_with (go_at_call 85; refine (ttime_any _ _).mono ?_; rintro e w' ⟨rfl, rfl⟩)
      go_ret
      exact ⟨by rw [d.out]; rfl, below_alloc _⟩
    have h2 : k < 12 := by omega
    clear h1' h2'
    by_cases h3 : ¬ timeP t
    · have t1 : decide (timeP t) = false := decide_eq_false h3
      clear hok h3
      go_enter Tryd.func66, Tryd.ntmps66
      go_wp2_with (go_at_call 85; refine (ttime_any _ _).mono ?_; rintro e w' ⟨rfl, rfl⟩)
      go_ret
      exact ⟨by rw [d.out]; rfl, below_alloc _⟩
    have h3 := Classical.not_not.1 h3
    have t1 : decide (timeP t) = true := decide_eq_true h3
    by_cases h4' : who < 0
    · clear hok h3
      go_enter Tryd.func66, Tryd.ntmps66
      go_wp2_with (go_at_call 85; refine (ttime_any _ _).mono ?_; rintro e w' ⟨rfl, rfl⟩)
      go_ret
      exact ⟨by rw [d.out]; rfl, below_alloc _⟩
    have h4 : 0 ≤ who := by omega
    by_cases h5' : 63 < who
    · clear hok h3 h4'
      go_enter Tryd.func66, Tryd.ntmps66
      go_wp2_with (go_at_call 85; refine (ttime_any _ _).mono ?_; rintro e w' ⟨rfl, rfl⟩)
      go_ret
      exact ⟨by rw [d.out]; rfl, below_alloc _⟩
    have h5 : who ≤ 63 := by omega
    clear h4' h5'
    have t2 : decide (timeP a) = false := decide_eq_false (fun h6 => hok ⟨by dsimp only; omega, by dsimp only; omega, h3, h4, h5, h6⟩)
    clear hok h3
    go_enter Tryd.func66, Tryd.ntmps66
    go_wp2_with (go_at_call 85; refine (ttime_any _ _).mono ?_; rintro e w' ⟨rfl, rfl⟩)
    go_ret
    exact ⟨by rw [d.out]; rfl, below_alloc _⟩

/-- The kind of a mark's word; 0: there is none such. -/
def mKind (l : Bs) : Int := if l = markWord 1 then 1 else if l = markWord 2 then 2 else if l = markWord 3 then 3 else if l = markWord 4 then 4 else if l = markWord 5 then 5 else if l = markWord 6 then 6 else if l = markWord 7 then 7 else if l = markWord 8 then 8 else if l = markWord 9 then 9 else if l = markWord 10 then 10 else if l = markWord 11 then 11 else 0

theorem mKind_hit (l : Bs) (k : Nat) (h1 : 1 ≤ k) (h8 : k < 12) (hk : l = markWord k) : mKind l = k := by
  have h : k = 1 ∨ k = 2 ∨ k = 3 ∨ k = 4 ∨ k = 5 ∨ k = 6 ∨ k = 7 ∨ k = 8 ∨ k = 9 ∨ k = 10 ∨ k = 11 := by omega
  rcases h with rfl | rfl | rfl | rfl | rfl | rfl | rfl | rfl | rfl | rfl | rfl <;> (subst hk; decide)

theorem mKind_miss (l : Bs) (hno : ∀ j : Nat, 1 ≤ j → j < 12 → l ≠ markWord j) : mKind l = 0 := by
  unfold mKind
  have h1 : ¬ l = markWord 1 := hno 1 (by omega) (by omega)
  have h2 : ¬ l = markWord 2 := hno 2 (by omega) (by omega)
  have h3 : ¬ l = markWord 3 := hno 3 (by omega) (by omega)
  have h4 : ¬ l = markWord 4 := hno 4 (by omega) (by omega)
  have h5 : ¬ l = markWord 5 := hno 5 (by omega) (by omega)
  have h6 : ¬ l = markWord 6 := hno 6 (by omega) (by omega)
  have h7 : ¬ l = markWord 7 := hno 7 (by omega) (by omega)
  have h8 : ¬ l = markWord 8 := hno 8 (by omega) (by omega)
  have h9 : ¬ l = markWord 9 := hno 9 (by omega) (by omega)
  have h10 : ¬ l = markWord 10 := hno 10 (by omega) (by omega)
  have h11 : ¬ l = markWord 11 := hno 11 (by omega) (by omega)
  rw [if_neg h1, if_neg h2, if_neg h3, if_neg h4, if_neg h5, if_neg h6, if_neg h7, if_neg h8, if_neg h9, if_neg h10, if_neg h11]

def MarkWords (w : World) : Prop := ∀ k : Int, 0 ≤ k → k < 12 → w.cell? ⟨1, k.toNat, none⟩ = some (.string (mk (markWord k)))
theorem MarkWords.below {B : Nat} {w w' : World} (h : MarkWords w) (hb : Below B w w') (hB : 10 ≤ B) : MarkWords w' := fun k h0 h1 => by
  rw [hb.cell (by simp only; omega)]; exact h k h0 h1

theorem tkind_any (s : ByteArray) (w : World) (hW : MarkWords w) :
    Calls Tryd.prog 69 #[.string s] w fun e w' => e = .returned (.int .u8 (mKind s.data.toList)) ∧ w = w' := by
  go_enter Tryd.func69, Tryd.ntmps69
  go_wp2_with fail
  go_loop [3] (fun i => ∃ k : Nat, 1 ≤ k ∧ k ≤ 12 ∧ i = .int .u8 k ∧ ∀ j : Nat, 1 ≤ j → j < k → s.data.toList ≠ markWord j) (fun i => 12 - (RowKit.intOf i).toNat)
  case atStart => exact ⟨1, by omega, by omega, rfl, fun j h1 h2 => by omega⟩
  case round =>
    obtain ⟨k, h1, h8, rfl, hno⟩ := hrel
    by_cases hlt : k < 12
    · have hc : w.cell? ⟨1, k, none⟩ = some (.string (mk (markWord k))) := by have := hW k (by omega) (by omega); rwa [Int.toNat_natCast] at this
      have hno' := Lib.hid hno
      clear hno
      have hI : (k : Int) < 12 := by omega
      go_wp2_with fail
      · go_ret
        have he := str_eq ‹_›
        rw [mk_data] at he
        exact ⟨by rw [mKind_hit _ k h1 hlt he.symm]; rfl, rfl⟩
      · have he := str_ne ‹_›
        rw [mk_data] at he
        go_round
        case rel => exact ⟨k + 1, by omega, by omega, by go_num, fun j h1 h2 => by
          by_cases hj : j < k
          · exact hno'.out j h1 hj
          · obtain rfl : j = k := by omega
            exact fun e => he e.symm⟩
        case measure => simp [RowKit.intOf]; omega
    · obtain rfl : k = 12 := by omega
      have hno' := Lib.hid hno
      clear hno
      go_wp2_with fail
      go_ret
      exact ⟨by rw [mKind_miss _ hno'.out]; rfl, rfl⟩

end Go.Proofs.YtebgaglofabegaaDoor
