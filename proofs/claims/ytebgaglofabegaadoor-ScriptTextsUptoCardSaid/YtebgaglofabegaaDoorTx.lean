/-
  ScriptTexts, walked.
-/
import Derived.Test.YtebgaglofabegaaDoorRf10
import Derived.Test.YtebgaglofabegaaDoorSc8
namespace Go.Proofs.YtebgaglofabegaaDoor
open Go.RowKit Go.Lib

attribute [local go_sem high] eql_act neq_act
attribute [local go_sem] guard_act

set_option maxRecDepth 100000 in
set_option maxHeartbeats 4000000 in
theorem texts_law (l : List ActV) (hk : ∀ a ∈ l, 0 ≤ a.kind) (A : Option Addr) (c : Nat) (text : ByteArray) (w : World) (hE : Env w) (hW : ActWords w) (hA : At w A (actRows l)) (hlen : l.length ≤ maxLen) (htext : text.size ≤ 4194304) :
    Calls Tryd.prog 5 #[.slice A l.length c, .string text] w fun e w' => e = .returned (.bool true) ∧ Below w.heap.size w w' := by
  have hlow := hE.low
  have hlen' := hlen
  unfold maxLen at hlen'
  by_cases h1 : (300 : Int) < (l.length : Int) ∧ (l.length : Int) ≤ 4096
  · obtain ⟨h1, h1b⟩ := h1
    go_enter Tryd.func5, Tryd.ntmps5
    go_wp2_with fail
    refine (lives31 w hE hW).mono ?_
    rintro e w1 ⟨rfl, hb1⟩
    go_wp2_with fail
    go_ret; exact ⟨rfl, hb1⟩
  have h1' : (decide ((300 : Int) < (l.length : Int)) && decide ((l.length : Int) ≤ 4096)) = false := by
    rw [Bool.and_eq_false_iff, decide_eq_false_iff_not, decide_eq_false_iff_not]; omega
  by_cases h2 : (5000 : Int) < (text.size : Int)
  · by_cases h3 : (300 : Int) < (l.length : Int)
    · have h3b : (4096 : Int) < (l.length : Int) := by omega
      clear h1 h1'
      go_enter Tryd.func5, Tryd.ntmps5
      go_wp2_with fail
      refine (lives31 w hE hW).mono ?_
      rintro e w1 ⟨rfl, hb1⟩
      go_wp2_with fail
      go_ret; exact ⟨rfl, hb1⟩
    · have h3b : (l.length : Int) ≤ 300 := by omega
      clear h1 h1' h3
      go_enter Tryd.func5, Tryd.ntmps5
      go_wp2_with fail
      refine (lives31 w hE hW).mono ?_
      rintro e w1 ⟨rfl, hb1⟩
      go_wp2_with fail
      go_ret; exact ⟨rfl, hb1⟩
  have h2' : (text.size : Int) ≤ 5000 := by omega
  by_cases h3 : (300 : Int) < (l.length : Int)
  · have h3b : (4096 : Int) < (l.length : Int) := by omega
    clear h1 h1' h2
    go_enter Tryd.func5, Tryd.ntmps5
    go_wp2_with fail
    refine (put_acts l hk A c w hE hW hA hlen).mono ?_
    rintro e w1 ⟨rfl, hb1⟩
    replace hA := hA.later hb1 (Nat.le_refl _)
    go_wp2_with fail
    refine (put1_acts l A c w1 hA hlen).mono ?_
    rintro e w2 ⟨rfl, k2⟩
    have hb2 := hb1.trans (k2.mono hb1.size)
    generalize putB l = pb
    generalize putE l = pe
    have hpb : ((mk pb).toList == (mk pb).toList) = true := beq_self_eq_true _
    have G1 := get_any text w2 htext (hE.below hb2 hlow) (hW.below hb2 hlow)
    have G2 := fun W h => get1_any text W htext h
    have hok := get_ok text.data.toList
    generalize getGo (pieces text.data.toList) [] 0 = r at *
    obtain ⟨m, i2, v2⟩ := r
    dsimp only at G1 G2 hok
    go_wp2_with fail
    refine G1.mono ?_
    clear G1
    rintro e w3 ⟨v3, rfl, own3, k3⟩
    obtain ⟨A3, cap3, rfl, at3⟩ := at_owns own3
    have hb3 := hb2.trans (k3.mono hb2.size)
    clear own3
    go_wp2_with fail
    refine (G2 w3 (Nat.le_trans hlow hb3.size)).mono ?_
    clear G2
    rintro e w4 ⟨v4, rfl, own4, k4⟩
    obtain ⟨A4, cap4, rfl, at4⟩ := at_owns own4
    have hb4 := hb3.trans (k4.mono hb3.size)
    replace at3 := at3.later k4 (Nat.le_refl _)
    clear own4
    go_wp2_with fail
    refine (lives31 w4 (hE.below hb4 hlow) (hW.below hb4 hlow)).mono ?_
    rintro e w5 ⟨rfl, k5⟩
    have hb5 := hb4.trans (k5.mono hb4.size)
    have S1 := sameA_any m m A3 A4 cap3 cap4 w5 (at3.later k5 (Nat.le_refl _)) (at4.later k5 (Nat.le_refl _)) (by unfold maxLen; omega) (by unfold maxLen; omega)
    rw [decide_eq_true rfl] at S1
    go_wp2_with fail
    refine S1.mono ?_
    clear S1
    rintro e w6 ⟨rfl, k6⟩
    have hb6 := hb5.trans (k6.mono hb5.size)
    go_wp2_with fail
    go_ret
    exact ⟨rfl, hb6⟩
  · have h3b : (l.length : Int) ≤ 300 := by omega
    clear h1 h1' h2 h3
    go_enter Tryd.func5, Tryd.ntmps5
    go_wp2_with fail
    refine (put_acts l hk A c w hE hW hA hlen).mono ?_
    rintro e w1 ⟨rfl, hb1⟩
    replace hA := hA.later hb1 (Nat.le_refl _)
    go_wp2_with fail
    refine (put1_acts l A c w1 hA hlen).mono ?_
    rintro e w2 ⟨rfl, k2⟩
    have hb2 := hb1.trans (k2.mono hb1.size)
    generalize putB l = pb
    generalize putE l = pe
    have hpb : ((mk pb).toList == (mk pb).toList) = true := beq_self_eq_true _
    have G1 := get_any text w2 htext (hE.below hb2 hlow) (hW.below hb2 hlow)
    have G2 := fun W h => get1_any text W htext h
    have hok := get_ok text.data.toList
    generalize getGo (pieces text.data.toList) [] 0 = r at *
    obtain ⟨m, i2, v2⟩ := r
    dsimp only at G1 G2 hok
    go_wp2_with fail
    refine G1.mono ?_
    clear G1
    rintro e w3 ⟨v3, rfl, own3, k3⟩
    obtain ⟨A3, cap3, rfl, at3⟩ := at_owns own3
    have hb3 := hb2.trans (k3.mono hb2.size)
    clear own3
    go_wp2_with fail
    refine (G2 w3 (Nat.le_trans hlow hb3.size)).mono ?_
    clear G2
    rintro e w4 ⟨v4, rfl, own4, k4⟩
    obtain ⟨A4, cap4, rfl, at4⟩ := at_owns own4
    have hb4 := hb3.trans (k4.mono hb3.size)
    replace at3 := at3.later k4 (Nat.le_refl _)
    clear own4
    go_wp2_with fail
    refine (lives31 w4 (hE.below hb4 hlow) (hW.below hb4 hlow)).mono ?_
    rintro e w5 ⟨rfl, k5⟩
    have hb5 := hb4.trans (k5.mono hb4.size)
    have S1 := sameA_any m m A3 A4 cap3 cap4 w5 (at3.later k5 (Nat.le_refl _)) (at4.later k5 (Nat.le_refl _)) (by unfold maxLen; omega) (by unfold maxLen; omega)
    rw [decide_eq_true rfl] at S1
    go_wp2_with fail
    refine S1.mono ?_
    clear S1
    rintro e w6 ⟨rfl, k6⟩
    have hb6 := hb5.trans (k6.mono hb5.size)
    go_wp2_with fail
    go_ret
    exact ⟨rfl, hb6⟩

end Go.Proofs.YtebgaglofabegaaDoor
