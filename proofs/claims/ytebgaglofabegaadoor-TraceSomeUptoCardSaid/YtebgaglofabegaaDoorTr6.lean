/-
  The document's comparison of two lists of marks.
-/
import Derived.Test.YtebgaglofabegaaDoorTr5
import Derived.Laws.StructEq
namespace Go.Proofs.YtebgaglofabegaaDoor
open Go.RowKit Go.Lib

def eqM (x y : MarkV) : Bool := decide (x = y)

@[local go_sem] theorem guard_mark (op : BinOp) (a b : Operand) (xs ys : Array Value) (w : World) : (eqGuard op 28 a b (.agg xs) (.agg ys)).run Tryd.prog w = .ok () w :=
  run_eqGuard_agg w op _ a b xs ys (by kernel_rfl)

theorem equal_mark (t k who n t' k' who' n' : Int) (w : World) : (Op.equalIn 10000 28 (.agg #[.int .i64 t, .int .u8 k, .int .i64 who, .int .i64 n]) (.agg #[.int .i64 t', .int .u8 k', .int .i64 who', .int .i64 n'])).run Tryd.prog w = .ok (eqM ⟨t, k, who, n⟩ ⟨t', k', who', n'⟩) w := by
  have u1 := Tryd.underlying23
  have u2 := Tryd.underlying3
  have u3 := Tryd.underlying2
  have a1 := Tryd.isAgg23
  have a2 := Tryd.isAgg3
  have a3 := Tryd.isAgg2
  have z1 := Tryd.sizeOf23
  have z2 := Tryd.sizeOf3
  have z3 := Tryd.sizeOf2
  have hS : Tryd.prog.underlying 28 = some (.struct (Tryd.prog.fieldsOf 28)) := by kernel_rfl
  have hp : Tryd.prog.stoodInHeld 28 = false := by kernel_rfl
  rw [show (10000 : Nat) = 9999 + 1 from rfl, run_equalIn_agg w 9999 28 _ _ hS hp]
  simp only [Program.fieldsOf, Tryd.underlying28]
  go_simp
  unfold eqM
  by_cases h1 : k = k' <;> by_cases h2 : who = who' <;> by_cases h3 : n = n' <;> by_cases h4 : t = t' <;> simp [h1, h2, h3, h4]

@[local go_sem high] theorem eql_mark (t k who n t' k' who' n' : Int) (w : World) : (binOp .eql 28 (.agg #[.int .i64 t, .int .u8 k, .int .i64 who, .int .i64 n]) (.agg #[.int .i64 t', .int .u8 k', .int .i64 who', .int .i64 n'])).run Tryd.prog w = .ok (.bool (eqM ⟨t, k, who, n⟩ ⟨t', k', who', n'⟩)) w := by
  rw [run_eql_struct, equal_mark]; rfl
@[local go_sem high] theorem neq_mark (t k who n t' k' who' n' : Int) (w : World) : (binOp .neq 28 (.agg #[.int .i64 t, .int .u8 k, .int .i64 who, .int .i64 n]) (.agg #[.int .i64 t', .int .u8 k', .int .i64 who', .int .i64 n'])).run Tryd.prog w = .ok (.bool (!eqM ⟨t, k, who, n⟩ ⟨t', k', who', n'⟩)) w := by
  rw [run_neq_struct, equal_mark]; rfl

set_option maxRecDepth 100000 in
set_option maxHeartbeats 1600000 in
theorem tsame_any (l1 l2 : List MarkV) (A1 A2 : Option Addr) (c1 c2 : Nat) (w : World) (h1 : At w A1 (markRows l1)) (h2 : At w A2 (markRows l2)) (hm1 : l1.length ≤ maxLen) (hm2 : l2.length ≤ maxLen) :
    Calls Tryd.prog 37 #[.slice A1 l1.length c1, .slice A2 l2.length c2] w fun e w' => e = .returned (.bool (decide (l1 = l2))) ∧ Below w.heap.size w w' := by
  unfold maxLen at hm1 hm2
  by_cases hl : l1.length = l2.length
  · have hl' : ((l1.length : Int) != (l2.length : Int)) = false := by rw [hl]; simp
    go_enter Tryd.func37, Tryd.ntmps37
    go_wp2_with fail
    go_loopw [13] (fun i wr => ∃ k : Nat, k ≤ l1.length ∧ i = .int .i64 k ∧ l1.take k = l2.take k ∧ Below w.heap.size w wr) (fun i _ => l1.length - (RowKit.intOf i).toNat)
    case atStart => exact ⟨0, Nat.zero_le _, rfl, rfl, Below.refl _ _⟩
    case round =>
      obtain ⟨k, hkl, rfl, heq, hb⟩ := hrel
      by_cases hlt : k < l1.length
      · obtain ⟨⟨t, kd, who, n⟩, hak⟩ : ∃ a, l1[k]? = some a := ⟨_, List.getElem?_eq_getElem hlt⟩
        obtain ⟨⟨t', kd', who', n'⟩, hak'⟩ : ∃ a, l2[k]? = some a := ⟨_, List.getElem?_eq_getElem (by omega)⟩
        obtain ⟨b, o, rfl, hbl, c0, c1, c2, c3⟩ := (h1.later hb (Nat.le_refl _)).mark hak
        obtain ⟨b', o', rfl, hbl', c0', c1', c2', c3'⟩ := (h2.later hb (Nat.le_refl _)).mark hak'
        have hltI : (k : Int) < (l1.length : Int) := by omega
        have hltI' : (k : Int) < (l2.length : Int) := by omega
        have ek : l1[k]'hlt = ⟨t, kd, who, n⟩ := by rw [List.getElem?_eq_getElem hlt] at hak; exact Option.some.inj hak
        have ek' : l2[k]'(by omega) = ⟨t', kd', who', n'⟩ := by rw [List.getElem?_eq_getElem (by omega)] at hak'; exact Option.some.inj hak'
        have hbd : Below w.heap.size w wr.drew := ⟨hb.os, hb.tape, hb.output, hb.size, hb.block⟩
        by_cases hq : (⟨t, kd, who, n⟩ : MarkV) = ⟨t', kd', who', n'⟩
        · have hqA : eqM ⟨t, kd, who, n⟩ ⟨t', kd', who', n'⟩ = true := decide_eq_true hq
          have Hq := Lib.hid hq
          clear hq
          go_wp2_with fail
          go_region
          all_goals
            go_wp2_with fail
            refine ⟨⟨k + 1, by omega, by go_num, ?_, hbd⟩, by simp [RowKit.intOf]; omega⟩
            rw [List.take_succ_eq_append_getElem hlt, List.take_succ_eq_append_getElem (by omega), heq, ek, ek', Hq.out]
        · have hqA : eqM ⟨t, kd, who, n⟩ ⟨t', kd', who', n'⟩ = false := decide_eq_false hq
          have hne : l1 ≠ l2 := fun h => hq (by rw [← ek, ← ek']; simp only [h])
          have Hne := Lib.hid (decide_eq_false hne)
          clear hq hne
          go_wp2_with fail
          go_region
          all_goals
            go_wp2_with fail
            go_ret
            exact ⟨by rw [Hne.out]; rfl, hbd⟩
      · have hge : (l1.length : Int) ≤ (k : Int) := by omega
        have hke : k = l1.length := by omega
        have heq' : l1 = l2 := by
          rw [hke, List.take_length, hl, List.take_length] at heq
          exact heq
        have Hq := Lib.hid (decide_eq_true heq')
        clear heq heq' hke
        go_wp2_with fail
        go_ret
        exact ⟨by rw [Hq.out]; rfl, hb⟩
  · have hl' : ((l1.length : Int) != (l2.length : Int)) = true := by rw [bne_iff_ne]; omega
    have Hq := Lib.hid (decide_eq_false (fun h : l1 = l2 => hl (by rw [h])))
    clear hl
    go_enter Tryd.func37, Tryd.ntmps37
    go_wp2_with fail
    go_ret
    exact ⟨by rw [Hq.out]; rfl, Below.refl _ _⟩

end Go.Proofs.YtebgaglofabegaaDoor
