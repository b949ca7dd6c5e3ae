/-
  The document's comparison of two lists of acts.
-/
import Derived.Test.YtebgaglofabegaaDoorSc6
import Derived.Laws.StructEq
namespace Go.Proofs.YtebgaglofabegaaDoor
open Go.RowKit Go.Lib

def eqA (x y : ActV) : Bool := decide (x = y)

@[local go_sem] theorem guard_act (op : BinOp) (a b : Operand) (xs ys : Array Value) (w : World) : (eqGuard op 32 a b (.agg xs) (.agg ys)).run Tryd.prog w = .ok () w :=
  run_eqGuard_agg w op _ a b xs ys (by kernel_rfl)

theorem equal_act (k who n m k' who' n' m' : Int) (w : World) : (Op.equalIn 10000 32 (.agg #[.int .u8 k, .int .i64 who, .int .i64 n, .int .i64 m]) (.agg #[.int .u8 k', .int .i64 who', .int .i64 n', .int .i64 m'])).run Tryd.prog w = .ok (eqA ⟨k, who, n, m⟩ ⟨k', who', n', m'⟩) w := by
  have u1 := Tryd.underlying30
  have u2 := Tryd.underlying3
  have u3 := Tryd.underlying2
  have a1 := Tryd.isAgg30
  have a2 := Tryd.isAgg3
  have a3 := Tryd.isAgg2
  have z1 := Tryd.sizeOf30
  have z2 := Tryd.sizeOf3
  have z3 := Tryd.sizeOf2
  have hS : Tryd.prog.underlying 32 = some (.struct (Tryd.prog.fieldsOf 32)) := by kernel_rfl
  have hp : Tryd.prog.stoodInHeld 32 = false := by kernel_rfl
  rw [show (10000 : Nat) = 9999 + 1 from rfl, run_equalIn_agg w 9999 32 _ _ hS hp]
  simp only [Program.fieldsOf, Tryd.underlying32]
  go_simp
  unfold eqA
  by_cases h1 : k = k' <;> by_cases h2 : who = who' <;> by_cases h3 : n = n' <;> by_cases h4 : m = m' <;> simp [h1, h2, h3, h4]

@[local go_sem high] theorem eql_act (k who n m k' who' n' m' : Int) (w : World) : (binOp .eql 32 (.agg #[.int .u8 k, .int .i64 who, .int .i64 n, .int .i64 m]) (.agg #[.int .u8 k', .int .i64 who', .int .i64 n', .int .i64 m'])).run Tryd.prog w = .ok (.bool (eqA ⟨k, who, n, m⟩ ⟨k', who', n', m'⟩)) w := by
  rw [run_eql_struct, equal_act]; rfl
@[local go_sem high] theorem neq_act (k who n m k' who' n' m' : Int) (w : World) : (binOp .neq 32 (.agg #[.int .u8 k, .int .i64 who, .int .i64 n, .int .i64 m]) (.agg #[.int .u8 k', .int .i64 who', .int .i64 n', .int .i64 m'])).run Tryd.prog w = .ok (.bool (!eqA ⟨k, who, n, m⟩ ⟨k', who', n', m'⟩)) w := by
  rw [run_neq_struct, equal_act]; rfl

set_option maxRecDepth 100000 in
set_option maxHeartbeats 1600000 in
theorem sameA_any (l1 l2 : List ActV) (A1 A2 : Option Addr) (c1 c2 : Nat) (w : World) (h1 : At w A1 (actRows l1)) (h2 : At w A2 (actRows l2)) (hm1 : l1.length ≤ maxLen) (hm2 : l2.length ≤ maxLen) :
    Calls Tryd.prog 24 #[.slice A1 l1.length c1, .slice A2 l2.length c2] w fun e w' => e = .returned (.bool (decide (l1 = l2))) ∧ Below w.heap.size w w' := by
  unfold maxLen at hm1 hm2
  by_cases hl : l1.length = l2.length
  · have hl' : ((l1.length : Int) != (l2.length : Int)) = false := by rw [hl]; simp
    go_enter Tryd.func24, Tryd.ntmps24
    go_wp2_with fail
    go_loopw [13] (fun i wr => ∃ k : Nat, k ≤ l1.length ∧ i = .int .i64 k ∧ l1.take k = l2.take k ∧ Below w.heap.size w wr) (fun i _ => l1.length - (RowKit.intOf i).toNat)
    case atStart => exact ⟨0, Nat.zero_le _, rfl, rfl, Below.refl _ _⟩
    case round =>
      obtain ⟨k, hkl, rfl, heq, hb⟩ := hrel
      by_cases hlt : k < l1.length
      · obtain ⟨⟨kd, who, n, m⟩, hak⟩ : ∃ a, l1[k]? = some a := ⟨_, List.getElem?_eq_getElem hlt⟩
        obtain ⟨⟨kd', who', n', m'⟩, hak'⟩ : ∃ a, l2[k]? = some a := ⟨_, List.getElem?_eq_getElem (by omega)⟩
        obtain ⟨b, o, rfl, hbl, c0, c1, c2, c3⟩ := (h1.later hb (Nat.le_refl _)).act hak
        obtain ⟨b', o', rfl, hbl', c0', c1', c2', c3'⟩ := (h2.later hb (Nat.le_refl _)).act hak'
        have hltI : (k : Int) < (l1.length : Int) := by omega
        have hltI' : (k : Int) < (l2.length : Int) := by omega
        have ek : l1[k]'hlt = ⟨kd, who, n, m⟩ := by rw [List.getElem?_eq_getElem hlt] at hak; exact Option.some.inj hak
        have ek' : l2[k]'(by omega) = ⟨kd', who', n', m'⟩ := by rw [List.getElem?_eq_getElem (by omega)] at hak'; exact Option.some.inj hak'
        have hbd : Below w.heap.size w wr.drew := ⟨hb.os, hb.tape, hb.output, hb.size, hb.block⟩
        by_cases hq : (⟨kd, who, n, m⟩ : ActV) = ⟨kd', who', n', m'⟩
        · have hqA : eqA ⟨kd, who, n, m⟩ ⟨kd', who', n', m'⟩ = true := decide_eq_true hq
          have Hq := Hid.mk hq
          clear hq
          go_wp2_with fail
          go_region
          all_goals
            go_wp2_with fail
            refine ⟨⟨k + 1, by omega, by go_num, ?_, hbd⟩, by simp [RowKit.intOf]; omega⟩
            rw [List.take_succ_eq_append_getElem hlt, List.take_succ_eq_append_getElem (by omega), heq, ek, ek', Hq.out]
        · have hqA : eqA ⟨kd, who, n, m⟩ ⟨kd', who', n', m'⟩ = false := decide_eq_false hq
          have hne : l1 ≠ l2 := fun h => hq (by rw [← ek, ← ek']; simp only [h])
          have Hne := Hid.mk (decide_eq_false hne)
          clear hq hne
          go_wp2_with fail
          go_region
          all_goals
            go_wp2_with fail
            go_ret
            exact ⟨by rw [Hne.out]; rfl, hbd⟩
      · have hge : (l1.length : Int) ≤ (k : Int) := by omega
        have hke : k = l1.length := by omega
        have heq' : l1 = l2 := by
          rw [hke, List.take_length, hl, List.take_length] at heq
          exact heq
        have Hq := Hid.mk (decide_eq_true heq')
        clear heq heq' hke
        go_wp2_with fail
        go_ret
        exact ⟨by rw [Hq.out]; rfl, hb⟩
  · have hl' : ((l1.length : Int) != (l2.length : Int)) = true := by rw [bne_iff_ne]; omega
    have Hq := Hid.mk (decide_eq_false (fun h : l1 = l2 => hl (by rw [h])))
    clear hl
    go_enter Tryd.func24, Tryd.ntmps24
    go_wp2_with fail
    go_ret
    exact ⟨by rw [Hq.out]; rfl, Below.refl _ _⟩

end Go.Proofs.YtebgaglofabegaaDoor
