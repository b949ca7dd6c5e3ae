/-
  The document's Put.
-/
import Derived.Test.YtebgaglofabegaaDoorRf7
namespace Go.Proofs.YtebgaglofabegaaDoor
open Go.RowKit Go.Lib

set_option maxRecDepth 100000 in
set_option maxHeartbeats 2000000 in
theorem put1_acts (l : List ActV) (A : Option Addr) (c : Nat) (w : World) (hA : At w A (actRows l)) (hlen : l.length ≤ maxLen) :
    Calls Tryd.prog 21 #[.slice A l.length c] w fun e w' => e = .returned (.tuple #[.string (mk (putB l)), .int .i64 (putE l)]) ∧ Below w.heap.size w w' := by
  unfold maxLen at hlen
  by_cases h4 : 4096 < l.length
  · have e1 : putB l = [] := if_pos h4
    have e2 : putE l = 9 := if_pos h4
    rw [e1, e2]
    have h4' : (4096 : Int) < (l.length : Int) := by omega
    go_enter Tryd.func21, Tryd.ntmps21
    go_wp2_with fail
    go_ret2
    exact ⟨rfl, Below.refl _ _⟩
  · have h4' : (l.length : Int) ≤ 4096 := by omega
    go_enter Tryd.func21, Tryd.ntmps21
    go_wp2_with fail
    go_loopw [4, 14] (fun v i wr => ∃ k : Nat, k ≤ l.length ∧ i = .int .i64 k ∧ allOk (l.take k) ∧ v = .string (mk (actTxt (l.take k))) ∧ Below w.heap.size w wr) (fun _ i _ => l.length - (RowKit.intOf i).toNat)
    case atStart => exact ⟨0, Nat.zero_le _, rfl, (fun a ha => by cases ha), rfl, Below.refl _ _⟩
    case round =>
      obtain ⟨k, hkl, rfl, hok, rfl, hb⟩ := hrel
      by_cases hlt : k < l.length
      · obtain ⟨⟨kd, who, n, m⟩, hak⟩ : ∃ a, l[k]? = some a := ⟨_, List.getElem?_eq_getElem hlt⟩
        obtain ⟨b, o, rfl, hbl, c0, c1, c2, c3⟩ := (hA.later hb (Nat.le_refl _)).act hak
        have hltI : (k : Int) < (l.length : Int) := by omega
        have ek : l[k] = ⟨kd, who, n, m⟩ := by rw [List.getElem?_eq_getElem hlt] at hak; exact Option.some.inj hak
        have htl := actTxt_len _ hok
        have htk2 : (l.take k).length * 101 ≤ 4096 * 101 := Nat.mul_le_mul_right _ (Nat.le_trans (List.length_take_le' _ _) (by omega))
        have hbb := hb.alloc hb.size (.cells #[.int .u8 kd, .int .i64 who, .int .i64 n, .int .i64 m] 32)
        by_cases hoka : okAct ⟨kd, who, n, m⟩
        · have hll := actLine_len _ hoka
          have L := line1_any kd who n m (wr.alloc (.cells #[.int .u8 kd, .int .i64 who, .int .i64 n, .int .i64 m] 32))
          rw [checkE_ok hoka, show lineE ⟨kd, who, n, m⟩ = actLine ⟨kd, who, n, m⟩ from if_pos hoka] at L
          have Hok := Lib.hid hok
          have Hoka := Lib.hid hoka
          have hs1 : (mk (actTxt (l.take k))).size ≤ 413696 := by rw [mk_size]; omega
          have hs2 : (mk (actLine ⟨kd, who, n, m⟩)).size ≤ 100 := by rw [mk_size]; exact hll
          have Et := Lib.hid (show actTxt (l.take (k + 1)) = actTxt (l.take k) ++ (actLine ⟨kd, who, n, m⟩ ++ [10]) by rw [actTxt_take l k hlt, ek])
          have Ek := Lib.hid ek
          clear hok hoka hll htl htk2 ek
          go_wp2_with fail
          refine L.mono ?_
          rintro e w1 ⟨rfl, k1⟩
          have hb1 := hbb.trans (k1.mono hbb.size)
          clear k1
          go_wp2_with fail
          refine ⟨⟨k + 1, by omega, by go_num, ?_, ?_, hb1⟩, by simp [RowKit.intOf]; omega⟩
          · intro a ha
            rw [List.take_succ_eq_append_getElem hlt, Ek.out] at ha
            rcases List.mem_append.1 ha with h | h
            · exact Hok.out a h
            · rw [List.mem_singleton.1 h]; exact Hoka.out
          · rw [Et.out, ← mk_append, ← mk_append]; rfl
        · have L := line1_any kd who n m (wr.alloc (.cells #[.int .u8 kd, .int .i64 who, .int .i64 n, .int .i64 m] 32))
          rw [checkE_bad hoka] at L
          have hno : ¬ allOk l := fun h => hoka (h _ (List.mem_of_getElem? hak))
          have P1 := Lib.hid (show putB l = [] by unfold putB; rw [if_neg h4, if_neg hno])
          have P2 := Lib.hid (show putE l = 2 by unfold putE; rw [if_neg h4, if_neg hno])
          clear hok hoka hno htl htk2 ek
          go_wp2_with fail
          refine L.mono ?_
          rintro e w1 ⟨rfl, k1⟩
          have hb1 := hbb.trans (k1.mono hbb.size)
          clear k1
          go_wp2_with fail
          go_ret2
          exact ⟨ret_tuple (by rw [P1.out, P2.out]; rfl), hb1⟩
      · have hkeq : k = l.length := by omega
        have hall : allOk l := by rw [hkeq, List.take_length] at hok; exact hok
        have P1 := Lib.hid (show putB l = actTxt (l.take k) by unfold putB; rw [if_neg h4, if_pos hall, hkeq, List.take_length])
        have P2 := Lib.hid (show putE l = 0 by unfold putE; rw [if_neg h4, if_pos hall])
        have hge : (l.length : Int) ≤ (k : Int) := by omega
        clear hkeq hall hok
        go_wp2_with fail
        go_ret2
        exact ⟨ret_tuple (by rw [P1.out, P2.out]; rfl), hb⟩

end Go.Proofs.YtebgaglofabegaaDoor
