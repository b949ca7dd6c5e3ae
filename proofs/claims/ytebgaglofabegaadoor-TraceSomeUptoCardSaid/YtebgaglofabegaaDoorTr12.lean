/-
  The law TraceSome, walked.
-/
import Derived.Test.YtebgaglofabegaaDoorTr11
namespace Go.Proofs.YtebgaglofabegaaDoor
open Go.RowKit Go.Lib

attribute [local go_sem high] eql_mark neq_mark
attribute [local go_sem] guard_mark

theorem drop_succ_sel {p : MarkV → Bool} {l : List MarkV} {j : Nat} {m : MarkV} (h : l[j]? = some m) (hp : p m = false) : (keeps p (l.take (j + 1))).length = (keeps p (l.take j)).length + 1 ∧ (keeps p (l.take j)).length < (keeps p l).length := by
  refine ⟨by rw [keeps_succ h, hp]; simp, ?_⟩
  exact (List.getElem?_eq_some_iff.1 (keeps_at h hp)).1
theorem drop_succ_out {p : MarkV → Bool} {l : List MarkV} {j : Nat} {m : MarkV} (h : l[j]? = some m) (hp : p m = true) : (keeps p (l.take (j + 1))).length = (keeps p (l.take j)).length := by
  rw [keeps_succ h, hp]; simp

set_option maxRecDepth 100000 in
set_option maxHeartbeats 2000000 in
theorem traceSome_any (l : List MarkV) (A : Option Addr) (c : Nat) (kind who frm upt : Int) (w : World) (hE : Env w) (hW : MarkWords w) (hA : At w A (markRows l)) (hlen : l.length * 32 ≤ 140737488355328) :
    Calls Tryd.prog 3 #[.slice A l.length c, .int .u8 kind, .int .i64 who, .int .i64 frm, .int .i64 upt] w fun e w' => e = .returned (.bool true) ∧ Below w.heap.size w w' := by
  have hlow := hE.low
  go_enter Tryd.func3, Tryd.ntmps3
  go_wp2_with fail
  refine (lives21 w hE hW).mono ?_
  rintro e w1 ⟨rfl, k1⟩
  go_wp2_with fail
  refine (only_any kind who l A c w1 (hA.later k1 (Nat.le_refl _)) hlen).mono ?_
  rintro e w2 ⟨⟨A2, c2, rfl, at2⟩, k2⟩
  have hb2 := k1.trans (k2.mono k1.size)
  have AT2 := Lib.hid at2
  clear at2
  go_wp2_with fail
  refine (within_any frm upt l A c w2 (hA.later hb2 (Nat.le_refl _)) hlen).mono ?_
  rintro e w3 ⟨⟨A3, c3, rfl, at3⟩, k3⟩
  have hb3 := hb2.trans (k3.mono hb2.size)
  have AT2' := Lib.hid (AT2.out.later k3 (Nat.le_refl _))
  have AT3 := Lib.hid at3
  have hA3 := Lib.hid (hA.later hb3 (Nat.le_refl _))
  clear at3 AT2
  have n1 := keeps_len (dropOnly kind who) l
  have n2 := keeps_len (dropWithin frm upt) l
  go_wp2_with fail
  go_loopw [13, 14, 29] (fun iv kv jv wr => ∃ j : Nat, j ≤ l.length ∧ jv = .int .i64 j ∧ iv = .int .i64 ((keeps (dropOnly kind who) (l.take j)).length : Int) ∧ kv = .int .i64 ((keeps (dropWithin frm upt) (l.take j)).length : Int) ∧ Below w3.heap.size w3 wr) (fun _ _ j _ => l.length - (RowKit.intOf j).toNat)
  case atStart => exact ⟨0, by omega, rfl, rfl, rfl, Below.refl _ _⟩
  case round =>
    obtain ⟨j, hjl, rfl, rfl, rfl, hb⟩ := hrel
    by_cases hlt : j < l.length
    · obtain ⟨⟨t, kd, wh, a⟩, hak⟩ : ∃ a, l[j]? = some a := ⟨_, List.getElem?_eq_getElem hlt⟩
      obtain ⟨b, o, rfl, hbl, q0, q1, q2, q3⟩ := (hA3.out.later hb (Nat.le_refl _)).mark hak
      have hltI : (j : Int) < (l.length : Int) := by omega
      have hO : (dropOnly kind who ⟨t, kd, wh, a⟩ = false ∧ kd = kind ∧ wh = who) ∨ (dropOnly kind who ⟨t, kd, wh, a⟩ = true ∧ (kd == kind) = false) ∨ (dropOnly kind who ⟨t, kd, wh, a⟩ = true ∧ kd = kind ∧ (wh == who) = false) := by
        by_cases e1 : kd = kind
        · by_cases e2 : wh = who
          · exact .inl ⟨decide_eq_false (by simp [e1, e2]), e1, e2⟩
          · exact .inr (.inr ⟨decide_eq_true (.inr e2), e1, beq_eq_false_iff_ne.2 e2⟩)
        · exact .inr (.inl ⟨decide_eq_true (.inl e1), beq_eq_false_iff_ne.2 e1⟩)
      have hX : (dropWithin frm upt ⟨t, kd, wh, a⟩ = false ∧ decide (frm ≤ t) = true ∧ decide (t ≤ upt) = true) ∨ (dropWithin frm upt ⟨t, kd, wh, a⟩ = true ∧ decide (frm ≤ t) = false) ∨ (dropWithin frm upt ⟨t, kd, wh, a⟩ = true ∧ decide (frm ≤ t) = true ∧ decide (t ≤ upt) = false) := by
        by_cases e1 : frm ≤ t
        · by_cases e2 : t ≤ upt
          · exact .inl ⟨decide_eq_false (by simp only; omega), decide_eq_true e1, decide_eq_true e2⟩
          · exact .inr (.inr ⟨decide_eq_true (.inr (by simp only; omega)), decide_eq_true e1, decide_eq_false e2⟩)
        · exact .inr (.inl ⟨decide_eq_true (.inl (by simp only; omega)), decide_eq_false e1⟩)
      have hqa : eqM ⟨t, kd, wh, a⟩ ⟨t, kd, wh, a⟩ = true := decide_eq_true rfl
      have s1 := fun h => drop_succ_sel (p := dropOnly kind who) hak h
      have s2 := fun h => drop_succ_sel (p := dropWithin frm upt) hak h
      have o1 := fun h => drop_succ_out (p := dropOnly kind who) hak h
      have o2 := fun h => drop_succ_out (p := dropWithin frm upt) hak h
      have m1 := fun h W hW => (AT2'.out.later (w' := W) (hW : Below w3.heap.size w3 W) (Nat.le_refl _)).mark (keeps_at (p := dropOnly kind who) hak h)
      have m2 := fun h W hW => (AT3.out.later (w' := W) (hW : Below w3.heap.size w3 W) (Nat.le_refl _)).mark (keeps_at (p := dropWithin frm upt) hak h)
      obtain ⟨x1, hx1⟩ : ∃ x, x = (keeps (dropOnly kind who) (l.take j)).length := ⟨_, rfl⟩
      obtain ⟨x2, hx2⟩ : ∃ x, x = (keeps (dropWithin frm upt) (l.take j)).length := ⟨_, rfl⟩
      obtain ⟨X1, hX1⟩ : ∃ x, x = (keeps (dropOnly kind who) l).length := ⟨_, rfl⟩
      obtain ⟨X2, hX2⟩ : ∃ x, x = (keeps (dropWithin frm upt) l).length := ⟨_, rfl⟩
      rw [← hx1] at s1 o1 m1 ⊢
      rw [← hx2] at s2 o2 m2 ⊢
      rw [← hX1] at s1 n1 ⊢
      rw [← hX2] at s2 n2 ⊢
      have S1 := Lib.hid s1
      have S2 := Lib.hid s2
      have O1 := Lib.hid o1
      have O2 := Lib.hid o2
      have M1 := Lib.hid m1
      have M2 := Lib.hid m2
      clear s1 s2 o1 o2 m1 m2 hx1 hx2 hX1 hX2 hak
      have hba' : Below w3.heap.size w3 (wr.alloc (.cells #[.int .i64 t, .int .u8 kd, .int .i64 wh, .int .i64 a] 28)) := hb.alloc hb.size _
      rcases hO with ⟨d1, rfl, rfl⟩ | ⟨d1, g1⟩ | ⟨d1, rfl, g1⟩
      · obtain ⟨z1, z2⟩ := S1.out d1
        obtain ⟨ba, oa, rfl, hba, r0, r1, r2, r3⟩ := M1.out d1 wr hb
        have hd1 : decide (X1 ≤ x1) = false := decide_eq_false (by omega)
        have hd1' : decide ((X1 : Int) ≤ (x1 : Int)) = false := decide_eq_false (by omega)
        have hi1 : (x1 : Int) < (X1 : Int) := by omega
        have Z1 := Lib.hid z1
        clear z1 d1
        rcases hX with ⟨d2, f1, f2⟩ | ⟨d2, f1⟩ | ⟨d2, f1, f2⟩
        · obtain ⟨z3, z4⟩ := S2.out d2
          obtain ⟨bb, ob, rfl, hbb, p0, p1, p2, p3⟩ := M2.out d2 wr hb
          have hd2 : decide (X2 ≤ x2) = false := decide_eq_false (by omega)
          have hd2' : decide ((X2 : Int) ≤ (x2 : Int)) = false := decide_eq_false (by omega)
          have hi2 : (x2 : Int) < (X2 : Int) := by omega
          have Z2 := Lib.hid z3
          clear z3 d2
          go_wp2_with fail
          go_quiet (fail)
          go_wp2_with fail
          go_quiet (fail)
          go_wp2_with fail
          refine ⟨⟨j + 1, by omega, by go_num, by rw [Z1.out]; go_num, by rw [Z2.out]; go_num, ⟨hba'.os, hba'.tape, hba'.output, hba'.size, hba'.block⟩⟩, by simp [RowKit.intOf]; omega⟩
        · have Z2 := Lib.hid (O2.out d2)
          clear d2
          go_wp2_with fail
          go_quiet (fail)
          go_wp2_with fail
          refine ⟨⟨j + 1, by omega, by go_num, by rw [Z1.out]; go_num, by rw [Z2.out], ⟨hba'.os, hba'.tape, hba'.output, hba'.size, hba'.block⟩⟩, by simp [RowKit.intOf]; omega⟩
        · have Z2 := Lib.hid (O2.out d2)
          clear d2
          go_wp2_with fail
          go_quiet (fail)
          go_wp2_with fail
          refine ⟨⟨j + 1, by omega, by go_num, by rw [Z1.out]; go_num, by rw [Z2.out], ⟨hba'.os, hba'.tape, hba'.output, hba'.size, hba'.block⟩⟩, by simp [RowKit.intOf]; omega⟩
      · have Z1 := Lib.hid (O1.out d1)
        clear d1
        rcases hX with ⟨d2, f1, f2⟩ | ⟨d2, f1⟩ | ⟨d2, f1, f2⟩
        · obtain ⟨z3, z4⟩ := S2.out d2
          obtain ⟨bb, ob, rfl, hbb, p0, p1, p2, p3⟩ := M2.out d2 wr hb
          have hd2 : decide (X2 ≤ x2) = false := decide_eq_false (by omega)
          have hd2' : decide ((X2 : Int) ≤ (x2 : Int)) = false := decide_eq_false (by omega)
          have hi2 : (x2 : Int) < (X2 : Int) := by omega
          have Z2 := Lib.hid z3
          clear z3 d2
          go_wp2_with fail
          go_quiet (fail)
          go_wp2_with fail
          refine ⟨⟨j + 1, by omega, by go_num, by rw [Z1.out], by rw [Z2.out]; go_num, ⟨hba'.os, hba'.tape, hba'.output, hba'.size, hba'.block⟩⟩, by simp [RowKit.intOf]; omega⟩
        · have Z2 := Lib.hid (O2.out d2)
          clear d2
          go_wp2_with fail
          refine ⟨⟨j + 1, by omega, by go_num, by rw [Z1.out], by rw [Z2.out], ⟨hba'.os, hba'.tape, hba'.output, hba'.size, hba'.block⟩⟩, by simp [RowKit.intOf]; omega⟩
        · have Z2 := Lib.hid (O2.out d2)
          clear d2
          go_wp2_with fail
          refine ⟨⟨j + 1, by omega, by go_num, by rw [Z1.out], by rw [Z2.out], ⟨hba'.os, hba'.tape, hba'.output, hba'.size, hba'.block⟩⟩, by simp [RowKit.intOf]; omega⟩
      · have Z1 := Lib.hid (O1.out d1)
        clear d1
        rcases hX with ⟨d2, f1, f2⟩ | ⟨d2, f1⟩ | ⟨d2, f1, f2⟩
        · obtain ⟨z3, z4⟩ := S2.out d2
          obtain ⟨bb, ob, rfl, hbb, p0, p1, p2, p3⟩ := M2.out d2 wr hb
          have hd2 : decide (X2 ≤ x2) = false := decide_eq_false (by omega)
          have hd2' : decide ((X2 : Int) ≤ (x2 : Int)) = false := decide_eq_false (by omega)
          have hi2 : (x2 : Int) < (X2 : Int) := by omega
          have Z2 := Lib.hid z3
          clear z3 d2
          go_wp2_with fail
          go_quiet (fail)
          go_wp2_with fail
          refine ⟨⟨j + 1, by omega, by go_num, by rw [Z1.out], by rw [Z2.out]; go_num, ⟨hba'.os, hba'.tape, hba'.output, hba'.size, hba'.block⟩⟩, by simp [RowKit.intOf]; omega⟩
        · have Z2 := Lib.hid (O2.out d2)
          clear d2
          go_wp2_with fail
          refine ⟨⟨j + 1, by omega, by go_num, by rw [Z1.out], by rw [Z2.out], ⟨hba'.os, hba'.tape, hba'.output, hba'.size, hba'.block⟩⟩, by simp [RowKit.intOf]; omega⟩
        · have Z2 := Lib.hid (O2.out d2)
          clear d2
          go_wp2_with fail
          refine ⟨⟨j + 1, by omega, by go_num, by rw [Z1.out], by rw [Z2.out], ⟨hba'.os, hba'.tape, hba'.output, hba'.size, hba'.block⟩⟩, by simp [RowKit.intOf]; omega⟩
    · obtain rfl : j = l.length := by omega
      rw [List.take_length]
      have hge : (l.length : Int) ≤ (l.length : Int) := by omega
      go_wp2_with fail
      go_ret
      exact ⟨rfl, hb3.trans (hb.mono hb3.size)⟩

end Go.Proofs.YtebgaglofabegaaDoor
