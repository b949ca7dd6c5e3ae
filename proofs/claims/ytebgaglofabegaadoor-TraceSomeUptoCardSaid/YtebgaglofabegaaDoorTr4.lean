/-
  trace.Parse, walked.
-/
import Derived.Test.YtebgaglofabegaaDoorTr3
import Derived.Test.YtebgaglofabegaaDoorGen
namespace Go.Proofs.YtebgaglofabegaaDoor
open Go.RowKit Go.Lib

/-- The mark of a line. -/
def markOf : List Bs → Option MarkV
  | [p, q, r, s] => match countB p 4503599627370496, countB r 63, countB s 4503599627370496 with
    | some t, some n, some a => if okMark ⟨t, mKind q, n, a⟩ then some ⟨t, mKind q, n, a⟩ else none
    | _, _, _ => none
  | _ => none
def tparse (l : Bs) : Option MarkV := markOf (parts 32 l)
def tpM (l : Bs) : MarkV := (tparse l).getD ⟨0, 0, 0, 0⟩
def tpE (l : Bs) : Int := if (tparse l).isSome then 0 else 8

theorem tp_fail {l : Bs} (h : tparse l = none) : tpM l = ⟨0, 0, 0, 0⟩ ∧ tpE l = 8 := by unfold tpM tpE; rw [h]; exact ⟨rfl, rfl⟩
theorem tp_good {l : Bs} {m : MarkV} (h : tparse l = some m) : tpM l = m ∧ tpE l = 0 := by unfold tpM tpE; rw [h]; exact ⟨rfl, rfl⟩

theorem mKind_range (l : Bs) : 0 ≤ mKind l ∧ mKind l < 12 := by unfold mKind; (repeat' split) <;> decide

theorem results_tparse {a : Array Value} {w : World} {g : Nat} {c0 c1 c2 c3 e : Value} {t : TypeId} {fr : Nat × Nat} (h2 : a[2]?.getD undef = .pointer (some ⟨g, 0, none⟩)) (h3 : a[3]?.getD undef = e) (hb : w.heap[g]? = some (.cells #[c0, c1, c2, c3] t fr)) :
    (results Tryd.f34 a).run Tryd.prog w = .ok (.tuple #[.agg #[c0, c1, c2, c3], e]) w := by
  have q0 := cell_of_row w g 0 _ _ _ hb
  have q1 := cell_of_row w g 1 _ _ _ hb
  have q2 := cell_of_row w g 2 _ _ _ hb
  have q3 := cell_of_row w g 3 _ _ _ hb
  simp only [List.getElem?_toArray, List.getElem?_cons_zero, List.getElem?_cons_succ] at q0 q1 q2 q3
  simp [results, Tryd.results34, go_sem, h2, h3, q0, q1, q2, q3]

set_option maxRecDepth 100000 in
set_option maxHeartbeats 1600000 in
theorem tparse_any (s : ByteArray) (w : World) (hs : s.size ≤ 4194304) (hE : Env w) (hW : MarkWords w) :
    Calls Tryd.prog 34 #[.string s] w fun e w' => e = .returned (.tuple #[.agg #[.int .i64 (tpM s.data.toList).time, .int .u8 (tpM s.data.toList).kind, .int .i64 (tpM s.data.toList).who, .int .i64 (tpM s.data.toList).a], .int .i64 (tpE s.data.toList)]) ∧ Below w.heap.size w w' := by
  have hlow := hE.low
  have hE1 := hE.below (below_alloc (w := w) (.cells #[.int .i64 0, .int .u8 0, .int .i64 0, .int .i64 0] 28)) hlow
  have hmem : ∀ l ∈ parts 32 s.data.toList, l.length ≤ 4194304 := fun l hl => Nat.le_trans (parts_len 32 _ l hl) (by rw [← size_toList]; exact hs)
  have hspl := splits s _ hs hE1
  have hlen : (parts 32 s.data.toList).length ≤ 4194305 := by
    rw [parts_length]
    have : s.data.toList.count 32 ≤ s.size := by rw [size_toList]; exact List.count_le_length
    omega
  obtain ⟨ws, hws⟩ : ∃ ws, ws = parts 32 s.data.toList := ⟨_, rfl⟩
  rw [← hws] at hspl hmem hlen
  have HWS := Lib.hid hws
  have HSPL := Lib.hid hspl
  have HMEM := Lib.hid hmem
  clear hws hspl hmem hE1
  by_cases h4 : ws.length = 4
  · obtain ⟨p, q, r, z, rfl⟩ : ∃ p q r z, ws = [p, q, r, z] := by
      match ws, h4 with
      | [p, q, r, z], _ => exact ⟨p, q, r, z, rfl⟩
    clear h4
    have hp := HMEM.out p (by simp)
    have hq := HMEM.out q (by simp)
    have hr := HMEM.out r (by simp)
    have hz := HMEM.out z (by simp)
    simp only [List.length_cons, List.length_nil, Nat.reduceAdd, List.map_cons, List.map_nil] at HSPL
    go_enter Tryd.func34, Tryd.ntmps34
    go_wp2_with fail
    refine HSPL.out.mono ?_
    clear HSPL
    rintro e w1 ⟨rfl, hw1⟩
    have hb1 : Below w.heap.size w w1 := by rw [hw1]; exact (below_alloc _).alloc (by simp) _
    have hs1 : w.heap.size + 1 < w1.heap.size := by rw [hw1]; simp
    have hblk : w1.heap[w.heap.size + 1]? = some (.cells #[.string (mk p), .string (mk q), .string (mk r), .string (mk z)] 9 (0, 0)) := by
      rw [hw1]
      have := heap_alloc_new (w.alloc (.cells #[.int .i64 0, .int .u8 0, .int .i64 0, .int .i64 0] 28)) (.cells #[.string (mk p), .string (mk q), .string (mk r), .string (mk z)] 9)
      rwa [World.size_alloc] at this
    have hres : w1.heap[w.heap.size]? = some (.cells #[.int .i64 0, .int .u8 0, .int .i64 0, .int .i64 0] 28 (0, 0)) := by
      rw [hw1, Below.heap_alloc _ _ _ (by simp)]
      exact heap_alloc_new w _
    obtain ⟨c0, c1, c2, c3, _⟩ := c4 hblk
    have HRES := Lib.hid hres
    clear hw1 hblk hres
    have T1 := tcount_any (mk p) 4503599627370496 (by omega) (by omega) (by rw [mk_size]; exact hp) w1 (hE.below hb1 hlow)
    have T2 := fun W h => tcount_any (mk r) 63 (by omega) (by omega) (by rw [mk_size]; exact hr) W h
    have T3 := fun W h => tcount_any (mk z) 4503599627370496 (by omega) (by omega) (by rw [mk_size]; exact hz) W h
    rw [mk_data] at T1 T2 T3
    have hmk : markOf [p, q, r, z] = match countB p 4503599627370496, countB r 63, countB z 4503599627370496 with
      | some t, some n, some a => if okMark ⟨t, mKind q, n, a⟩ then some ⟨t, mKind q, n, a⟩ else none
      | _, _, _ => none := rfl
    have htp : tparse s.data.toList = markOf [p, q, r, z] := by unfold tparse; rw [← HWS.out]
    rw [hmk] at htp
    clear hmk
    generalize countB p 4503599627370496 = x1 at T1 htp
    generalize countB r 63 = x2 at T2 htp
    generalize countB z 4503599627370496 = x3 at T3 htp
    have HT2 := Lib.hid T2
    have HT3 := Lib.hid T3
    have HTP := Lib.hid htp
    clear T2 T3 htp
    go_wp2_with fail
    refine T1.mono ?_
    clear T1
    rintro e w2 ⟨⟨v1, rfl, e1⟩, k2⟩
    obtain ⟨r2, _⟩ := bcell k2
    have hb2 := hb1.trans (k2.mono hb1.size)
    have hs2 : w.heap.size + 1 < w2.heap.size := by have := k2.size; omega
    have HE1 := Lib.hid e1
    have HR2 := Lib.hid ((k2.block w.heap.size (by omega)).trans HRES.out)
    clear HRES e1
    go_wp2_with fail
    refine (HT2.out w2 (hE.below hb2 hlow)).mono ?_
    rintro e w3 ⟨⟨v2, rfl, e2⟩, k3⟩
    obtain ⟨r3, _⟩ := bcell k3
    have hb3 := hb2.trans (k3.mono hb2.size)
    have hs3 : w.heap.size + 1 < w3.heap.size := by have := k3.size; omega
    have HE2 := Lib.hid e2
    have HR3 := Lib.hid ((k3.block w.heap.size (by omega)).trans HR2.out)
    clear HR2 e2
    go_wp2_with fail
    refine (HT3.out w3 (hE.below hb3 hlow)).mono ?_
    rintro e w4 ⟨⟨v3, rfl, e3⟩, k4⟩
    obtain ⟨r4, _⟩ := bcell k4
    have hb4 := hb3.trans (k4.mono hb3.size)
    have hs4 : w.heap.size + 1 < w4.heap.size := by have := k4.size; omega
    have HE3 := Lib.hid e3
    have HR4 := Lib.hid ((k4.block w.heap.size (by omega)).trans HR3.out)
    clear HR3 e3
    go_wp2_with fail
    have K := tkind_any (mk q) w4 (hW.below hb4 hlow)
    rw [mk_data] at K
    obtain ⟨hk0, hk1⟩ := mKind_range q
    generalize mKind q = kd at K hk0 hk1 HTP
    refine K.mono ?_
    clear K
    rintro e w' ⟨rfl, rfl⟩
    have HR5 := Lib.hid ((Below.heap_alloc w4 (.cells #[.int .i64 v1, .int .u8 kd, .int .i64 v2, .int .i64 v3] 28) w.heap.size (by omega)).trans HR4.out)
    have hb5 : Below w.heap.size w (w4.alloc (.cells #[.int .i64 v1, .int .u8 kd, .int .i64 v2, .int .i64 v3] 28)) := hb4.alloc hb4.size _
    obtain ⟨g0, g1, g2, g3, gz⟩ := c4 HR5.out
    cases x1 with
    | none =>
      have HN := Lib.hid (tp_fail (HTP.out.trans rfl))
      simp only [Option.isSome_none]
      go_wp2_with fail
      refine bodyPost_ret (results_tparse rfl rfl (st4 HR5.out _ _ _ _)) rfl ⟨by rw [HN.out.1, HN.out.2]; rfl, bl4 hb5 (Nat.le_refl _) _ _ _ _⟩
    | some t1 =>
    simp only [Option.isSome_some]
    cases x2 with
    | none =>
      have HN := Lib.hid (tp_fail (HTP.out.trans rfl))
      simp only [Option.isSome_none]
      go_wp2_with fail
      refine bodyPost_ret (results_tparse rfl rfl (st4 HR5.out _ _ _ _)) rfl ⟨by rw [HN.out.1, HN.out.2]; rfl, bl4 hb5 (Nat.le_refl _) _ _ _ _⟩
    | some t2 =>
    simp only [Option.isSome_some]
    cases x3 with
    | none =>
      have HN := Lib.hid (tp_fail (HTP.out.trans rfl))
      simp only [Option.isSome_none]
      go_wp2_with fail
      refine bodyPost_ret (results_tparse rfl rfl (st4 HR5.out _ _ _ _)) rfl ⟨by rw [HN.out.1, HN.out.2]; rfl, bl4 hb5 (Nat.le_refl _) _ _ _ _⟩
    | some t3 =>
    simp only [Option.isSome_some]
    obtain rfl := HE1.out t1 rfl
    obtain rfl := HE2.out t2 rfl
    obtain rfl := HE3.out t3 rfl
    have R := fun W => right_any v1 kd v2 v3 hk0 W
    by_cases hok : okMark ⟨v1, kd, v2, v3⟩
    · rw [decide_eq_true hok] at R
      have HN := Lib.hid (tp_good (HTP.out.trans (if_pos hok)))
      have R' := Lib.hid R
      clear R hok
      go_wp2_with fail
      refine (R'.out _).mono ?_
      rintro e w6 ⟨rfl, k6⟩
      have hb6 := hb5.trans (k6.mono (by simp; omega))
      obtain ⟨r6, f6⟩ := bcell k6
      have hm6 : w6.heap[w4.heap.size]? = some (.cells #[.int .i64 v1, .int .u8 kd, .int .i64 v2, .int .i64 v3] 28 (0, 0)) := (k6.block w4.heap.size (by simp)).trans (heap_alloc_new w4 _)
      have HR6 := Lib.hid ((k6.block w.heap.size (by simp; omega)).trans HR5.out)
      obtain ⟨m0, m1, m2, m3, mz⟩ := c4 hm6
      obtain ⟨n0, n1, n2, n3, nz⟩ := c4 HR6.out
      have hne : w.heap.size < w4.heap.size := by omega
      clear hm6 r6 f6 g0 g1 g2 g3 gz
      go_wp2_with fail
      refine bodyPost_ret (results_tparse rfl rfl (st4 HR6.out _ _ _ _)) rfl ⟨by rw [HN.out.1, HN.out.2]; rfl, bl4 hb6 (Nat.le_refl _) _ _ _ _⟩
    · rw [decide_eq_false hok] at R
      have HN := Lib.hid (tp_fail (HTP.out.trans (if_neg hok)))
      have R' := Lib.hid R
      clear R hok
      go_wp2_with fail
      refine (R'.out _).mono ?_
      rintro e w6 ⟨rfl, k6⟩
      have hb6 := hb5.trans (k6.mono (by simp; omega))
      have HR6 := Lib.hid ((k6.block w.heap.size (by simp; omega)).trans HR5.out)
      obtain ⟨n0, n1, n2, n3, nz⟩ := c4 HR6.out
      clear g0 g1 g2 g3 gz
      go_wp2_with fail
      refine bodyPost_ret (results_tparse rfl rfl (st4 HR6.out _ _ _ _)) rfl ⟨by rw [HN.out.1, HN.out.2]; rfl, bl4 hb6 (Nat.le_refl _) _ _ _ _⟩
  · have hne : ((ws.length : Int) == 4) = false := beq_eq_false_iff_ne.2 (by omega)
    have hne' : ((ws.length : Int) != 4) = true := bne_iff_ne.2 (by omega)
    have hno : tparse s.data.toList = none := by
      unfold tparse
      rw [← HWS.out]
      match ws, h4 with
      | [], _ => rfl
      | [_], _ => rfl
      | [_, _], _ => rfl
      | [_, _, _], _ => rfl
      | [_, _, _, _], h => exact absurd rfl h
      | _ :: _ :: _ :: _ :: _ :: _, _ => rfl
    have HN := Lib.hid (tp_fail hno)
    clear hno h4
    go_enter Tryd.func34, Tryd.ntmps34
    go_wp2_with fail
    refine HSPL.out.mono ?_
    clear HSPL
    rintro e w1 ⟨rfl, hw1⟩
    have hb1 : Below w.heap.size w w1 := by rw [hw1]; exact (below_alloc _).alloc (by simp) _
    have hres : w1.heap[w.heap.size]? = some (.cells #[.int .i64 0, .int .u8 0, .int .i64 0, .int .i64 0] 28 (0, 0)) := by
      rw [hw1, Below.heap_alloc _ _ _ (by simp)]
      exact heap_alloc_new w _
    obtain ⟨g0, g1, g2, g3, gz⟩ := c4 hres
    have HRES := Lib.hid hres
    clear hw1 hres
    go_wp2_with fail
    refine bodyPost_ret (results_tparse rfl rfl (st4 HRES.out _ _ _ _)) rfl ⟨by rw [HN.out.1, HN.out.2]; rfl, bl4 hb1 (Nat.le_refl _) _ _ _ _⟩

end Go.Proofs.YtebgaglofabegaaDoor
