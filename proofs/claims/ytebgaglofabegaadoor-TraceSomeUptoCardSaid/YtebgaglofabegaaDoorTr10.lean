/-
  trace.Only and Within, walked.
-/
import Derived.Test.YtebgaglofabegaaDoorTr9
namespace Go.Proofs.YtebgaglofabegaaDoor
open Go.RowKit Go.Lib

set_option maxRecDepth 100000 in
set_option maxHeartbeats 1000000 in
theorem deleteFunc_W (c1 c2 : Value) (p : MarkV → Bool) (D : Nat) (w0 : World) (hT : Tells 41 c1 c2 p D w0) (l : List MarkV) (v : Value) (w : World) (hb0 : Below D w0 w) (hD : D ≤ w.heap.size) (hown : w.ownsRow D 28 4 v l.length (markRows l)) (hlen : l.length ≤ maxLen) :
    Calls Tryd.prog 38 #[v, .func (.func 41) #[] #[c1, c2]] w fun e w' => (∃ A c, e = .returned (.slice A (keeps p l).length c) ∧ At w' A (markRows (keeps p l))) ∧ Below D w w' := by
  unfold maxLen at hlen
  obtain ⟨A, c, rfl, hA⟩ := own_at hown
  have HI := indexFunc_W c1 c2 p D w0 hT l A c w hb0 hD hA (by unfold maxLen; omega)
  unfold fIdx at HI
  cases hi : l.findIdx? p with
  | none =>
    rw [hi] at HI
    have HK := Lib.hid (keeps_none hi)
    have HII := Lib.hid HI
    clear HI hi
    go_enter Tryd.func38, Tryd.ntmps38
    go_wp2_with fail
    refine HII.out.mono ?_
    rintro e w1 ⟨rfl, k1⟩
    have hA1 := Lib.hid (hA.later k1 (Nat.le_refl _))
    go_wp2_with fail
    go_ret
    rw [HK.out]
    exact ⟨⟨_, _, rfl, hA1.out⟩, k1.mono hD⟩
  | some i =>
    rw [hi] at HI
    dsimp only at HI
    obtain ⟨hil, hks⟩ := keeps_start hi
    have HII := Lib.hid HI
    have hne : ((i : Int) == -1) = false := beq_eq_false_iff_ne.2 (by omega)
    obtain ⟨g, cap, cur, hv, hDg, hh, hnc, hcm, hcs, htk⟩ : ∃ g cap cur, Value.slice A l.length c = .slice (some ⟨g, 0, none⟩) l.length cap ∧ D ≤ g ∧ w.heap[g]? = some (.cells cur 28 (0, 0)) ∧ l.length ≤ cap ∧ cap ≤ maxLen ∧ cur.size = cap * 4 ∧ cur.toList.take (l.length * 4) = markRows l := by
      rcases hown.2 with ⟨_, h0⟩ | h
      · omega
      · exact h
    injection hv with hA' _ hc'
    subst hA' hc'
    have hcur : cur = (markRows l ++ cur.toList.drop (l.length * 4)).toArray := by
      rw [← htk, List.take_append_drop]
    have hI0 : DelI w D g l (cur.toList.drop (l.length * 4)) (l.take i) w := ⟨by
      rw [List.length_take, Nat.min_eq_left (by omega), List.take_append_drop, ← hcur]; exact hh, Below.refl _ _⟩
    generalize cur.toList.drop (l.length * 4) = tail at hI0
    have HI0 := Lib.hid hI0
    have HKS := Lib.hid hks
    have hgl : g < w.heap.size := (Array.getElem?_eq_some_iff.1 hh).1
    clear HI hi hI0 hks hcur htk hcs hcm hh hown hA
    go_enter Tryd.func38, Tryd.ntmps38
    go_wp2_with fail
    refine HII.out.mono ?_
    clear HII
    rintro e w1 ⟨rfl, k1⟩
    have HI1 := Lib.hid (HI0.out.later hD k1)
    have hs1 := k1.size
    go_wp2_with fail
    go_loopw [5, 6] (fun kv jv wr => ∃ k j : Nat, kv = .int .i64 k ∧ jv = .int .i64 j ∧ k < j ∧ j ≤ l.length ∧ (keeps p (l.take j)).length = k ∧ DelI w D g l tail (keeps p (l.take j)) wr) (fun _ j _ => l.length - (RowKit.intOf j).toNat)
    case atStart => exact ⟨i, i + 1, rfl, by go_num, by omega, by omega, by rw [HKS.out, List.length_take]; omega, by rw [HKS.out]; exact HI1.out⟩
    case round =>
      obtain ⟨k, j, rfl, rfl, hkj, hjl, hkk, hI⟩ := hrel
      have HKK := Lib.hid hkk
      have hbw := hI.below
      have hgw : g < wr.heap.size := Nat.lt_of_lt_of_le hgl hbw.size
      have HII := Lib.hid hI
      by_cases hlt : j < l.length
      · obtain ⟨⟨t, kd, who, a⟩, hak⟩ : ∃ a, l[j]? = some a := ⟨_, List.getElem?_eq_getElem hlt⟩
        obtain ⟨q0, q1, q2, q3⟩ := hI.mark (by omega) hak
        have hks := keeps_succ (p := p) hak
        have hltI : (j : Int) < (l.length : Int) := by omega
        have hbx : Below D w (wr.alloc (.cells #[.int .i64 t, .int .u8 kd, .int .i64 who, .int .i64 a] 28)) := hbw.alloc (Nat.le_trans hD hbw.size) _
        have T := hT.calls t kd who a _ (hb0.trans hbx)
        have HX := Lib.hid (hI.later hD (below_alloc (.cells #[.int .i64 t, .int .u8 kd, .int .i64 who, .int .i64 a] 28)))
        cases hx : p ⟨t, kd, who, a⟩ with
        | true =>
          rw [hx] at T
          rw [hx, if_pos rfl, List.append_nil] at hks
          have HKS2 := Lib.hid hks
          have HT := Lib.hid T
          clear T hak hx hks hI hkk
          go_wp2_with fail
          refine HT.out.mono ?_
          rintro e w2 ⟨rfl, k2⟩
          have HX2 := Lib.hid (HX.out.later hD k2)
          go_wp2_with fail
          refine ⟨⟨k, j + 1, rfl, by go_num, by omega, by omega, ?_, ?_⟩, by simp [RowKit.intOf]; omega⟩
          · rw [HKS2.out]; exact HKK.out
          · rw [HKS2.out]; exact HX2.out
        | false =>
          rw [hx] at T
          rw [hx, if_neg (by decide)] at hks
          have HKS2 := Lib.hid hks
          have HT := Lib.hid T
          clear T hak hx hks hI hkk
          go_wp2_with fail
          refine HT.out.mono ?_
          rintro e w2 ⟨rfl, k2⟩
          have hX2 := HX.out.later hD k2
          have HX2 := Lib.hid hX2
          obtain ⟨x0, x1, x2, x3, _⟩ := c4 ((k2.block wr.heap.size (by simp)).trans (heap_alloc_new wr (.cells #[.int .i64 t, .int .u8 kd, .int .i64 who, .int .i64 a] 28)))
          have hlen4 : ∀ i, i < 4 → (w2.cell? ⟨g, k * 4 + i, none⟩).isSome = true := fun i hi => by
            have hL := markRows_length (keeps p (l.take j) ++ l.drop (keeps p (l.take j)).length)
            rw [List.length_append, List.length_drop] at hL
            have hk' := HKK.out
            obtain ⟨u, hu⟩ : ∃ u, (markRows (keeps p (l.take j) ++ l.drop (keeps p (l.take j)).length))[k * 4 + i]? = some u := ⟨_, List.getElem?_eq_getElem (by omega)⟩
            rw [hX2.cell _ u hu]; rfl
          obtain ⟨u0, hu0⟩ := Option.isSome_iff_exists.1 (show (w2.cell? ⟨g, k * 4, none⟩).isSome = true from hlen4 0 (by omega))
          obtain ⟨u1, hu1⟩ := Option.isSome_iff_exists.1 (hlen4 1 (by omega))
          obtain ⟨u2, hu2⟩ := Option.isSome_iff_exists.1 (hlen4 2 (by omega))
          obtain ⟨u3, hu3⟩ := Option.isSome_iff_exists.1 (hlen4 3 (by omega))
          have gz : ∀ o, w2.frozen? ⟨g, o, none⟩ = false := fun o => by simp [World.frozen?, hX2.blk]
          have hgb : g ≠ wr.heap.size := by omega
          have hkI : (k : Int) < (l.length : Int) := by omega
          clear hlen4 hX2
          go_wp2_with fail
          have hput := HX2.out.put hDg (by rw [HKK.out]; omega) t kd who a
          rw [HKK.out] at hput
          refine ⟨⟨k + 1, j + 1, by go_num, by go_num, by omega, by omega, ?_, ?_⟩, by simp [RowKit.intOf]; omega⟩
          · rw [HKS2.out, List.length_append, HKK.out]; rfl
          · rw [HKS2.out]; exact hput
      · obtain rfl : j = l.length := by omega
        have hge : (l.length : Int) ≤ (l.length : Int) := by omega
        have hkn : k < l.length := hkj
        rw [List.take_length] at HKK HII
        have hL := markRows_length (keeps p l ++ l.drop (keeps p l).length)
        rw [List.length_append, List.length_drop, HKK.out] at hL
        have hcs : ∀ i, i < (l.length - k) * 4 → (wr.cell? ⟨g, k * 4 + i, none⟩).isSome = true := fun i hi => by
          obtain ⟨u, hu⟩ : ∃ u, (markRows (keeps p l ++ l.drop (keeps p l).length))[k * 4 + i]? = some u := ⟨_, List.getElem?_eq_getElem (by rw [HKK.out]; omega)⟩
          rw [HII.out.cell _ u hu]; rfl
        have gz : ∀ o, wr.frozen? ⟨g, o, none⟩ = false := fun o => by simp [World.frozen?, HII.out.blk]
        have hcl := fun ty => run_clear_rows (P := Tryd.prog) wr 22 28 ty _ Tryd.underlying22 zero_mark zagg_one g (k * 4) (l.length - k) (c - k) (by omega) hcs (fun i _ => gz _)
        have HL := Lib.hid hL
        have hkc : k < c := by omega
        clear hcs gz hL hI hkk hge
        have hkI : (k : Int) < (l.length : Int) := by omega
        go_wp2_with fail
        go_ret
        have hbe : Below D w (wr.setCells g (k * 4) (Builtin.zeroCells #[Value.int IntKind.i64 0, Value.int IntKind.u8 0, Value.int IntKind.i64 0, Value.int IntKind.i64 0] (l.length - k)).toList) := Go.below_setCells hDg _ _ _ hbw
        refine ⟨⟨some ⟨g, 0, none⟩, c, by rw [HKK.out]; rfl, fun _ => ⟨g, 0, rfl, Nat.lt_of_lt_of_le hgl hbe.size, fun q u hu => ?_⟩⟩, hbe⟩
        have hq : q < k * 4 := by
          have := (List.getElem?_eq_some_iff.1 hu).1
          rw [markRows_length, HKK.out] at this
          exact this
        rw [Nat.zero_add, World.cell?_setCells_out g _ _ _ _ (fun _ _ => .inl hq)]
        exact HII.out.cell q u (by
          rw [show markRows (keeps p l ++ l.drop (keeps p l).length) = markRows (keeps p l) ++ markRows (l.drop (keeps p l).length) by simp [markRows], List.getElem?_append_left (by rw [markRows_length, HKK.out]; exact hq), hu])

theorem keeps_len (p : MarkV → Bool) (l : List MarkV) : (keeps p l).length ≤ l.length := List.length_filter_le _ _

set_option maxRecDepth 100000 in
theorem only_any (kind n : Int) (l : List MarkV) (A : Option Addr) (c : Nat) (w : World) (hA : At w A (markRows l)) (hlen : l.length * 32 ≤ 140737488355328) :
    Calls Tryd.prog 11 #[.slice A l.length c, .int .u8 kind, .int .i64 n] w fun e w' => (∃ A c, e = .returned (.slice A (keeps (dropOnly kind n) l).length c) ∧ At w' A (markRows (keeps (dropOnly kind n) l))) ∧ Below w.heap.size w w' := by
  have hmf : ∀ (fn : Fn) (first cap : Array Value) (w : World), (Instr.makeFunc fn first cap).run Tryd.prog w = .ok (.func fn first cap) w := fun _ _ _ _ => rfl
  obtain ⟨w0, hw0⟩ : ∃ w0, w0 = (w.alloc (.cells #[.int .u8 kind] 23)).alloc (.cells #[.int .i64 n] 3) := ⟨_, rfl⟩
  have hb : Below w.heap.size w w0 := by rw [hw0]; exact (below_alloc _).alloc (by simp) _
  have hs : w0.heap.size = w.heap.size + 1 + 1 := by rw [hw0]; simp
  have h1 : w0.cell? ⟨w.heap.size, 0, none⟩ = some (.int .u8 kind) := by
    rw [hw0, World.cell?_alloc_past _ _ _ (by simp), World.cell?_alloc_at _ _ _ _ rfl]; rfl
  have h2 : w0.cell? ⟨w.heap.size + 1, 0, none⟩ = some (.int .i64 n) := by
    rw [hw0, World.cell?_alloc_at _ _ _ _ (by simp)]; rfl
  have hT : Tells 40 (.pointer (some ⟨w.heap.size, 0, none⟩)) (.pointer (some ⟨w.heap.size + 1, 0, none⟩)) (dropOnly kind n) w0.heap.size w0 := ⟨fun t k who a W hW =>
    only1_any t k who a kind n _ _ W (by rw [hW.cell (by simp only; omega)]; exact h1) (by rw [hW.cell (by simp only; omega)]; exact h2) (by have := hW.size; omega) (by have := hW.size; omega)⟩
  have HC := Lib.hid (clone_any l A c w0 (hA.later hb (Nat.le_refl _)) hlen)
  clear h1 h2 hs
  go_enter Tryd.func11, Tryd.ntmps11
  go_wp2_with fail
  rw [← hw0]
  refine HC.out.mono ?_
  rintro e w1 ⟨⟨v1, rfl, own1⟩, k1⟩
  go_wp2_with fail
  refine (deleteFunc_O _ _ (dropOnly kind n) w0.heap.size w0 hT l v1 w1 k1 k1.size own1 (by unfold maxLen; omega)).mono ?_
  rintro e w2 ⟨⟨A2, c2, rfl, at2⟩, k2⟩
  have AT := Lib.hid at2
  have hbe := hb.trans ((k1.trans k2).mono hb.size)
  clear at2 hw0
  go_wp2_with fail
  go_ret
  exact ⟨⟨_, _, rfl, AT.out⟩, hbe⟩

set_option maxRecDepth 100000 in
theorem within_any (frm upt : Int) (l : List MarkV) (A : Option Addr) (c : Nat) (w : World) (hA : At w A (markRows l)) (hlen : l.length * 32 ≤ 140737488355328) :
    Calls Tryd.prog 12 #[.slice A l.length c, .int .i64 frm, .int .i64 upt] w fun e w' => (∃ A c, e = .returned (.slice A (keeps (dropWithin frm upt) l).length c) ∧ At w' A (markRows (keeps (dropWithin frm upt) l))) ∧ Below w.heap.size w w' := by
  have hmf : ∀ (fn : Fn) (first cap : Array Value) (w : World), (Instr.makeFunc fn first cap).run Tryd.prog w = .ok (.func fn first cap) w := fun _ _ _ _ => rfl
  obtain ⟨w0, hw0⟩ : ∃ w0, w0 = (w.alloc (.cells #[.int .i64 frm] 2)).alloc (.cells #[.int .i64 upt] 2) := ⟨_, rfl⟩
  have hb : Below w.heap.size w w0 := by rw [hw0]; exact (below_alloc _).alloc (by simp) _
  have hs : w0.heap.size = w.heap.size + 1 + 1 := by rw [hw0]; simp
  have h1 : w0.cell? ⟨w.heap.size, 0, none⟩ = some (.int .i64 frm) := by
    rw [hw0, World.cell?_alloc_past _ _ _ (by simp), World.cell?_alloc_at _ _ _ _ rfl]; rfl
  have h2 : w0.cell? ⟨w.heap.size + 1, 0, none⟩ = some (.int .i64 upt) := by
    rw [hw0, World.cell?_alloc_at _ _ _ _ (by simp)]; rfl
  have hT : Tells 41 (.pointer (some ⟨w.heap.size, 0, none⟩)) (.pointer (some ⟨w.heap.size + 1, 0, none⟩)) (dropWithin frm upt) w0.heap.size w0 := ⟨fun t k who a W hW =>
    within1_any t k who a frm upt _ _ W (by rw [hW.cell (by simp only; omega)]; exact h1) (by rw [hW.cell (by simp only; omega)]; exact h2) (by have := hW.size; omega) (by have := hW.size; omega)⟩
  have HC := Lib.hid (clone_any l A c w0 (hA.later hb (Nat.le_refl _)) hlen)
  clear h1 h2 hs
  go_enter Tryd.func12, Tryd.ntmps12
  go_wp2_with fail
  rw [← hw0]
  refine HC.out.mono ?_
  rintro e w1 ⟨⟨v1, rfl, own1⟩, k1⟩
  go_wp2_with fail
  refine (deleteFunc_W _ _ (dropWithin frm upt) w0.heap.size w0 hT l v1 w1 k1 k1.size own1 (by unfold maxLen; omega)).mono ?_
  rintro e w2 ⟨⟨A2, c2, rfl, at2⟩, k2⟩
  have AT := Lib.hid at2
  have hbe := hb.trans ((k1.trans k2).mono hb.size)
  clear at2 hw0
  go_wp2_with fail
  go_ret
  exact ⟨⟨_, _, rfl, AT.out⟩, hbe⟩

/-- The document's loop, in plain: at each mark that is one of those the next of the list is just it. -/
theorem keeps_at {p : MarkV → Bool} {l : List MarkV} {j : Nat} {m : MarkV} (h : l[j]? = some m) (hp : p m = false) : (keeps p l)[(keeps p (l.take j)).length]? = some m := by
  have hlt : j < l.length := (List.getElem?_eq_some_iff.1 h).1
  have e : l[j] = m := by rw [List.getElem?_eq_getElem hlt] at h; exact Option.some.inj h
  have : l = l.take j ++ l[j] :: l.drop (j + 1) := by rw [← List.drop_eq_getElem_cons hlt, List.take_append_drop]
  have e2 : keeps p l = keeps p (l.take j) ++ m :: keeps p (l.drop (j + 1)) := by
    unfold keeps
    conv => lhs; rw [this]
    rw [List.filter_append, List.filter_cons, e, hp]
    rfl
  rw [e2]
  simp

end Go.Proofs.YtebgaglofabegaaDoor
