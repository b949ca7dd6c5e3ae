/-
  slices.DeleteFunc at marks.
-/
import Derived.Test.YtebgaglofabegaaDoorTr8
namespace Go.Proofs.YtebgaglofabegaaDoor
open Go.RowKit Go.Lib

abbrev keeps (p : MarkV → Bool) (l : List MarkV) : List MarkV := l.filter (fun m => !p m)

theorem keeps_start {p : MarkV → Bool} {l : List MarkV} {i : Nat} (h : l.findIdx? p = some i) : i < l.length ∧ keeps p (l.take (i + 1)) = l.take i := by
  rw [List.findIdx?_eq_some_iff_getElem] at h
  obtain ⟨hlt, hp, hno⟩ := h
  refine ⟨hlt, ?_⟩
  unfold keeps
  rw [List.take_succ_eq_append_getElem hlt, List.filter_append]
  have e1 : List.filter (fun m => !p m) [l[i]] = [] := by simp [hp]
  have e2 : List.filter (fun m => !p m) (l.take i) = l.take i := by
    rw [List.filter_eq_self]
    intro a ha
    obtain ⟨j, hj, rfl⟩ := List.getElem_of_mem ha
    simp only [List.length_take] at hj
    have := hno j (by omega)
    rw [List.getElem_take]
    simpa using this
  rw [e1, e2, List.append_nil]

theorem keeps_none {p : MarkV → Bool} {l : List MarkV} (h : l.findIdx? p = none) : keeps p l = l := by
  rw [List.findIdx?_eq_none_iff] at h
  rw [List.filter_eq_self]
  intro a ha
  simp [h a ha]

theorem keeps_le (p : MarkV → Bool) (l : List MarkV) : (keeps p l).length ≤ l.length := List.length_filter_le _ _

theorem keeps_succ {p : MarkV → Bool} {l : List MarkV} {j : Nat} {m : MarkV} (h : l[j]? = some m) : keeps p (l.take (j + 1)) = keeps p (l.take j) ++ if p m then [] else [m] := by
  have hlt : j < l.length := (List.getElem?_eq_some_iff.1 h).1
  have e : l[j] = m := by rw [List.getElem?_eq_getElem hlt] at h; exact Option.some.inj h
  unfold keeps
  rw [List.take_succ_eq_append_getElem hlt, List.filter_append, e]
  congr 1
  cases hp : p m <;> simp [hp]

theorem set4_mid (pre post : List Value) (a b c d x y z u : Value) (k : Nat) (hk : pre.length = k) :
    (((((pre ++ a :: b :: c :: d :: post).toArray.setIfInBounds k x).setIfInBounds (k + 1) y).setIfInBounds (k + 2) z).setIfInBounds (k + 3) u) = (pre ++ x :: y :: z :: u :: post).toArray := by
  subst hk
  simp

/-- The row while it is being written: what is kept, then what was there. -/
structure DelI (w : World) (D g : Nat) (l : List MarkV) (tail : List Value) (kept : List MarkV) (W : World) : Prop where
  blk : W.heap[g]? = some (.cells (markRows (kept ++ l.drop kept.length) ++ tail).toArray 28 (0, 0))
  below : Below D w W

theorem DelI.later {w W W' : World} {D g : Nat} {l : List MarkV} {tail : List Value} {kept : List MarkV} (h : DelI w D g l tail kept W) (hD : D ≤ w.heap.size) (hb : Below W.heap.size W W') : DelI w D g l tail kept W' where
  blk := (hb.block g (Array.getElem?_eq_some_iff.1 h.blk).1).trans h.blk
  below := h.below.trans (hb.mono (Nat.le_trans hD h.below.size))

theorem DelI.cell {w W : World} {D g : Nat} {l : List MarkV} {tail : List Value} {kept : List MarkV} (h : DelI w D g l tail kept W) (j : Nat) (u : Value) (hu : (markRows (kept ++ l.drop kept.length))[j]? = some u) : W.cell? ⟨g, j, none⟩ = some u := by
  rw [cell_of_row W g j _ _ _ h.blk, List.getElem?_toArray, List.getElem?_append_left (List.getElem?_eq_some_iff.1 hu).1, hu]

theorem DelI.mark {w W : World} {D g : Nat} {l : List MarkV} {tail : List Value} {kept : List MarkV} (h : DelI w D g l tail kept W) {j : Nat} {t kd who a : Int} (hj : kept.length ≤ j) (hk : l[j]? = some ⟨t, kd, who, a⟩) :
    W.cell? ⟨g, j * 4, none⟩ = some (.int .i64 t) ∧ W.cell? ⟨g, j * 4 + 1, none⟩ = some (.int .u8 kd) ∧ W.cell? ⟨g, j * 4 + 2, none⟩ = some (.int .i64 who) ∧ W.cell? ⟨g, j * 4 + 3, none⟩ = some (.int .i64 a) := by
  have e : (kept ++ l.drop kept.length)[j]? = some ⟨t, kd, who, a⟩ := by
    rw [List.getElem?_append_right hj, List.getElem?_drop, show kept.length + (j - kept.length) = j by omega, hk]
  have q : ∀ i, i < 4 → (markRows (kept ++ l.drop kept.length))[j * 4 + i]? = (markCells ⟨t, kd, who, a⟩)[i]? := fun i hi => by rw [markRows_get _ _ _ hi, e]; rfl
  exact ⟨h.cell (j * 4) (.int .i64 t) (q 0 (by omega)), h.cell (j * 4 + 1) (.int .u8 kd) (q 1 (by omega)), h.cell (j * 4 + 2) (.int .i64 who) (q 2 (by omega)), h.cell (j * 4 + 3) (.int .i64 a) (q 3 (by omega))⟩

theorem DelI.put {w W : World} {D g : Nat} {l : List MarkV} {tail : List Value} {kept : List MarkV} (h : DelI w D g l tail kept W) (hD : D ≤ g) (hlt : kept.length < l.length) (t kd who a : Int) :
    DelI w D g l tail (kept ++ [⟨t, kd, who, a⟩]) ((((W.setCell ⟨g, kept.length * 4, none⟩ (.int .i64 t)).setCell ⟨g, kept.length * 4 + 1, none⟩ (.int .u8 kd)).setCell ⟨g, kept.length * 4 + 2, none⟩ (.int .i64 who)).setCell ⟨g, kept.length * 4 + 3, none⟩ (.int .i64 a)) where
  blk := by
    have e : l.drop kept.length = l[kept.length] :: l.drop (kept.length + 1) := List.drop_eq_getElem_cons hlt
    have e1 : markRows (kept ++ l.drop kept.length) ++ tail = markRows kept ++ Value.int .i64 l[kept.length].time :: Value.int .u8 l[kept.length].kind :: Value.int .i64 l[kept.length].who :: Value.int .i64 l[kept.length].a :: (markRows (l.drop (kept.length + 1)) ++ tail) := by
      rw [e]
      simp only [markRows, markCells, List.map_append, List.map_cons, List.flatten_append, List.flatten_cons, List.append_assoc, List.cons_append, List.nil_append]
    have e2 : markRows ((kept ++ [⟨t, kd, who, a⟩]) ++ l.drop (kept ++ [(⟨t, kd, who, a⟩ : MarkV)]).length) ++ tail = markRows kept ++ Value.int .i64 t :: Value.int .u8 kd :: Value.int .i64 who :: Value.int .i64 a :: (markRows (l.drop (kept.length + 1)) ++ tail) := by
      simp only [markRows, markCells, List.map_append, List.map_cons, List.map_nil, List.flatten_append, List.flatten_cons, List.flatten_nil, List.append_assoc, List.cons_append, List.nil_append, List.append_nil, List.length_append, List.length_singleton]
    have hblk := h.blk
    rw [e1] at hblk
    refine (heap_cells_set (heap_cells_set (heap_cells_set (heap_cells_set hblk _) _) _) _).trans ?_
    rw [set4_mid (markRows kept) _ _ _ _ _ _ _ _ _ _ (markRows_length kept), e2]
  below := bl1 (bl1 (bl1 (bl1 h.below hD _) hD _) hD _) hD _


theorem zagg_one : ∀ u ∈ (Value.agg #[.int .i64 0, .int .u8 0, .int .i64 0, .int .i64 0]).cells.toList, u.oneCell' = true := by
  intro u hu
  simp [Value.cells] at hu
  rcases hu with rfl | rfl | rfl | rfl <;> rfl

theorem zero_mark (w : World) : (zeroValue 28).run Tryd.prog w = .ok (.agg #[.int .i64 0, .int .u8 0, .int .i64 0, .int .i64 0]) w := by kernel_rfl

set_option maxRecDepth 100000 in
set_option maxHeartbeats 1000000 in
theorem deleteFunc_O (c1 c2 : Value) (p : MarkV → Bool) (D : Nat) (w0 : World) (hT : Tells 40 c1 c2 p D w0) (l : List MarkV) (v : Value) (w : World) (hb0 : Below D w0 w) (hD : D ≤ w.heap.size) (hown : w.ownsRow D 28 4 v l.length (markRows l)) (hlen : l.length ≤ maxLen) :
    Calls Tryd.prog 38 #[v, .func (.func 40) #[] #[c1, c2]] w fun e w' => (∃ A c, e = .returned (.slice A (keeps p l).length c) ∧ At w' A (markRows (keeps p l))) ∧ Below D w w' := by
  unfold maxLen at hlen
  obtain ⟨A, c, rfl, hA⟩ := own_at hown
  have HI := indexFunc_O c1 c2 p D w0 hT l A c w hb0 hD hA (by unfold maxLen; omega)
  unfold fIdx at HI
  cases hi : l.findIdx? p with
  | none =>
    rw [hi] at HI
    have HK := Lib.hid (keeps_none hi)
    have HII := Lib.hid HI
    clear HI hi
    go_enter Tryd.func38, Tryd.ntmps38
    go_wp2_with fail
    refine HII.out.mono ?_
    rintro e w1 ⟨rfl, k1⟩
    have hA1 := Lib.hid (hA.later k1 (Nat.le_refl _))
    go_wp2_with fail
    go_ret
    rw [HK.out]
    exact ⟨⟨_, _, rfl, hA1.out⟩, k1.mono hD⟩
  | some i =>
    rw [hi] at HI
    dsimp only at HI
    obtain ⟨hil, hks⟩ := keeps_start hi
    have HII := Lib.hid HI
    have hne : ((i : Int) == -1) = false := beq_eq_false_iff_ne.2 (by omega)
    obtain ⟨g, cap, cur, hv, hDg, hh, hnc, hcm, hcs, htk⟩ : ∃ g cap cur, Value.slice A l.length c = .slice (some ⟨g, 0, none⟩) l.length cap ∧ D ≤ g ∧ w.heap[g]? = some (.cells cur 28 (0, 0)) ∧ l.length ≤ cap ∧ cap ≤ maxLen ∧ cur.size = cap * 4 ∧ cur.toList.take (l.length * 4) = markRows l := by
      rcases hown.2 with ⟨_, h0⟩ | h
      · omega
      · exact h
    injection hv with hA' _ hc'
    subst hA' hc'
    have hcur : cur = (markRows l ++ cur.toList.drop (l.length * 4)).toArray := by
      rw [← htk, List.take_append_drop]
    have hI0 : DelI w D g l (cur.toList.drop (l.length * 4)) (l.take i) w := ⟨by
      rw [List.length_take, Nat.min_eq_left (by omega), List.take_append_drop, ← hcur]; exact hh, Below.refl _ _⟩
    generalize cur.toList.drop (l.length * 4) = tail at hI0
    have HI0 := Lib.hid hI0
    have HKS := Lib.hid hks
    have hgl : g < w.heap.size := (Array.getElem?_eq_some_iff.1 hh).1
    clear HI hi hI0 hks hcur htk hcs hcm hh hown hA
    go_enter Tryd.func38, Tryd.ntmps38
    go_wp2_with fail
    refine HII.out.mono ?_
    clear HII
    rintro e w1 ⟨rfl, k1⟩
    have HI1 := Lib.hid (HI0.out.later hD k1)
    have hs1 := k1.size
    go_wp2_with fail
    go_loopw [5, 6] (fun kv jv wr => ∃ k j : Nat, kv = .int .i64 k ∧ jv = .int .i64 j ∧ k < j ∧ j ≤ l.length ∧ (keeps p (l.take j)).length = k ∧ DelI w D g l tail (keeps p (l.take j)) wr) (fun _ j _ => l.length - (RowKit.intOf j).toNat)
    case atStart => exact ⟨i, i + 1, rfl, by go_num, by omega, by omega, by rw [HKS.out, List.length_take]; omega, by rw [HKS.out]; exact HI1.out⟩
    case round =>
      obtain ⟨k, j, rfl, rfl, hkj, hjl, hkk, hI⟩ := hrel
      have HKK := Lib.hid hkk
      have hbw := hI.below
      have hgw : g < wr.heap.size := Nat.lt_of_lt_of_le hgl hbw.size
      have HII := Lib.hid hI
      by_cases hlt : j < l.length
      · obtain ⟨⟨t, kd, who, a⟩, hak⟩ : ∃ a, l[j]? = some a := ⟨_, List.getElem?_eq_getElem hlt⟩
        obtain ⟨q0, q1, q2, q3⟩ := hI.mark (by omega) hak
        have hks := keeps_succ (p := p) hak
        have hltI : (j : Int) < (l.length : Int) := by omega
        have hbx : Below D w (wr.alloc (.cells #[.int .i64 t, .int .u8 kd, .int .i64 who, .int .i64 a] 28)) := hbw.alloc (Nat.le_trans hD hbw.size) _
        have T := hT.calls t kd who a _ (hb0.trans hbx)
        have HX := Lib.hid (hI.later hD (below_alloc (.cells #[.int .i64 t, .int .u8 kd, .int .i64 who, .int .i64 a] 28)))
        cases hx : p ⟨t, kd, who, a⟩ with
        | true =>
          rw [hx] at T
          rw [hx, if_pos rfl, List.append_nil] at hks
          have HKS2 := Lib.hid hks
          have HT := Lib.hid T
          clear T hak hx hks hI hkk
          go_wp2_with fail
          refine HT.out.mono ?_
          rintro e w2 ⟨rfl, k2⟩
          have HX2 := Lib.hid (HX.out.later hD k2)
          go_wp2_with fail
          refine ⟨⟨k, j + 1, rfl, by go_num, by omega, by omega, ?_, ?_⟩, by simp [RowKit.intOf]; omega⟩
          · rw [HKS2.out]; exact HKK.out
          · rw [HKS2.out]; exact HX2.out
        | false =>
          rw [hx] at T
          rw [hx, if_neg (by decide)] at hks
          have HKS2 := Lib.hid hks
          have HT := Lib.hid T
          clear T hak hx hks hI hkk
          go_wp2_with fail
          refine HT.out.mono ?_
          rintro e w2 ⟨rfl, k2⟩
          have hX2 := HX.out.later hD k2
          have HX2 := Lib.hid hX2
          obtain ⟨x0, x1, x2, x3, _⟩ := c4 ((k2.block wr.heap.size (by simp)).trans (heap_alloc_new wr (.cells #[.int .i64 t, .int .u8 kd, .int .i64 who, .int .i64 a] 28)))
          have hlen4 : ∀ i, i < 4 → (w2.cell? ⟨g, k * 4 + i, none⟩).isSome = true := fun i hi => by
            have hL := markRows_length (keeps p (l.take j) ++ l.drop (keeps p (l.take j)).length)
            rw [List.length_append, List.length_drop] at hL
            have hk' := HKK.out
            obtain ⟨u, hu⟩ : ∃ u, (markRows (keeps p (l.take j) ++ l.drop (keeps p (l.take j)).length))[k * 4 + i]? = some u := ⟨_, List.getElem?_eq_getElem (by omega)⟩
            rw [hX2.cell _ u hu]; rfl
          obtain ⟨u0, hu0⟩ := Option.isSome_iff_exists.1 (show (w2.cell? ⟨g, k * 4, none⟩).isSome = true from hlen4 0 (by omega))
          obtain ⟨u1, hu1⟩ := Option.isSome_iff_exists.1 (hlen4 1 (by omega))
          obtain ⟨u2, hu2⟩ := Option.isSome_iff_exists.1 (hlen4 2 (by omega))
          obtain ⟨u3, hu3⟩ := Option.isSome_iff_exists.1 (hlen4 3 (by omega))
          have gz : ∀ o, w2.frozen? ⟨g, o, none⟩ = false := fun o => by simp [World.frozen?, hX2.blk]
          have hgb : g ≠ wr.heap.size := by omega
          have hkI : (k : Int) < (l.length : Int) := by omega
          clear hlen4 hX2
          go_wp2_with fail
          have hput := HX2.out.put hDg (by rw [HKK.out]; omega) t kd who a
          rw [HKK.out] at hput
          refine ⟨⟨k + 1, j + 1, by go_num, by go_num, by omega, by omega, ?_, ?_⟩, by simp [RowKit.intOf]; omega⟩
          · rw [HKS2.out, List.length_append, HKK.out]; rfl
          · rw [HKS2.out]; exact hput
      · obtain rfl : j = l.length := by omega
        have hge : (l.length : Int) ≤ (l.length : Int) := by omega
        have hkn : k < l.length := hkj
        rw [List.take_length] at HKK HII
        have hL := markRows_length (keeps p l ++ l.drop (keeps p l).length)
        rw [List.length_append, List.length_drop, HKK.out] at hL
        have hcs : ∀ i, i < (l.length - k) * 4 → (wr.cell? ⟨g, k * 4 + i, none⟩).isSome = true := fun i hi => by
          obtain ⟨u, hu⟩ : ∃ u, (markRows (keeps p l ++ l.drop (keeps p l).length))[k * 4 + i]? = some u := ⟨_, List.getElem?_eq_getElem (by rw [HKK.out]; omega)⟩
          rw [HII.out.cell _ u hu]; rfl
        have gz : ∀ o, wr.frozen? ⟨g, o, none⟩ = false := fun o => by simp [World.frozen?, HII.out.blk]
        have hcl := fun ty => run_clear_rows (P := Tryd.prog) wr 22 28 ty _ Tryd.underlying22 zero_mark zagg_one g (k * 4) (l.length - k) (c - k) (by omega) hcs (fun i _ => gz _)
        have HL := Lib.hid hL
        have hkc : k < c := by omega
        clear hcs gz hL hI hkk hge
        have hkI : (k : Int) < (l.length : Int) := by omega
        go_wp2_with fail
        go_ret
        have hbe : Below D w (wr.setCells g (k * 4) (Builtin.zeroCells #[Value.int IntKind.i64 0, Value.int IntKind.u8 0, Value.int IntKind.i64 0, Value.int IntKind.i64 0] (l.length - k)).toList) := Go.below_setCells hDg _ _ _ hbw
        refine ⟨⟨some ⟨g, 0, none⟩, c, by rw [HKK.out]; rfl, fun _ => ⟨g, 0, rfl, Nat.lt_of_lt_of_le hgl hbe.size, fun q u hu => ?_⟩⟩, hbe⟩
        have hq : q < k * 4 := by
          have := (List.getElem?_eq_some_iff.1 hu).1
          rw [markRows_length, HKK.out] at this
          exact this
        rw [Nat.zero_add, World.cell?_setCells_out g _ _ _ _ (fun _ _ => .inl hq)]
        exact HII.out.cell q u (by
          rw [show markRows (keeps p l ++ l.drop (keeps p l).length) = markRows (keeps p l) ++ markRows (l.drop (keeps p l).length) by simp [markRows], List.getElem?_append_left (by rw [markRows_length, HKK.out]; exact hq), hu])

end Go.Proofs.YtebgaglofabegaaDoor
