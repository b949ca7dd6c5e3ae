/-
  The walks of script's kind and of its reader of numbers.
-/
import Derived.Test.YtebgaglofabegaaDoorSc3
import Derived.Test.YtebgaglofabegaaDoorActP
import Derived.Lib.AtoiErrMem
namespace Go.Proofs.YtebgaglofabegaaDoor
open Go.RowKit Go.Lib

theorem kind_any (s : ByteArray) (w : World) (hW : ActWords w) :
    Calls Tryd.prog 46 #[.string s] w fun e w' => e = .returned (.int .u8 (kindOf s.data.toList)) ∧ w = w' := by
  go_enter Tryd.func46, Tryd.ntmps46
  go_wp2_with fail
  go_loop [3] (fun i => ∃ k : Nat, 1 ≤ k ∧ k ≤ 8 ∧ i = .int .u8 k ∧ ∀ j : Nat, 1 ≤ j → j < k → s.data.toList ≠ actWord j) (fun i => 8 - (RowKit.intOf i).toNat)
  case atStart => exact ⟨1, by omega, by omega, rfl, fun j h1 h2 => by omega⟩
  case round =>
    obtain ⟨k, h1, h8, rfl, hno⟩ := hrel
    by_cases hlt : k < 8
    · have hc : w.cell? ⟨0, k, none⟩ = some (.string (mk (actWord k))) := by have := hW k (by omega) (by omega); rwa [Int.toNat_natCast] at this
      have hno' := Lib.hid hno
      clear hno
      have hI : (k : Int) < 8 := by omega
      go_wp2_with fail
      · go_ret
        have he := str_eq ‹_›
        rw [mk_data] at he
        exact ⟨by rw [kindOf_hit _ k h1 hlt he.symm]; rfl, rfl⟩
      · have he := str_ne ‹_›
        rw [mk_data] at he
        go_round
        case rel => exact ⟨k + 1, by omega, by omega, by go_num, fun j h1 h2 => by
          by_cases hj : j < k
          · exact hno'.out j h1 hj
          · obtain rfl : j = k := by omega
            exact fun e => he e.symm⟩
        case measure => simp [RowKit.intOf]; omega
    · obtain rfl : k = 8 := by omega
      have hno' := Lib.hid hno
      clear hno
      go_wp2_with fail
      go_ret
      exact ⟨by rw [kindOf_miss _ hno'.out]; rfl, rfl⟩

/-- strconv.ParseInt(s, 10, 64): a value and no error, or an error. -/
theorem parseInt_any (s : ByteArray) (hs : s.size ≤ 281474976710656) (w : World) (hE : Env w) :
    Calls Tryd.prog 75 #[.string s, .int .i64 10, .int .i64 64] w fun e w' => ∃ v E, e = .returned (.tuple #[.int .i64 v, E]) ∧ Below w.heap.size w w' ∧ -9223372036854775808 ≤ v ∧ v ≤ 9223372036854775807 ∧
      ((E = .nilIface ∧ parseIntB 64 s.data.toList = .ok v) ∨ ((∃ t p, E = .iface t p) ∧ canonI s.data.toList = none)) := by
  cases h : parseIntB 64 s.data.toList with
  | ok v =>
    refine (Tryd.strconv_ParseInt_10_at64_ok s (by omega) v h w).mono ?_
    rintro e w' ⟨rfl, hw⟩
    have hv : -9223372036854775808 ≤ v ∧ v ≤ 9223372036854775807 := by
      have := parseIntB_range h
      exact this
    refine ⟨v, .nilIface, rfl, ?_, hv.1, hv.2, .inl ⟨rfl, rfl⟩⟩
    rcases hw with rfl | ⟨t, rfl⟩
    · exact Below.refl _ _
    · exact bytesWorld_below _ _ _
  | range =>
    obtain ⟨te, pe, hv⟩ := hE.rng
    refine (Tryd.strconv_ParseInt_10_at64_range s hs h _ w hv (.inr ⟨te, pe, rfl⟩)).mono ?_
    rintro e w' ⟨N, rfl, _, _, hb⟩
    refine ⟨_, _, rfl, hb, ?_, ?_, .inr ⟨⟨_, _, rfl⟩, by unfold canonI; rw [h]⟩⟩
    · unfold intSat; split <;> simp only [Nat.reduceSub, Nat.reducePow] <;> omega
    · unfold intSat; split <;> simp only [Nat.reduceSub, Nat.reducePow] <;> omega
  | _ =>
    obtain ⟨te, pe, hv⟩ := hE.syn
    refine (Tryd.strconv_ParseInt_10_at64_none s hs (fun v e => by rw [h] at e; cases e) (fun e => by rw [h] at e; cases e) _ w hv (.inr ⟨te, pe, rfl⟩)).mono ?_
    rintro e w' ⟨N, rfl, _, _, hb⟩
    exact ⟨_, _, rfl, hb, by omega, by omega, .inr ⟨⟨_, _, rfl⟩, by unfold canonI; rw [h]⟩⟩

/-- A reader of words in block r: the words lie in block b, so many are read. -/
structure RdSt (w : World) (r b : Nat) (all : List Bs) (off : Nat) (bad : Bool) : Prop where
  strs : w.heap[b]? = some (.cells ((all.map fun l => Value.string (mk l)).toArray) 9 (0, 0))
  rd : ∃ A, w.heap[r]? = some (.cells #[.slice A (all.length - off) (all.length - off), .bool bad] 83 (0, 0)) ∧ (off < all.length → A = some ⟨b, off, none⟩)
  le : off ≤ all.length

theorem RdSt.ne {w : World} {r b : Nat} {all : List Bs} {off : Nat} {bad : Bool} (h : RdSt w r b all off bad) : b ≠ r := fun e => by
  obtain ⟨A, hr, _⟩ := h.rd
  have := h.strs
  rw [e, hr] at this
  injection this with this
  injection this with _ ht
  exact absurd ht (by decide)
theorem RdSt.rlt {w : World} {r b : Nat} {all : List Bs} {off : Nat} {bad : Bool} (h : RdSt w r b all off bad) : r < w.heap.size := by
  obtain ⟨A, hr, _⟩ := h.rd
  exact (Array.getElem?_eq_some_iff.1 hr).1
theorem RdSt.blt {w : World} {r b : Nat} {all : List Bs} {off : Nat} {bad : Bool} (h : RdSt w r b all off bad) : b < w.heap.size := (Array.getElem?_eq_some_iff.1 h.strs).1
theorem RdSt.later {w w' : World} {r b : Nat} {all : List Bs} {off : Nat} {bad : Bool} (h : RdSt w r b all off bad) {D : Nat} (hb : Below D w w') (hD : w.heap.size ≤ D) : RdSt w' r b all off bad where
  strs := by rw [hb.block b (by have := h.blt; omega)]; exact h.strs
  rd := by rw [hb.block r (by have := h.rlt; omega)]; exact h.rd
  le := h.le

/-- num, where nothing is told. -/
theorem num_not (r : Nat) (w : World) : Calls Tryd.prog 48 #[.pointer (some ⟨r, 0, none⟩), .bool false] w fun e w' => e = .returned (.int .i64 0) ∧ w = w' := by
  go_enter Tryd.func48, Tryd.ntmps48
  go_wp2_with fail
  go_ret
  exact ⟨rfl, rfl⟩

theorem heap_cells_set {w : World} {k i : Nat} {c : Array Value} {t : TypeId} {fr : Nat × Nat} (h : w.heap[k]? = some (.cells c t fr)) (v : Value) : (w.setCell ⟨k, i, none⟩ v).heap[k]? = some (.cells (c.setIfInBounds i v) t fr) := by
  simp [World.setCell, Array.getElem?_modify, h]

/-- num, where no word is left. -/
theorem num_none (r b : Nat) (all : List Bs) (off : Nat) (bad : Bool) (w : World) (h : RdSt w r b all off bad) (h0 : all.length ≤ off) :
    Calls Tryd.prog 48 #[.pointer (some ⟨r, 0, none⟩), .bool true] w fun e w' => e = .returned (.int .i64 0) ∧ RdSt w' r b all off true ∧ w.grownBy w' (some r) := by
  obtain ⟨A, hr, hA⟩ := h.rd
  have hz : all.length - off = 0 := by omega
  have c0 := cell_of_row w r 0 _ _ _ hr
  have c1 := cell_of_row w r 1 _ _ _ hr
  rw [hz] at c0
  simp only [List.getElem?_toArray, List.getElem?_cons_zero, List.getElem?_cons_succ] at c0 c1
  have f1 : w.frozen? ⟨r, 1, none⟩ = false := by simp [World.frozen?, hr]
  go_enter Tryd.func48, Tryd.ntmps48
  go_wp2_with fail
  go_ret
  refine ⟨rfl, ⟨?_, ⟨A, ?_, hA⟩, h.le⟩, ?_⟩
  · rw [Below.heap_setCell _ _ _ _ h.ne]; exact h.strs
  · rw [heap_cells_set hr]; rfl
  · exact ⟨rfl, rfl, rfl, by simp [World.setCell], fun k _ hk => Below.heap_setCell _ _ _ _ (fun e => hk (by rw [e]))⟩

theorem canonI_of_itoa {l : Bs} {v : Int} (h0 : -9223372036854775808 ≤ v) (h1 : v ≤ 9223372036854775807) (h : itoa v = l) : canonI l = some v := (canonI_iff l v).2 ⟨h, h0, h1⟩

set_option maxRecDepth 100000 in
theorem num_some (r b : Nat) (all : List Bs) (off : Nat) (bad : Bool) (w : World) (hE : Env w) (hrg : 10 ≤ r) (h : RdSt w r b all off bad) (l : Bs) (hl : all[off]? = some l) (hs : l.length ≤ 281474976710656) :
    Calls Tryd.prog 48 #[.pointer (some ⟨r, 0, none⟩), .bool true] w fun e w' => ∃ v, e = .returned (.int .i64 v) ∧ RdSt w' r b all (off + 1) (bad || numB l) ∧ w.grownBy w' (some r) ∧ (canonI l = none ∨ canonI l = some v) := by
  have hlt : off < all.length := (List.getElem?_eq_some_iff.1 hl).1
  obtain ⟨A, hr, hA⟩ := h.rd
  obtain rfl := hA hlt
  obtain ⟨n, hn⟩ : ∃ n, all.length - off = n + 1 := ⟨all.length - off - 1, by omega⟩
  have c0 := cell_of_row w r 0 _ _ _ hr
  have c1 := cell_of_row w r 1 _ _ _ hr
  rw [hn] at c0
  simp only [List.getElem?_toArray, List.getElem?_cons_zero, List.getElem?_cons_succ] at c0 c1
  have f0 : w.frozen? ⟨r, 0, none⟩ = false := by simp [World.frozen?, hr]
  have f1 : w.frozen? ⟨r, 1, none⟩ = false := by simp [World.frozen?, hr]
  have cs : w.cell? ⟨b, off, none⟩ = some (.string (mk l)) := by
    rw [cell_of_row w b off _ _ _ h.strs, List.getElem?_toArray, List.getElem?_map, hl]; rfl
  have hnI : (0 : Int) < (n : Int) + 1 := by omega
  have HN := Lib.hid hn
  have hsl : ∃ A', (∀ w', (Instr.slice 78 (.slice (some ⟨b, off, none⟩) (n + 1) (n + 1)) (some (.int .i64 1)) none none).run Tryd.prog w' = .ok (.slice A' n n) w') ∧ (n ≠ 0 → A' = some ⟨b, off + 1, none⟩) := by
    by_cases h0 : n = 0
    · subst h0
      exact ⟨some ⟨b, off, none⟩, fun w' => by simp [go_sem], fun h => absurd rfl h⟩
    · exact ⟨some ⟨b, off + 1, none⟩, fun w' => by simp [go_sem, h0]; intros; omega, fun _ => rfl⟩
  obtain ⟨A', hsl, hA'⟩ := hsl
  have h1 : RdSt (w.setCell ⟨r, 0, none⟩ (.slice A' n n)) r b all (off + 1) bad := by
    refine ⟨?_, ⟨A', ?_, fun hx => hA' (by omega)⟩, hlt⟩
    · rw [Below.heap_setCell _ _ _ _ h.ne]; exact h.strs
    · rw [heap_cells_set hr, show all.length - (off + 1) = n by omega]; rfl
  have hg1 : w.grownBy (w.setCell ⟨r, 0, none⟩ (.slice A' n n)) (some r) := ⟨rfl, rfl, rfl, by simp [World.setCell], fun k _ hk => Below.heap_setCell _ _ _ _ (fun e => hk (by rw [e]))⟩
  have hE1 : Env (w.setCell ⟨r, 0, none⟩ (.slice A' n n)) := hE.below (B := r) ((Below.refl _ _).setCell (p := ⟨r, 0, none⟩) (Nat.le_refl _) _) hrg
  clear hn hA' hA
  go_enter Tryd.func48, Tryd.ntmps48
  go_wp2_with fail
  refine (parseInt_any (mk l) (by rw [mk_size]; exact hs) _ hE1).mono ?_
  rw [mk_data]
  rintro e w1 ⟨v, E, rfl, hb1, hv0, hv1, hcase⟩
  have h2 := h1.later hb1 (Nat.le_refl _)
  have hE2 := hE1.below hb1 hE1.low
  have hg2 : w.grownBy w1 (some r) := hg1.trans ((grownBy_of_below hb1).but _)
  clear hg1 hE1 h1 hb1 hsl
  rcases hcase with ⟨rfl, hp⟩ | ⟨⟨t, p, rfl⟩, hno⟩
  · go_wp2_with fail
    refine (Tryd.strconv_AppendInt_10 w1.heap.size 0 v hv0 hv1 _ [] w1 (World.ownsRow_nil _ _ _ _) (Nat.le_refl _) (by omega) (hE2.tab hE2.low)).mono ?_
    rintro e w2 ⟨v2, rfl, hown2, hb2, _⟩
    rw [Nat.zero_add, List.nil_append] at hown2
    have hst := run_string_of_row hown2
    have h3 := h2.later hb2 (Nat.le_refl _)
    have hg3 : w.grownBy w2 (some r) := hg2.trans ((grownBy_of_below hb2).but _)
    by_cases hc : itoa v = l
    · have hcan : canonI l = some v := canonI_of_itoa hv0 hv1 hc
      have hbeq : ((mk (itoa v)).toList == (mk l).toList) = true := by rw [str_beq, mk_data, mk_data]; exact decide_eq_true hc
      have hnb : numB l = false := by unfold numB; rw [hcan]; rfl
      have P := Lib.hid (And.intro hcan (And.intro hnb hc))
      clear hcan hnb hc hp
      go_wp2_with fail
      go_ret
      exact ⟨v, rfl, by rw [P.out.2.1, Bool.or_false]; exact h3, hg3, .inr P.out.1⟩
    · have hcan : canonI l = none := by unfold canonI; rw [hp]; exact if_neg hc
      have hbeq : ((mk (itoa v)).toList == (mk l).toList) = false := by rw [str_beq, mk_data, mk_data]; exact decide_eq_false hc
      have hnb : numB l = true := by unfold numB; rw [hcan]; rfl
      have P := Lib.hid (And.intro hcan (And.intro hnb hc))
      clear hcan hnb hc hp
      obtain ⟨A2, hr2, hA2⟩ := h3.rd
      have d1 := cell_of_row w2 r 1 _ _ _ hr2
      simp only [List.getElem?_toArray, List.getElem?_cons_zero, List.getElem?_cons_succ] at d1
      have e1 : (w2).frozen? ⟨r, 1, none⟩ = false := by simp [World.frozen?, hr2]
      have h4 : RdSt ((w2).setCell ⟨r, 1, none⟩ (.bool true)) r b all (off + 1) true := by
        refine ⟨?_, ⟨A2, ?_, hA2⟩, h3.le⟩
        · rw [Below.heap_setCell _ _ _ _ h3.ne]; exact h3.strs
        · rw [heap_cells_set hr2]; rfl
      have hg4 : w.grownBy ((w2).setCell ⟨r, 1, none⟩ (.bool true)) (some r) := hg3.trans ⟨rfl, rfl, rfl, by simp [World.setCell], fun k _ hk => Below.heap_setCell _ _ _ _ (fun e => hk (by rw [e]))⟩
      go_wp2_with fail
      go_ret
      exact ⟨v, rfl, by rw [P.out.2.1, Bool.or_true]; exact h4, hg4, .inl P.out.1⟩
  · have hnb : numB l = true := by unfold numB; rw [hno]; rfl
    have P := Lib.hid (And.intro hno hnb)
    clear hno hnb
    obtain ⟨A2, hr2, hA2⟩ := h2.rd
    have d1 := cell_of_row w1 r 1 _ _ _ hr2
    simp only [List.getElem?_toArray, List.getElem?_cons_zero, List.getElem?_cons_succ] at d1
    have e1 : (w1).frozen? ⟨r, 1, none⟩ = false := by simp [World.frozen?, hr2]
    have h4 : RdSt ((w1).setCell ⟨r, 1, none⟩ (.bool true)) r b all (off + 1) true := by
      refine ⟨?_, ⟨A2, ?_, hA2⟩, h2.le⟩
      · rw [Below.heap_setCell _ _ _ _ h2.ne]; exact h2.strs
      · rw [heap_cells_set hr2]; rfl
    have hg4 : w.grownBy ((w1).setCell ⟨r, 1, none⟩ (.bool true)) (some r) := hg2.trans ⟨rfl, rfl, rfl, by simp [World.setCell], fun k _ hk => Below.heap_setCell _ _ _ _ (fun e => hk (by rw [e]))⟩
    go_wp2_with fail
    go_ret
    exact ⟨v, rfl, by rw [P.out.2, Bool.or_true]; exact h4, hg4, .inl P.out.1⟩

end Go.Proofs.YtebgaglofabegaaDoor
