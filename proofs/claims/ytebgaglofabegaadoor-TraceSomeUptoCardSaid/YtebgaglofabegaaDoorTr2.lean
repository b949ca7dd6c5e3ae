/-
  trace.count, walked.
-/
import Derived.Test.YtebgaglofabegaaDoorTr1
import Derived.Test.YtebgaglofabegaaDoorSc4
import Derived.Test.YtebgaglofabegaaDoorRf2
import Derived.Deep.RegionHeld3
namespace Go.Proofs.YtebgaglofabegaaDoor
open Go.RowKit Go.Lib

theorem countB_not {l : Bs} {most v : Int} (hm : most ≤ 4503599627370496) (hp : parseIntB 64 l = .ok v) (h : v < 0 ∨ most < v ∨ itoa v ≠ l) : countB l most = none := by
  cases hc : countB l most with
  | none => rfl
  | some n =>
    obtain ⟨h0, h1, h2⟩ := countB_some.1 hc
    have := parseIntB_itoa n (by omega) (by omega)
    rw [h2, hp] at this
    injection this with this
    subst this
    rcases h with h | h | h
    · omega
    · omega
    · exact absurd h2 h

theorem bel_tr {w0 w w' : World} (h : Below w0.heap.size w0 w) (k : Below w.heap.size w w') : Below w0.heap.size w0 w' := h.trans (k.mono h.size)
theorem bel_mid {B : Nat} {w0 w w' : World} (h : Below w0.heap.size w0 w) (k : Below B w w') (hB : w0.heap.size ≤ B := by omega) : Below w0.heap.size w0 w' := h.trans (k.mono hB)
theorem bel_drew {B : Nat} {a w : World} (h : Below B a w) : Below B a w.drew := ⟨h.os, h.tape, h.output, h.size, h.block⟩

theorem append_nil (v : Int) (hv0 : -9223372036854775808 ≤ v) (hv1 : v ≤ 9223372036854775807) (w : World) (hE : Env w) :
    Calls Tryd.prog 72 #[.slice none 0 0, .int .i64 v, .int .i64 10] w fun e w' => ∃ v2, e = .returned v2 ∧ (convert 72 9 v2).run Tryd.prog w' = .ok (.string (mk (itoa v))) w' ∧ Below w.heap.size w w' := by
  refine (Tryd.strconv_AppendInt_10 w.heap.size 0 v hv0 hv1 _ [] w (World.ownsRow_nil _ _ _ _) (Nat.le_refl _) (by omega) (hE.tab hE.low)).mono ?_
  rintro e w2 ⟨v2, rfl, hown2, hb2, _⟩
  rw [Nat.zero_add, List.nil_append] at hown2
  exact ⟨v2, rfl, run_string_of_row hown2, hb2⟩

set_option maxRecDepth 100000 in
set_option maxHeartbeats 1000000 in
theorem tcount_any (s : ByteArray) (most : Int) (hm0 : 0 ≤ most) (hm : most ≤ 4503599627370496) (hs : s.size ≤ 4194304) (w : World) (hE : Env w) :
    Calls Tryd.prog 68 #[.string s, .int .i64 most] w fun e w' => (∃ v : Int, e = .returned (.tuple #[.int .i64 v, .bool (countB s.data.toList most).isSome]) ∧ (∀ n, countB s.data.toList most = some n → v = n)) ∧ Below w.heap.size w w' := by
  have hlow := hE.low
  go_enter Tryd.func68, Tryd.ntmps68
  go_wp2_with fail
  refine (parseInt_any s (by omega) w hE).mono ?_
  rintro e w1 ⟨v, E, rfl, hb1, hv0, hv1, hcase⟩
  rcases hcase with ⟨rfl, hp⟩ | ⟨⟨t, p, rfl⟩, hno⟩
  · by_cases h1 : v < 0
    · have hc := countB_not hm hp (.inl h1)
      have F := Lib.hid hc
      clear hc hp
      go_wp2_with fail
      go_ret2
      exact ⟨⟨0, ret_tuple (by rw [F.out]; rfl), fun n hn => by rw [F.out] at hn; cases hn⟩, hb1⟩
    · have h1' : 0 ≤ v := by omega
      by_cases h2 : most < v
      · have hc := countB_not hm hp (.inr (.inl h2))
        have F := Lib.hid hc
        clear hc hp h1
        go_wp2_with fail
        go_ret2
        exact ⟨⟨0, ret_tuple (by rw [F.out]; rfl), fun n hn => by rw [F.out] at hn; cases hn⟩, hb1⟩
      · have h2' : v ≤ most := by omega
        have hEd := (hE.below hb1 hlow)
        have hcb : countB s.data.toList most = if itoa v = s.data.toList then some v else none := by
          by_cases hq : itoa v = s.data.toList
          · rw [if_pos hq]; exact countB_some.2 ⟨h1', h2', hq⟩
          · rw [if_neg hq]; exact countB_not hm hp (.inr (.inr hq))
        have F := Lib.hid hcb
        clear hcb hp h1 h2
        have HED := Lib.hid (hEd.below (bel_drew (Below.refl w1.heap.size w1)) hEd.low)
        by_cases hq : itoa v = s.data.toList
        · have hbeq : ((mk (itoa v)).toList == s.toList) = true := by rw [str_beq, mk_data]; exact decide_eq_true hq
          have Q := Lib.hid hq
          clear hq
          go_wp2_with fail
          go_region_with ((go_at_call 72; refine (append_nil v hv0 hv1 w1.drew HED.out).mono ?_; rintro e w2 ⟨v2, rfl, hst, hb2⟩; have zB : Below w1.heap.size w1 w2 := (bel_drew (Below.refl w1.heap.size w1)).trans hb2))
          all_goals
            go_wp2_with fail
            go_ret2
            exact ⟨⟨v, ret_tuple (by rw [F.out, if_pos Q.out]; rfl), fun n hn => by rw [F.out, if_pos Q.out] at hn; exact Option.some.inj hn⟩, hb1.trans (Below.mono (B := w1.heap.size) (by assumption) hb1.size)⟩
        · have hbeq : ((mk (itoa v)).toList == s.toList) = false := by rw [str_beq, mk_data]; exact decide_eq_false hq
          have Q := Lib.hid hq
          clear hq
          go_wp2_with fail
          go_region_with ((go_at_call 72; refine (append_nil v hv0 hv1 w1.drew HED.out).mono ?_; rintro e w2 ⟨v2, rfl, hst, hb2⟩; have zB : Below w1.heap.size w1 w2 := (bel_drew (Below.refl w1.heap.size w1)).trans hb2))
          all_goals
            go_wp2_with fail
            go_ret2
            exact ⟨⟨v, ret_tuple (by rw [F.out, if_neg Q.out]; rfl), fun n hn => by rw [F.out, if_neg Q.out] at hn; cases hn⟩, hb1.trans (Below.mono (B := w1.heap.size) (by assumption) hb1.size)⟩
  · have hc : countB s.data.toList most = none := by
      cases hc : countB s.data.toList most with
      | none => rfl
      | some n =>
        obtain ⟨h0, h1, h2⟩ := countB_some.1 hc
        have := (canonI_iff s.data.toList n).2 ⟨h2, by omega, by omega⟩
        rw [hno] at this
        cases this
    have F := Lib.hid hc
    clear hc hno
    go_wp2_with fail
    go_ret2
    exact ⟨⟨0, ret_tuple (by rw [F.out]; rfl), fun n hn => by rw [F.out] at hn; cases hn⟩, hb1⟩

end Go.Proofs.YtebgaglofabegaaDoor
