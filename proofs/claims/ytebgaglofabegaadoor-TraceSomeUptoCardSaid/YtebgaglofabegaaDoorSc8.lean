/-
  What the laws on scripts ask for first.
-/
import Derived.Test.YtebgaglofabegaaDoorSc7
import Derived.Test.YtebgaglofabegaaDoorActG
namespace Go.Proofs.YtebgaglofabegaaDoor
open Go.RowKit Go.Lib

attribute [local go_sem high] eql_act neq_act
attribute [local go_sem] guard_act

theorem at_owns {w : World} {B n : Nat} {v : Value} {l : List ActV} (h : w.ownsRow B 32 4 v n (actRows l)) : ∃ A c, v = .slice A n c ∧ At w A (actRows l) := by
  obtain ⟨A, c, rfl⟩ := owns_slice h
  exact ⟨A, c, rfl, At.ofOwn h⟩

theorem at_block {w : World} {b : Nat} {l : List ActV} {t : TypeId} {f : Nat × Nat} (h : w.heap[b]? = some (.cells (actRows l).toArray t f)) : At w (some ⟨b, 0, none⟩) (actRows l) := fun _ =>
  ⟨b, 0, rfl, (Array.getElem?_eq_some_iff.1 h).1, fun j u hu => by rw [Nat.zero_add, cell_of_row w b j _ _ _ h]; simpa using hu⟩

set_option maxRecDepth 100000 in
set_option maxHeartbeats 2000000 in
theorem lives31 (w : World) (hE : Env w) (hW : ActWords w) : Calls Tryd.prog 17 #[] w fun e w' => e = .returned (.bool true) ∧ Below w.heap.size w w' := by
  have hlow := hE.low
  go_enter Tryd.func17, Tryd.ntmps17
  go_wp2_with fail
  have hb1 : Below w.heap.size w (((w.alloc (.cells #[.int .u8 1, .int .i64 0, .int .i64 5, .int .i64 0] 32)).alloc (.cells #[.int .u8 2, .int .i64 0, .int .i64 2, .int .i64 7] 32)).alloc (.cells #[.int .u8 1, .int .i64 0, .int .i64 5, .int .i64 0, .int .u8 2, .int .i64 0, .int .i64 2, .int .i64 7] 32)) :=
    (((Below.refl _ w).alloc (Nat.le_refl _) _).alloc (by simp) _).alloc (by simp; omega) _
  have c1 : (((w.alloc (.cells #[.int .u8 1, .int .i64 0, .int .i64 5, .int .i64 0] 32)).alloc (.cells #[.int .u8 2, .int .i64 0, .int .i64 2, .int .i64 7] 32)).alloc (.cells #[.int .u8 1, .int .i64 0, .int .i64 5, .int .i64 0, .int .u8 2, .int .i64 0, .int .i64 2, .int .i64 7] 32)).heap[w.heap.size]? = some (.cells #[.int .u8 1, .int .i64 0, .int .i64 5, .int .i64 0] 32) :=
    ((Below.heap_alloc _ _ _ (by simp; omega)).trans (Below.heap_alloc _ _ _ (by simp))).trans (World.alloc_heap_new w _)
  have c2 : (((w.alloc (.cells #[.int .u8 1, .int .i64 0, .int .i64 5, .int .i64 0] 32)).alloc (.cells #[.int .u8 2, .int .i64 0, .int .i64 2, .int .i64 7] 32)).alloc (.cells #[.int .u8 1, .int .i64 0, .int .i64 5, .int .i64 0, .int .u8 2, .int .i64 0, .int .i64 2, .int .i64 7] 32)).heap[w.heap.size + 1]? = some (.cells #[.int .u8 2, .int .i64 0, .int .i64 2, .int .i64 7] 32) := by
    refine (Below.heap_alloc _ _ _ (by simp)).trans ?_
    have := World.alloc_heap_new (w.alloc (.cells #[.int .u8 1, .int .i64 0, .int .i64 5, .int .i64 0] 32)) (.cells #[.int .u8 2, .int .i64 0, .int .i64 2, .int .i64 7] 32)
    rwa [World.size_alloc] at this
  have c3 : (((w.alloc (.cells #[.int .u8 1, .int .i64 0, .int .i64 5, .int .i64 0] 32)).alloc (.cells #[.int .u8 2, .int .i64 0, .int .i64 2, .int .i64 7] 32)).alloc (.cells #[.int .u8 1, .int .i64 0, .int .i64 5, .int .i64 0, .int .u8 2, .int .i64 0, .int .i64 2, .int .i64 7] 32)).heap[w.heap.size + 1 + 1]? = some (.cells (actRows [⟨1, 0, 5, 0⟩, ⟨2, 0, 2, 7⟩]).toArray 32) := by
    have := World.alloc_heap_new ((w.alloc (.cells #[.int .u8 1, .int .i64 0, .int .i64 5, .int .i64 0] 32)).alloc (.cells #[.int .u8 2, .int .i64 0, .int .i64 2, .int .i64 7] 32)) (.cells #[.int .u8 1, .int .i64 0, .int .i64 5, .int .i64 0, .int .u8 2, .int .i64 0, .int .i64 2, .int .i64 7] 32)
    rwa [World.size_alloc, World.size_alloc] at this
  generalize (((w.alloc (.cells #[.int .u8 1, .int .i64 0, .int .i64 5, .int .i64 0] 32)).alloc (.cells #[.int .u8 2, .int .i64 0, .int .i64 2, .int .i64 7] 32)).alloc (.cells #[.int .u8 1, .int .i64 0, .int .i64 5, .int .i64 0, .int .u8 2, .int .i64 0, .int .i64 2, .int .i64 7] 32)) = w1 at *
  have l1 : w.heap.size + 1 < w1.heap.size := (Array.getElem?_eq_some_iff.1 c2).1
  have P := put_acts [⟨1, 0, 5, 0⟩, ⟨2, 0, 2, 7⟩] (by intro a ha; simp at ha; rcases ha with rfl | rfl <;> decide) (some ⟨w.heap.size + 1 + 1, 0, none⟩) 2 w1 (hE.below hb1 hlow) (hW.below hb1 hlow) (at_block c3) (by decide)
  rw [lives_put.1, lives_put.2] at P
  refine P.mono ?_
  rintro e w2 ⟨rfl, k2⟩
  clear P c3
  have hb2 := hb1.trans (k2.mono hb1.size)
  replace c1 := (k2.block _ (by omega)).trans c1
  replace c2 := (k2.block _ (by omega)).trans c2
  have l2 := k2.size
  go_wp2_with fail
  have G := get_any (mk [35, 32, 97, 32, 114, 101, 109, 97, 114, 107, 10, 10, 97, 100, 118, 97, 110, 99, 101, 32, 53, 10, 114, 97, 105, 115, 101, 32, 48, 32, 50, 32, 55, 10]) w2 (by rw [mk_size]; decide) (hE.below hb2 hlow) (hW.below hb2 hlow)
  rw [mk_data, lives_get] at G
  refine G.mono ?_
  clear G
  rintro e w3 ⟨v3, rfl, own3, k3⟩
  obtain ⟨A3, cap3, rfl, at3⟩ := at_owns own3
  clear own3
  have hb3 := hb2.trans (k3.mono hb2.size)
  replace c1 := (k3.block _ (by omega)).trans c1
  replace c2 := (k3.block _ (by omega)).trans c2
  have l3 := k3.size
  go_wp2_with fail
  have G := get_any (mk [97, 100, 118, 97, 110, 99, 101, 32, 53, 10, 97, 100, 118, 97, 110, 99, 101, 32, 48, 53, 10]) w3 (by rw [mk_size]; decide) (hE.below hb3 hlow) (hW.below hb3 hlow)
  rw [mk_data, lives_bad] at G
  refine G.mono ?_
  clear G
  rintro e w4 ⟨v4, rfl, own4, k4⟩
  obtain ⟨A4, cap4, rfl, at4⟩ := at_owns own4
  clear own4 at4
  have hb4 := hb3.trans (k4.mono hb3.size)
  replace c1 := (k4.block _ (by omega)).trans c1
  replace c2 := (k4.block _ (by omega)).trans c2
  replace at3 := at3.later k4 (Nat.le_refl _)
  have l4 := k4.size
  go_wp2_with fail
  have G := parse_any (mk [115, 117, 115, 112, 101, 110, 100, 32, 51]) w4 (by rw [mk_size]; decide) (hE.below hb4 hlow) (hW.below hb4 hlow)
  rw [mk_data, lives_p1.1, lives_p1.2] at G
  refine G.mono ?_
  clear G
  rintro e w5 ⟨rfl, k5⟩
  have hb5 := hb4.trans (k5.mono hb4.size)
  replace c1 := (k5.block _ (by omega)).trans c1
  replace c2 := (k5.block _ (by omega)).trans c2
  replace at3 := at3.later k5 (Nat.le_refl _)
  have l5 := k5.size
  go_wp2_with fail
  -- the act's box
  have ha6 := below_alloc (w := w5) (.cells #[.int .u8 6, .int .i64 3, .int .i64 0, .int .i64 0] 32)
  have c11 := World.alloc_heap_new w5 (.cells #[.int .u8 6, .int .i64 3, .int .i64 0, .int .i64 0] 32)
  generalize w5.alloc (.cells #[.int .u8 6, .int .i64 3, .int .i64 0, .int .i64 0] 32) = w6 at *
  have hb6 := hb5.trans (ha6.mono hb5.size)
  replace c1 := (ha6.block _ (by omega)).trans c1
  replace c2 := (ha6.block _ (by omega)).trans c2
  replace at3 := at3.later ha6 (Nat.le_refl _)
  have l6 := (Array.getElem?_eq_some_iff.1 c11).1
  have G := parse_any (mk [115, 117, 115, 112, 101, 110, 100, 32, 51, 32, 48]) w6 (by rw [mk_size]; decide) (hE.below hb6 hlow) (hW.below hb6 hlow)
  rw [mk_data, (parse_fail lives_p2).1, (parse_fail lives_p2).2] at G
  refine G.mono ?_
  clear G
  rintro e w7 ⟨rfl, k7⟩
  have hb7 := hb6.trans (k7.mono hb6.size)
  replace c1 := (k7.block _ (by omega)).trans c1
  replace c2 := (k7.block _ (by omega)).trans c2
  replace c11 := (k7.block _ (by omega)).trans c11
  replace at3 := at3.later k7 (Nat.le_refl _)
  have l7 := k7.size
  go_wp2_with fail
  have ha8 := below_alloc (w := w7) (.cells #[.int .u8 0, .int .i64 0, .int .i64 0, .int .i64 0] 32)
  generalize w7.alloc (.cells #[.int .u8 0, .int .i64 0, .int .i64 0, .int .i64 0] 32) = w8 at *
  have hb8 := hb7.trans (ha8.mono hb7.size)
  replace c1 := (ha8.block _ (by omega)).trans c1
  replace c2 := (ha8.block _ (by omega)).trans c2
  replace c11 := (ha8.block _ (by omega)).trans c11
  replace at3 := at3.later ha8 (Nat.le_refl _)
  have l8 := ha8.size
  have G := line_any 1 1 0 0 (by decide) w8 (hE.below hb8 hlow) (hW.below hb8 hlow)
  rw [show checkE ⟨1, 1, 0, 0⟩ = 2 by decide +kernel, show lineE ⟨1, 1, 0, 0⟩ = [] by decide +kernel] at G
  refine G.mono ?_
  clear G
  rintro e w9 ⟨rfl, k9⟩
  have hb9 := hb8.trans (k9.mono hb8.size)
  replace c1 := (k9.block _ (by omega)).trans c1
  replace c2 := (k9.block _ (by omega)).trans c2
  replace c11 := (k9.block _ (by omega)).trans c11
  replace at3 := at3.later k9 (Nat.le_refl _)
  have l9 := k9.size
  go_wp2_with fail
  have G := get_any (mk [97, 100, 118, 97, 110, 99, 101, 32, 53]) w9 (by rw [mk_size]; decide) (hE.below hb9 hlow) (hW.below hb9 hlow)
  rw [mk_data, lives_end] at G
  refine G.mono ?_
  clear G
  rintro e w10 ⟨v10, rfl, own10, k10⟩
  obtain ⟨A10, cap10, rfl, at10⟩ := at_owns own10
  clear own10 at10
  have hb10 := hb9.trans (k10.mono hb9.size)
  replace c1 := (k10.block _ (by omega)).trans c1
  replace c2 := (k10.block _ (by omega)).trans c2
  replace c11 := (k10.block _ (by omega)).trans c11
  replace at3 := at3.later k10 (Nat.le_refl _)
  have l10 := k10.size
  -- the cells that the last lines read
  have q10 := cell_of_row w10 _ 0 _ _ _ c1
  have q11 := cell_of_row w10 _ 1 _ _ _ c1
  have q12 := cell_of_row w10 _ 2 _ _ _ c1
  have q13 := cell_of_row w10 _ 3 _ _ _ c1
  have q20 := cell_of_row w10 _ 0 _ _ _ c2
  have q21 := cell_of_row w10 _ 1 _ _ _ c2
  have q22 := cell_of_row w10 _ 2 _ _ _ c2
  have q23 := cell_of_row w10 _ 3 _ _ _ c2
  simp only [List.getElem?_toArray, List.getElem?_cons_zero, List.getElem?_cons_succ] at q10 q11 q12 q13 q20 q21 q22 q23
  have heq1 : (mk [97, 100, 118, 97, 110, 99, 101, 32, 53, 10, 114, 97, 105, 115, 101, 32, 48, 32, 50, 32, 55, 10]).toList = [97, 100, 118, 97, 110, 99, 101, 32, 53, 10, 114, 97, 105, 115, 101, 32, 48, 32, 50, 32, 55, 10] := by rw [Lib.toList_data, mk_data]
  go_wp2_with fail
  have ha11 := below_alloc (w := w10) (.cells #[.int .u8 1, .int .i64 0, .int .i64 5, .int .i64 0, .int .u8 2, .int .i64 0, .int .i64 2, .int .i64 7] 32)
  have c3 : (w10.alloc (.cells #[.int .u8 1, .int .i64 0, .int .i64 5, .int .i64 0, .int .u8 2, .int .i64 0, .int .i64 2, .int .i64 7] 32)).heap[w10.heap.size]? = some (.cells (actRows [⟨1, 0, 5, 0⟩, ⟨2, 0, 2, 7⟩]).toArray 32) := World.alloc_heap_new w10 _
  generalize w10.alloc (.cells #[.int .u8 1, .int .i64 0, .int .i64 5, .int .i64 0, .int .u8 2, .int .i64 0, .int .i64 2, .int .i64 7] 32) = w11 at *
  have hb11 := hb10.trans (ha11.mono hb10.size)
  have l11 := ha11.size
  have G := sameA_any [⟨1, 0, 5, 0⟩, ⟨2, 0, 2, 7⟩] [⟨1, 0, 5, 0⟩, ⟨2, 0, 2, 7⟩] A3 (some ⟨w10.heap.size, 0, none⟩) cap3 2 w11 (at3.later ha11 (Nat.le_refl _)) (at_block c3) (by decide) (by decide)
  rw [decide_eq_true rfl] at G
  refine G.mono ?_
  clear G
  rintro e w12 ⟨rfl, k12⟩
  have hb12 := hb11.trans (k12.mono hb11.size)
  replace c1 := (k12.block _ (by omega)).trans ((ha11.block _ (by omega)).trans c1)
  replace c11 := (k12.block _ (by omega)).trans ((ha11.block _ (by omega)).trans c11)
  clear q10 q11 q12 q13 q20 q21 q22 q23
  have q10 := cell_of_row w12 _ 0 _ _ _ c1
  have q11 := cell_of_row w12 _ 1 _ _ _ c1
  have q12 := cell_of_row w12 _ 2 _ _ _ c1
  have q13 := cell_of_row w12 _ 3 _ _ _ c1
  have q20 := cell_of_row w12 _ 0 _ _ _ c11
  have q21 := cell_of_row w12 _ 1 _ _ _ c11
  have q22 := cell_of_row w12 _ 2 _ _ _ c11
  have q23 := cell_of_row w12 _ 3 _ _ _ c11
  simp only [List.getElem?_toArray, List.getElem?_cons_zero, List.getElem?_cons_succ] at q10 q11 q12 q13 q20 q21 q22 q23
  have hqa : eqA ⟨6, 3, 0, 0⟩ ⟨6, 3, 0, 0⟩ = true := rfl
  go_wp2_with fail
  have G := check_any 1 0 5 0 (by decide) w12
  rw [show checkE ⟨1, 0, 5, 0⟩ = 0 by decide +kernel] at G
  refine G.mono ?_
  clear G
  rintro e w13 ⟨rfl, k13⟩
  have hb13 := hb12.trans (k13.mono hb12.size)
  go_wp2_with fail
  go_ret
  exact ⟨rfl, hb13⟩

end Go.Proofs.YtebgaglofabegaaDoor
