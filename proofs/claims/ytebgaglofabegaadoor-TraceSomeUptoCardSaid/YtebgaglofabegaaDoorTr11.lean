/-
  What the laws on traces ask for first.
-/
import Derived.Test.YtebgaglofabegaaDoorTr10
namespace Go.Proofs.YtebgaglofabegaaDoor
open Go.RowKit Go.Lib

attribute [local go_sem high] eql_mark neq_mark
attribute [local go_sem] guard_mark

def lvL : Bs := [53, 32, 114, 101, 108, 101, 97, 115, 101, 32, 51, 32, 48]
def lvT : Bs := [53, 32, 114, 101, 108, 101, 97, 115, 101, 32, 51, 32, 48, 10, 53, 32, 114, 101, 108, 101, 97, 115, 101, 32, 51, 32, 48, 10]
theorem lv1 : mlineB ⟨5, 1, 3, 0⟩ = lvL ∧ mlineE ⟨5, 1, 3, 0⟩ = 0 := by decide +kernel
theorem lv2 : tpM lvL = ⟨5, 1, 3, 0⟩ ∧ tpE lvL = 0 := by decide +kernel
theorem lv3 : tpM [53, 32, 114, 101, 108, 101, 97, 115, 101, 32, 51, 32, 32, 48] = ⟨0, 0, 0, 0⟩ ∧ tpE [53, 32, 114, 101, 108, 101, 97, 115, 101, 32, 51, 32, 32, 48] = 8 := by decide +kernel
theorem lv4 : ttB [⟨5, 1, 3, 0⟩, ⟨5, 1, 3, 0⟩] = lvT ∧ ttE [⟨5, 1, 3, 0⟩, ⟨5, 1, 3, 0⟩] = 0 := by decide +kernel
theorem lv5 : readGo (pieces lvT) [] = ([⟨5, 1, 3, 0⟩, ⟨5, 1, 3, 0⟩], 0, 0) := by decide +kernel
theorem lv6 : readGo (pieces (lvT ++ [120])) [] = ([], 3, 8) := by decide +kernel
theorem lv7 : mlineB ⟨0, 0, 0, 0⟩ = [] ∧ mlineE ⟨0, 0, 0, 0⟩ = 2 := by decide +kernel
theorem lv8 : keeps (dropOnly 1 3) [⟨5, 1, 3, 0⟩, ⟨5, 1, 3, 0⟩] = [⟨5, 1, 3, 0⟩, ⟨5, 1, 3, 0⟩] ∧ keeps (dropWithin 6 9) [⟨5, 1, 3, 0⟩, ⟨5, 1, 3, 0⟩] = [] := by decide +kernel

theorem at_blk {w : World} {b : Nat} {l : List MarkV} {t : TypeId} {f : Nat × Nat} (h : w.heap[b]? = some (.cells (markRows l).toArray t f)) : At w (some ⟨b, 0, none⟩) (markRows l) := fun _ =>
  ⟨b, 0, rfl, (Array.getElem?_eq_some_iff.1 h).1, fun j u hu => by rw [Nat.zero_add, cell_of_row w b j _ _ _ h]; simpa using hu⟩

theorem mkx : mk lvT ++ ({ data := #[120] } : ByteArray) = mk (lvT ++ [120]) := by decide +kernel

set_option maxRecDepth 100000 in
set_option maxHeartbeats 2000000 in
theorem lives21 (w : World) (hE : Env w) (hW : MarkWords w) : Calls Tryd.prog 10 #[] w fun e w' => e = .returned (.bool true) ∧ Below w.heap.size w w' := by
  have hlow := hE.low
  go_enter Tryd.func10, Tryd.ntmps10
  go_wp2_with fail
  have hb1 := below_alloc (w := w) (.cells #[.int .i64 5, .int .u8 1, .int .i64 3, .int .i64 0] 28)
  have c1 := World.alloc_heap_new w (.cells #[.int .i64 5, .int .u8 1, .int .i64 3, .int .i64 0] 28)
  generalize w.alloc (.cells #[.int .i64 5, .int .u8 1, .int .i64 3, .int .i64 0] 28) = w1 at *
  have l1 : w.heap.size < w1.heap.size := (Array.getElem?_eq_some_iff.1 c1).1
  have G := tline_any 5 1 3 0 (by decide) w1 (hE.below hb1 hlow) (hW.below hb1 hlow)
  rw [lv1.1, lv1.2] at G
  refine G.mono ?_
  clear G
  rintro e w2 ⟨rfl, k2⟩
  have hb2 := hb1.trans (k2.mono hb1.size)
  replace c1 := (k2.block _ (by omega)).trans c1
  have l2 := k2.size
  go_wp2_with fail
  have G := tparse_any (mk lvL) w2 (by rw [mk_size]; decide) (hE.below hb2 hlow) (hW.below hb2 hlow)
  rw [mk_data, lv2.1, lv2.2] at G
  refine G.mono ?_
  clear G
  rintro e w3 ⟨rfl, k3⟩
  have hb3 := hb2.trans (k3.mono hb2.size)
  replace c1 := (k3.block _ (by omega)).trans c1
  have l3 := k3.size
  go_wp2_with fail
  have ha4 := below_alloc (w := w3) (.cells #[.int .i64 5, .int .u8 1, .int .i64 3, .int .i64 0] 28)
  have c2 := World.alloc_heap_new w3 (.cells #[.int .i64 5, .int .u8 1, .int .i64 3, .int .i64 0] 28)
  generalize w3.alloc (.cells #[.int .i64 5, .int .u8 1, .int .i64 3, .int .i64 0] 28) = w4 at *
  have hb4 := hb3.trans (ha4.mono hb3.size)
  replace c1 := (ha4.block _ (by omega)).trans c1
  have l4 : w3.heap.size < w4.heap.size := (Array.getElem?_eq_some_iff.1 c2).1
  have G := tparse_any (mk [53, 32, 114, 101, 108, 101, 97, 115, 101, 32, 51, 32, 32, 48]) w4 (by rw [mk_size]; decide) (hE.below hb4 hlow) (hW.below hb4 hlow)
  rw [mk_data, lv3.1, lv3.2] at G
  refine G.mono ?_
  clear G
  rintro e w5 ⟨rfl, k5⟩
  have hb5 := hb4.trans (k5.mono hb4.size)
  replace c1 := (k5.block _ (by omega)).trans c1
  replace c2 := (k5.block _ (by omega)).trans c2
  have l5 := k5.size
  have ha6 := below_alloc (w := w5) (.cells #[.int .i64 0, .int .u8 0, .int .i64 0, .int .i64 0] 28)
  have c1' := (ha6.block _ (by omega)).trans c1
  obtain ⟨q0, q1, q2, q3, _⟩ := c4 c1'
  go_wp2_with fail
  clear q0 q1 q2 q3 c1'
  have hb7 : Below w5.heap.size w5 ((w5.alloc (.cells #[.int .i64 0, .int .u8 0, .int .i64 0, .int .i64 0] 28)).alloc (.cells #[.int .i64 5, .int .u8 1, .int .i64 3, .int .i64 0, .int .i64 5, .int .u8 1, .int .i64 3, .int .i64 0] 28)) := ha6.alloc (by simp) _
  have c3 : ((w5.alloc (.cells #[.int .i64 0, .int .u8 0, .int .i64 0, .int .i64 0] 28)).alloc (.cells #[.int .i64 5, .int .u8 1, .int .i64 3, .int .i64 0, .int .i64 5, .int .u8 1, .int .i64 3, .int .i64 0] 28)).heap[w5.heap.size + 1]? = some (.cells (markRows [⟨5, 1, 3, 0⟩, ⟨5, 1, 3, 0⟩]).toArray 28) := by
    have := World.alloc_heap_new (w5.alloc (.cells #[.int .i64 0, .int .u8 0, .int .i64 0, .int .i64 0] 28)) (.cells #[.int .i64 5, .int .u8 1, .int .i64 3, .int .i64 0, .int .i64 5, .int .u8 1, .int .i64 3, .int .i64 0] 28)
    rwa [World.size_alloc] at this
  generalize (w5.alloc (.cells #[.int .i64 0, .int .u8 0, .int .i64 0, .int .i64 0] 28)).alloc (.cells #[.int .i64 5, .int .u8 1, .int .i64 3, .int .i64 0, .int .i64 5, .int .u8 1, .int .i64 3, .int .i64 0] 28) = w7 at *
  clear ha6
  have hb7' := hb5.trans (hb7.mono hb5.size)
  replace c1 := (hb7.block _ (by omega)).trans c1
  replace c2 := (hb7.block _ (by omega)).trans c2
  have l7 := hb7.size
  have G := ttext_any [⟨5, 1, 3, 0⟩, ⟨5, 1, 3, 0⟩] (by intro a ha; simp at ha; rcases ha with rfl | rfl <;> decide) (some ⟨w5.heap.size + 1, 0, none⟩) 2 w7 (hE.below hb7' hlow) (hW.below hb7' hlow) (at_blk c3) (by decide)
  rw [lv4.1, lv4.2] at G
  refine G.mono ?_
  clear G c3
  rintro e w8 ⟨rfl, k8⟩
  have hb8 := hb7'.trans (k8.mono hb7'.size)
  replace c1 := (k8.block _ (by omega)).trans c1
  replace c2 := (k8.block _ (by omega)).trans c2
  have l8 := k8.size
  go_wp2_with fail
  have G := tread_any (mk lvT) w8 (by rw [mk_size]; decide) (hE.below hb8 hlow) (hW.below hb8 hlow)
  rw [mk_data, lv5] at G
  refine G.mono ?_
  clear G
  rintro e w9 ⟨⟨v9, rfl, own9⟩, k9⟩
  obtain ⟨A9, cap9, rfl, at9⟩ := own_at own9
  clear own9
  have hb9 := hb8.trans (k9.mono hb8.size)
  replace c1 := (k9.block _ (by omega)).trans c1
  replace c2 := (k9.block _ (by omega)).trans c2
  have l9 := k9.size
  have hsz : (mk lvT).size ≤ 28 := by rw [mk_size]; decide
  go_wp2_with fail
  have G := tread_any (mk (lvT ++ [120])) w9 (by rw [mk_size]; decide) (hE.below hb9 hlow) (hW.below hb9 hlow)
  rw [mk_data, lv6, ← mkx] at G
  refine G.mono ?_
  clear G
  rintro e w10 ⟨⟨v10, rfl, own10⟩, k10⟩
  obtain ⟨A10, cap10, rfl, _⟩ := own_at own10
  clear own10
  have hb10 := hb9.trans (k10.mono hb9.size)
  replace c1 := (k10.block _ (by omega)).trans c1
  replace c2 := (k10.block _ (by omega)).trans c2
  replace at9 := at9.later k10 (Nat.le_refl _)
  have l10 := k10.size
  have AT9 := Lib.hid at9
  clear at9
  go_wp2_with fail
  have G := tline_any 0 0 0 0 (by decide) w10 (hE.below hb10 hlow) (hW.below hb10 hlow)
  rw [lv7.1, lv7.2] at G
  refine G.mono ?_
  clear G
  rintro e w11 ⟨rfl, k11⟩
  have hb11 := hb10.trans (k11.mono hb10.size)
  replace c1 := (k11.block _ (by omega)).trans c1
  replace c2 := (k11.block _ (by omega)).trans c2
  replace AT9 := Lib.hid (AT9.out.later k11 (Nat.le_refl _))
  have l11 := k11.size
  obtain ⟨q0, q1, q2, q3, _⟩ := c4 c1
  obtain ⟨r0, r1, r2, r3, _⟩ := c4 c2
  have hqa : eqM ⟨5, 1, 3, 0⟩ ⟨5, 1, 3, 0⟩ = true := rfl
  have heqL : (mk lvL).toList = [53, 32, 114, 101, 108, 101, 97, 115, 101, 32, 51, 32, 48] := by rw [Lib.toList_data, mk_data]; rfl
  have heqT : (mk lvT).toList = [53, 32, 114, 101, 108, 101, 97, 115, 101, 32, 51, 32, 48, 10, 53, 32, 114, 101, 108, 101, 97, 115, 101, 32, 51, 32, 48, 10] := by rw [Lib.toList_data, mk_data]; rfl
  go_wp2_with fail
  have ha12 := below_alloc (w := w11) (.cells #[.int .i64 5, .int .u8 1, .int .i64 3, .int .i64 0, .int .i64 5, .int .u8 1, .int .i64 3, .int .i64 0] 28)
  have c3 : (w11.alloc (.cells #[.int .i64 5, .int .u8 1, .int .i64 3, .int .i64 0, .int .i64 5, .int .u8 1, .int .i64 3, .int .i64 0] 28)).heap[w11.heap.size]? = some (.cells (markRows [⟨5, 1, 3, 0⟩, ⟨5, 1, 3, 0⟩]).toArray 28) := World.alloc_heap_new w11 _
  generalize w11.alloc (.cells #[.int .i64 5, .int .u8 1, .int .i64 3, .int .i64 0, .int .i64 5, .int .u8 1, .int .i64 3, .int .i64 0] 28) = w12 at *
  have hb12 := hb11.trans (ha12.mono hb11.size)
  have at12 := AT9.out.later ha12 (Nat.le_refl _)
  have G := tsame_any [⟨5, 1, 3, 0⟩, ⟨5, 1, 3, 0⟩] [⟨5, 1, 3, 0⟩, ⟨5, 1, 3, 0⟩] A9 (some ⟨w11.heap.size, 0, none⟩) cap9 2 w12 at12 (at_blk c3) (by decide) (by decide)
  rw [decide_eq_true rfl] at G
  refine G.mono ?_
  clear G
  rintro e w13 ⟨rfl, k13⟩
  have hb13 := hb12.trans (k13.mono hb12.size)
  have AT13 := Lib.hid (at12.later k13 (Nat.le_refl _))
  clear at12 AT9 c1 c2 q0 q1 q2 q3 r0 r1 r2 r3
  go_wp2_with fail
  have G := only_any 1 3 [⟨5, 1, 3, 0⟩, ⟨5, 1, 3, 0⟩] A9 cap9 w13 AT13.out (by decide)
  rw [lv8.1] at G
  refine G.mono ?_
  clear G
  rintro e w14 ⟨⟨A14, c14, rfl, _⟩, k14⟩
  have hb14 := hb13.trans (k14.mono hb13.size)
  have AT14 := Lib.hid (AT13.out.later k14 (Nat.le_refl _))
  go_wp2_with fail
  have G := within_any 6 9 [⟨5, 1, 3, 0⟩, ⟨5, 1, 3, 0⟩] A9 cap9 w14 AT14.out (by decide)
  rw [lv8.2] at G
  refine G.mono ?_
  clear G
  rintro e w15 ⟨⟨A15, c15, rfl, _⟩, k15⟩
  have hb15 := hb14.trans (k15.mono hb14.size)
  go_wp2_with fail
  go_ret
  exact ⟨rfl, hb15⟩

end Go.Proofs.YtebgaglofabegaaDoor
