/-
  ScriptLines, walked.
-/
import Derived.Test.YtebgaglofabegaaDoorRf7
import Derived.Test.YtebgaglofabegaaDoorSc8
import Derived.Deep.RegionHeld3
namespace Go.Proofs.YtebgaglofabegaaDoor
open Go.RowKit Go.Lib

attribute [local go_sem high] eql_act neq_act
attribute [local go_sem] guard_act

theorem blk_after {w w' : World} {g : Nat} {o : Obj} (k : Below w.heap.size w w') (h : w.heap[g]? = some o) : w'.heap[g]? = some o :=
  (k.block g (Array.getElem?_eq_some_iff.1 h).1).trans h

theorem below_tr {w0 w w' : World} (h : Below w0.heap.size w0 w) (k : Below w.heap.size w w') : Below w0.heap.size w0 w' := h.trans (k.mono h.size)

theorem Env.drew {w : World} (h : Env w) : Env w.drew := ⟨h.low, h.maxlen, h.syn, h.rng, h.pow⟩
theorem ActWords.drew {w : World} (h : ActWords w) : ActWords w.drew := h
theorem below_drew {B : Nat} {a w : World} (h : Below B a w) : Below B a w.drew := ⟨h.os, h.tape, h.output, h.size, h.block⟩

set_option maxRecDepth 100000 in
set_option maxHeartbeats 8000000 in
theorem lines_law (k who n m : Int) (hk : 0 ≤ k) (line : ByteArray) (w : World) (hE : Env w) (hW : ActWords w) (hline : line.size ≤ 4194304) :
    Calls Tryd.prog 4 #[.agg #[.int .u8 k, .int .i64 who, .int .i64 n, .int .i64 m], .string line] w fun e w' => e = .returned (.bool true) ∧ Below w.heap.size w w' := by
  have hlow := hE.low
  go_enter Tryd.func4, Tryd.ntmps4
  go_wp2_with fail
  have h2 := World.alloc_heap_new w (.cells #[.int .u8 k, .int .i64 who, .int .i64 n, .int .i64 m] 32)
  have hb1 := below_alloc (w := w) (.cells #[.int .u8 k, .int .i64 who, .int .i64 n, .int .i64 m] 32)
  generalize w.alloc (.cells #[.int .u8 k, .int .i64 who, .int .i64 n, .int .i64 m] 32) = w1 at *
  refine (line_any k who n m hk w1 (hE.below hb1 hlow) (hW.below hb1 hlow)).mono ?_
  rintro e w2 ⟨rfl, k2⟩
  have hb2 := hb1.trans (k2.mono hb1.size)
  replace h2 := blk_after k2 h2
  obtain ⟨a0, a1, a2, a3, _⟩ := cells4 h2
  clear k2
  go_wp2_with fail
  refine (line1_any k who n m w2).mono ?_
  rintro e w3 ⟨rfl, k3⟩
  have hb3 := hb2.trans (k3.mono hb2.size)
  replace h2 := blk_after k3 h2
  clear a0 a1 a2 a3 k3
  go_wp2_with fail
  refine (parse_any line w3 hline (hE.below hb3 hlow) (hW.below hb3 hlow)).mono ?_
  rintro e w4 ⟨rfl, k4⟩
  have hb4 := hb3.trans (k4.mono hb3.size)
  replace h2 := blk_after k4 h2
  clear k4
  have P1 := fun W h => parse1_any line W hline h
  generalize parseA line.data.toList = av at *
  generalize parseE line.data.toList = ev at *
  go_wp2_with fail
  have k5 := below_alloc (w := w4) (.cells #[.int .u8 av.kind, .int .i64 av.who, .int .i64 av.n, .int .i64 av.m] 32)
  have h9 := World.alloc_heap_new w4 (.cells #[.int .u8 av.kind, .int .i64 av.who, .int .i64 av.n, .int .i64 av.m] 32)
  have hb5 := hb4.trans (k5.mono hb4.size)
  replace h2 := blk_after k5 h2
  clear k5
  generalize w4.alloc (.cells #[.int .u8 av.kind, .int .i64 av.who, .int .i64 av.n, .int .i64 av.m] 32) = w5 at *
  refine (P1 w5 (Nat.le_trans hlow hb5.size)).mono ?_
  rintro e w6 ⟨rfl, k6⟩
  have hb6 := hb5.trans (k6.mono hb5.size)
  replace h2 := blk_after k6 h2
  replace h9 := blk_after k6 h9
  clear k6 P1
  go_wp2_with fail
  have k7 := below_alloc (w := w6) (.cells #[.int .u8 av.kind, .int .i64 av.who, .int .i64 av.n, .int .i64 av.m] 32)
  have h11 := World.alloc_heap_new w6 (.cells #[.int .u8 av.kind, .int .i64 av.who, .int .i64 av.n, .int .i64 av.m] 32)
  have hb7 := hb6.trans (k7.mono hb6.size)
  replace h2 := blk_after k7 h2
  replace h9 := blk_after k7 h9
  clear k7 hb1 hb2 hb3 hb4 hb5 hb6
  generalize w6.alloc (.cells #[.int .u8 av.kind, .int .i64 av.who, .int .i64 av.n, .int .i64 av.m] 32) = w7 at *
  obtain ⟨p0, p1, p2, p3, _⟩ := cells4 h2
  obtain ⟨s0, s1, s2, s3, _⟩ := cells4 h9
  obtain ⟨t0, t1, t2, t3, _⟩ := cells4 h11
  have l2 := (Array.getElem?_eq_some_iff.1 h2).1
  have l9 := (Array.getElem?_eq_some_iff.1 h9).1
  have l11 := (Array.getElem?_eq_some_iff.1 h11).1
  have hEW : ∀ W, Below w7.heap.size w7 W → Env W ∧ ActWords W := fun W hW7 => ⟨(hE.below hb7 hlow).below hW7 (Nat.le_trans hlow hb7.size), (hW.below hb7 hlow).below hW7 (Nat.le_trans hlow hb7.size)⟩
  have hcl : ∀ W b o, Below w7.heap.size w7 W → b < w7.heap.size → W.cell? ⟨b, o, none⟩ = w7.cell? ⟨b, o, none⟩ := fun W b o hW7 hb => hW7.cell (p := ⟨b, o, none⟩) hb
  have hqA : eqA ⟨av.kind, av.who, av.n, av.m⟩ ⟨av.kind, av.who, av.n, av.m⟩ = true := decide_eq_true rfl
  have hsl : ((mk (lineE ⟨k, who, n, m⟩)).toList == (mk (lineE ⟨k, who, n, m⟩)).toList) = true := beq_self_eq_true _
  clear h2 h9 h11 hE hW
  go_region_held3 (fun w' => Below w7.heap.size w7 w') (first | assumption | exact below_drew (Below.refl _ _) | exact below_drew (by assumption)) (first
    | (go_at_call 17; refine (lives31 _ (hEW _ (by assumption)).1 (hEW _ (by assumption)).2).mono ?_; rintro e wz ⟨rfl, kz⟩; have zB := below_tr (w0 := w7) (by assumption) kz; clear kz)
    | (go_at_call 18; refine (check_any k who n m hk _).mono ?_; rintro e wz ⟨rfl, kz⟩; have zB := below_tr (w0 := w7) (by assumption) kz; clear kz)
    | (go_at_call 19; refine (check1_any k who n m _).mono ?_; rintro e wz ⟨rfl, kz⟩; have zB := below_tr (w0 := w7) (by assumption) kz; clear kz))
  all_goals
    go_wp2_with fail
    go_ret
    exact ⟨rfl, hb7.trans (Below.mono (B := w7.heap.size) (by assumption) hb7.size)⟩

end Go.Proofs.YtebgaglofabegaaDoor
