/-
  The walk of script's put.
-/
import Derived.Test.YtebgaglofabegaaDoorSc1
namespace Go.Proofs.YtebgaglofabegaaDoor
open Go.RowKit Go.Lib

theorem info_u8 : (Tryd.prog.info? 5).map (fun i => (i.zero, i.size, i.bytes)) = some (some (.int .u8 0), 1, 1) := by kernel_rfl

/-- Bytes that a call writes behind those that it was handed: the row, what lay before, and the block of the act that was handed over. -/
structure PutSt (B nb : Nat) (xs : List Value) (box : Array Value) (W0 : World) (l : Bs) (v : Value) (w : World) : Prop where
  own : w.ownsRow B 5 1 v (nb + l.length) (xs ++ byteCells l)
  below : Below B W0 w
  kept : OthersKept 5 none W0 w
  low : B ≤ w.heap.size
  box : w.heap[W0.heap.size]? = some (.cells box 32 (0, 0))

theorem PutSt.cell {B nb : Nat} {xs : List Value} {box : Array Value} {W0 : World} {l : Bs} {v : Value} {w : World} (h : PutSt B nb xs box W0 l v w) (j : Nat) : w.cell? ⟨W0.heap.size, j, none⟩ = box[j]? := by
  rw [cell_of_row w W0.heap.size j box _ _ h.box]

theorem put_start {B nb : Nat} {xs : List Value} {sv : Value} {w w1 : World} {box : Array Value} {v1 : Value} (l : Bs) (hown : w.ownsRow B 5 1 sv nb xs) (hB : B ≤ w.heap.size)
    (h1 : w1.ownsRow B 5 1 v1 (nb + (mk l).size) (xs ++ strCells (mk l))) (hg : (w.alloc (.cells box 32)).grownBy w1 sv.ownBlock) : PutSt B nb xs box w l v1 w1 where
  own := by rw [mk_size] at h1; exact h1
  below := ((Below.refl B w).alloc hB _).grown hg (by simp; omega) (fun k hk => (hown.lt k hk).1)
  kept := by
    refine ((OthersKept.refl _ _ w).alloc _).grown hg (fun g hgg => ?_)
    obtain ⟨c, fz, hc⟩ := ownsRow_kind (hown.alloc _) g hgg
    exact ⟨c, fz, hc⟩
  low := by have := hg.size; simp at this; omega
  box := by
    rw [hg.block w.heap.size (by simp) (fun e => by have := (hown.lt _ e.symm).2; omega)]
    exact heap_alloc_new w _


theorem putSt_step {B nb : Nat} {xs : List Value} {box : Array Value} {W0 : World} {l : Bs} {v v2 : Value} {w w1 w2 : World} {i : Int} (h : PutSt B nb xs box W0 l v w)
    (hg : (w.alloc (.cells #[.int .u8 32] 5)).drew.grownBy w1 v.ownBlock)
    (h2 : w2.ownsRow B 5 1 v2 (nb + l.length + 1 + (itoa i).length) (((xs ++ byteCells l) ++ [.int .u8 32]) ++ byteCells (itoa i))) (hb : Below B w1 w2) (hk : OthersKept 5 none w1 w2) :
    PutSt B nb xs box W0 (l ++ 32 :: itoa i) v2 w2 where
  own := by
    have e1 : nb + (l ++ 32 :: itoa i).length = nb + l.length + 1 + (itoa i).length := by simp; omega
    have e2 : xs ++ byteCells (l ++ 32 :: itoa i) = ((xs ++ byteCells l) ++ [.int .u8 32]) ++ byteCells (itoa i) := by simp [byteCells]
    rw [e1, e2]; exact h2
  below := h.below.trans (((((Below.refl B w).alloc h.low _).drew).grown hg (by have := h.low; simp; omega) (fun k hk => (h.own.lt k hk).1)).trans hb)
  kept := by
    have a : OthersKept 5 none w w1 := by
      refine (((OthersKept.refl _ _ w).alloc _).drew).grown hg (fun g hgg => ?_)
      obtain ⟨c, fz, hc⟩ := ownsRow_kind ((h.own.alloc _).drew) g hgg
      exact ⟨c, fz, hc⟩
    exact h.kept.trans (a.trans hk)
  low := by have := hg.size; have := hb.size; have := h.low; simp at *; omega
  box := by
    have hlt : W0.heap.size < w.heap.size := (Array.getElem?_eq_some_iff.1 h.box).1
    have h3 : w1.heap[W0.heap.size]? = some (.cells box 32 (0, 0)) := by
      rw [hg.block W0.heap.size (by simp; omega) (fun e => ?_)]
      · exact (Below.heap_alloc _ _ _ hlt).trans h.box
      · obtain ⟨c, fz, hc⟩ := ownsRow_kind h.own _ e.symm
        rw [h.box] at hc
        cases hc
    exact hk _ _ h3 (fun e => by cases e) (fun c fz e => by cases e)

theorem actLine_parts (k who n m : Int) : ((actWord k ++ (if k = 1 then [] else 32 :: itoa who)) ++ (if k = 1 ∨ k = 2 ∨ k = 3 ∨ k = 4 ∨ k = 5 then 32 :: itoa n else [])) ++ (if k = 2 ∨ k = 4 then 32 :: itoa m else []) = actLine ⟨k, who, n, m⟩ := by
  unfold actLine actNums sayNums
  by_cases h1 : k = 1
  · subst h1; simp
  by_cases h2 : k = 2 ∨ k = 4
  · rw [if_neg h1, if_pos (by omega), if_pos h2]; simp only [if_neg h1, if_pos h2]; simp
  by_cases h3 : k = 3 ∨ k = 5
  · rw [if_neg h1, if_pos (by omega), if_neg h2]; simp only [if_neg h1, if_neg h2, if_pos h3]; simp
  · rw [if_neg h1, if_neg (by omega), if_neg h2]; simp only [if_neg h1, if_neg h2, if_neg h3]; simp

theorem itoa_len (n : Int) (h0 : -9223372036854775808 ≤ n) (h1 : n ≤ 9223372036854775807) : (itoa n).length ≤ 20 := by
  unfold itoa
  split
  · have := decDigits_len_le n.natAbs (by simp only [Nat.reducePow]; omega)
    simp only [List.length_cons]; omega
  · have := decDigits_len_le n.toNat (by simp only [Nat.reducePow]; omega)
    omega

set_option maxRecDepth 100000 in
set_option maxHeartbeats 1600000 in
theorem put_any (B nb : Nat) (sv : Value) (xs : List Value) (k who n m : Int) (hk : 1 ≤ k) (hk7 : k ≤ 7) (hw0 : 0 ≤ who) (hw1 : who ≤ 63) (hn : timeP n) (hm : timeP m) (w : World)
    (hE : Env w) (hWd : ActWords w) (hown : w.ownsRow B 5 1 sv nb xs) (hB : B ≤ w.heap.size) (hBg : 10 ≤ B) (hlim : nb + 200 ≤ 140737488355328) :
    Calls Tryd.prog 42 #[sv, .agg #[.int .u8 k, .int .i64 who, .int .i64 n, .int .i64 m]] w fun e w' => ∃ v', e = .returned v' ∧ w'.ownsRow B 5 1 v' (nb + (actLine ⟨k, who, n, m⟩).length) (xs ++ byteCells (actLine ⟨k, who, n, m⟩)) ∧ Below B w w' ∧ OthersKept 5 none w w' := by
  have hc : (w.alloc (.cells #[.int .u8 k, .int .i64 who, .int .i64 n, .int .i64 m] 32)).cell? ⟨0, k.toNat, none⟩ = some (.string (mk (actWord k))) := by
    rw [((Below.refl w.heap.size w).alloc (Nat.le_refl _) _).cell (by have := hE.low; simp only; omega)]
    exact hWd k (by omega) (by omega)
  have hb0 : (0 : Int) ≤ k := by omega
  have hb1 : k < 8 := by omega
  have hlen : (mk (actWord k)).size ≤ 10 := by rw [mk_size]; unfold actWord; (repeat' split) <;> simp
  obtain ⟨i0, hi, hz0, hz1, hz2⟩ := info_parts info_u8
  go_enter Tryd.func42, Tryd.ntmps42
  go_upto_if 16 with (first | (go_at_call 47; refine (lines_any _ _).mono ?_; rintro e w' ⟨rfl, rfl⟩) | (go_at_call 49; refine (has_who _ _).mono ?_; rintro e w' ⟨rfl, rfl⟩) | (at_builtin; refine wpList_append_own_string _ rfl _ _ 72 9 rfl B 5 i0 Tryd.underlying72 Tryd.underlying9 hi hz0 hz1 hz2 _ _ _ rfl (hown.alloc _) _ rfl (by unfold maxLen; omega) (by omega) (by simp; omega) ?_; intro v1 w1 hown1 hgrow1 _; have hp := put_start _ hown hB hown1 hgrow1; clear hown1 hgrow1 hc))
  go_cut [0] (fun s0 wx => PutSt B nb xs #[.int .u8 k, .int .i64 who, .int .i64 n, .int .i64 m] w (actWord k ++ (if k = 1 then [] else 32 :: itoa who)) s0 wx)
  case first =>
    have hsl : (actWord k).length ≤ 10 := by rw [mk_size] at hlen; exact hlen
    have hc1 := hp.cell 1
    simp only [List.getElem?_toArray, List.getElem?_cons_succ, List.getElem?_cons_zero] at hc1
    have hne : some w.heap.size ≠ (v1).ownBlock := fun e => by
      obtain ⟨c, fz, hcc⟩ := ownsRow_kind hp.own _ e.symm
      rw [hp.box] at hcc
      cases hcc
    have hlt : w.heap.size < (w1).heap.size := (Array.getElem?_eq_some_iff.1 hp.box).1
    have hr0 : -9223372036854775808 ≤ who := by unfold timeP at hn hm; omega
    have hr1 : who ≤ 9223372036854775807 := by unfold timeP at hn hm; omega
    have hr2 : nb + List.length (actWord k) + 1 + 21 ≤ 140737488355328 := by omega
    go_wp2_with fail
    rotate_left
    · go_meet
      have h1 : k = 1 := by (have h := ‹(!decide (k = 1)) = false›; simpa using h)
      rw [if_pos h1, List.append_nil]; exact hp
    · go_region_held3 (fun w' => w'.cell? ⟨w.heap.size, 1, none⟩ = some (.int .i64 who)) (first | go_keep | assumption)
        (first
          | (refine step_append_lies _ (by rfl) _ _ _ (by rfl) B 5 i0 (.int .u8 0) 1 1 Tryd.underlying72 hi hz0 hz1 hz2 rfl (by omega) v1 _ _ (by rfl) ((hp.own.alloc _).drew) ⟨(w1).heap.size, 0, none⟩ 1 1 [.int .u8 32] (by rfl) (by rfl) (World.news_of_block (cs := #[.int .u8 32]) (t := 5) (fr := (0, 0)) (heap_alloc_new w1 _)) (by simp [Value.oneCell']) (by omega) (by unfold maxLen; omega) (by omega) (by have := hp.low; simp; omega) ((w1).heap.size + 1) (by simp) ?_; intro gg cap w2 hown2 hgrow2 hat hlt2; have hS2 := hgrow2.cell (by assumption) hne; have hb2 : Below B w1 w2 := (((Below.refl B w1).alloc hp.low _).drew).grown hgrow2 (by have := hp.low; simp; omega) (fun k hk => (hp.own.lt k hk).1); have hB2 : B ≤ w2.heap.size := Nat.le_trans hp.low hb2.size; have htab := ((hE.below hp.below hBg).below hb2 hBg).tab hBg)
          | (go_at_call 72; refine (Tryd.strconv_AppendInt_10 B _ who hr0 hr1 _ _ _ hown2 hB2 hr2 htab).mono ?_; rintro e w3 ⟨v3, rfl, hown3, hb3, hk3⟩; have hp3 := putSt_step hp hgrow2 hown3 hb3 hk3; have hS3 := hp3.cell 1; simp only [List.getElem?_toArray, List.getElem?_cons_succ, List.getElem?_cons_zero] at hS3))
      go_wp2_with fail
      go_meet
      have h1 : ¬ k = 1 := by (have h := ‹(!decide (k = 1)) = true›; simpa using h)
      rw [if_neg h1]; exact hp3
  case rest =>
    obtain ⟨l1, hl1⟩ : ∃ l1, l1 = actWord k ++ (if k = 1 then [] else 32 :: itoa who) := ⟨_, rfl⟩
    rw [← hl1] at hcut
    have hl1n : l1.length ≤ 40 := by
      rw [hl1]
      have := itoa_len who (by omega) (by omega)
      rw [mk_size] at hlen
      split <;> simp <;> omega
    have Hl1 := Lib.hid hl1
    clear hl1 hp hlen
    go_upto_if 24 with (first | (go_at_call 49; refine (has_much _ _).mono ?_; rintro e w' ⟨rfl, rfl⟩))
    go_cut [0] (fun s0 wx => PutSt B nb xs #[.int .u8 k, .int .i64 who, .int .i64 n, .int .i64 m] w (l1 ++ (if k = 1 ∨ k = 2 ∨ k = 3 ∨ k = 4 ∨ k = 5 then 32 :: itoa n else [])) s0 wx)
    case first =>
      have hc1 := hcut.cell 2
      simp only [List.getElem?_toArray, List.getElem?_cons_succ, List.getElem?_cons_zero] at hc1
      have hne : some w.heap.size ≠ (u0).ownBlock := fun e => by
        obtain ⟨c, fz, hcc⟩ := ownsRow_kind hcut.own _ e.symm
        rw [hcut.box] at hcc
        cases hcc
      have hlt : w.heap.size < (wc).heap.size := (Array.getElem?_eq_some_iff.1 hcut.box).1
      have hr0 : -9223372036854775808 ≤ n := by unfold timeP at hn hm; omega
      have hr1 : n ≤ 9223372036854775807 := by unfold timeP at hn hm; omega
      have hr2 : nb + List.length (l1) + 1 + 21 ≤ 140737488355328 := by omega
      go_wp2_with fail
      rotate_left
      · go_meet
        have h1 : ¬ (k = 1 ∨ k = 2 ∨ k = 3 ∨ k = 4 ∨ k = 5) := by first | assumption | omega
        rw [if_neg h1, List.append_nil]; exact hcut
      · go_region_held3 (fun w' => w'.cell? ⟨w.heap.size, 2, none⟩ = some (.int .i64 n)) (first | go_keep | assumption)
          (first
            | (refine step_append_lies _ (by rfl) _ _ _ (by rfl) B 5 i0 (.int .u8 0) 1 1 Tryd.underlying72 hi hz0 hz1 hz2 rfl (by omega) u0 _ _ (by rfl) ((hcut.own.alloc _).drew) ⟨(wc).heap.size, 0, none⟩ 1 1 [.int .u8 32] (by rfl) (by rfl) (World.news_of_block (cs := #[.int .u8 32]) (t := 5) (fr := (0, 0)) (heap_alloc_new wc _)) (by simp [Value.oneCell']) (by omega) (by unfold maxLen; omega) (by omega) (by have := hcut.low; simp; omega) ((wc).heap.size + 1) (by simp) ?_; intro gg cap w2 hown2 hgrow2 hat hlt2; have hS2 := hgrow2.cell (by assumption) hne; have hb2 : Below B wc w2 := (((Below.refl B wc).alloc hcut.low _).drew).grown hgrow2 (by have := hcut.low; simp; omega) (fun k hk => (hcut.own.lt k hk).1); have hB2 : B ≤ w2.heap.size := Nat.le_trans hcut.low hb2.size; have htab := ((hE.below hcut.below hBg).below hb2 hBg).tab hBg)
            | (go_at_call 72; refine (Tryd.strconv_AppendInt_10 B _ n hr0 hr1 _ _ _ hown2 hB2 hr2 htab).mono ?_; rintro e w3 ⟨v3, rfl, hown3, hb3, hk3⟩; have hp3 := putSt_step hcut hgrow2 hown3 hb3 hk3; have hS3 := hp3.cell 2; simp only [List.getElem?_toArray, List.getElem?_cons_succ, List.getElem?_cons_zero] at hS3))
        go_wp2_with fail
        go_meet
        have h1 : k = 1 ∨ k = 2 ∨ k = 3 ∨ k = 4 ∨ k = 5 := by first | assumption | omega
        rw [if_pos h1]; exact hp3
    case rest =>
      obtain ⟨l2, hl2⟩ : ∃ l2, l2 = l1 ++ (if k = 1 ∨ k = 2 ∨ k = 3 ∨ k = 4 ∨ k = 5 then 32 :: itoa n else []) := ⟨_, rfl⟩
      rw [← hl2] at hcut
      have hl2n : l2.length ≤ 70 := by
        rw [hl2]
        unfold timeP at hn
        have := itoa_len n (by omega) (by omega)
        split <;> simp <;> omega
      have Hl2 := Lib.hid hl2
      clear hl2
      go_upto_if 32 with (first | (go_at_call 49; refine (has_more _ _).mono ?_; rintro e w' ⟨rfl, rfl⟩))
      go_cut [0] (fun s0 wx => PutSt B nb xs #[.int .u8 k, .int .i64 who, .int .i64 n, .int .i64 m] w (l2 ++ (if k = 2 ∨ k = 4 then 32 :: itoa m else [])) s0 wx)
      case first =>
        have hc1 := hcut.cell 3
        simp only [List.getElem?_toArray, List.getElem?_cons_succ, List.getElem?_cons_zero] at hc1
        have hne : some w.heap.size ≠ (u0).ownBlock := fun e => by
          obtain ⟨c, fz, hcc⟩ := ownsRow_kind hcut.own _ e.symm
          rw [hcut.box] at hcc
          cases hcc
        have hlt : w.heap.size < (wc).heap.size := (Array.getElem?_eq_some_iff.1 hcut.box).1
        have hr0 : -9223372036854775808 ≤ m := by unfold timeP at hn hm; omega
        have hr1 : m ≤ 9223372036854775807 := by unfold timeP at hn hm; omega
        have hr2 : nb + List.length (l2) + 1 + 21 ≤ 140737488355328 := by omega
        go_wp2_with fail
        rotate_left
        · go_meet
          have h1 : ¬ (k = 2 ∨ k = 4) := by first | assumption | omega
          rw [if_neg h1, List.append_nil]; exact hcut
        · go_region_held3 (fun w' => w'.cell? ⟨w.heap.size, 3, none⟩ = some (.int .i64 m)) (first | go_keep | assumption)
            (first
              | (refine step_append_lies _ (by rfl) _ _ _ (by rfl) B 5 i0 (.int .u8 0) 1 1 Tryd.underlying72 hi hz0 hz1 hz2 rfl (by omega) u0 _ _ (by rfl) ((hcut.own.alloc _).drew) ⟨(wc).heap.size, 0, none⟩ 1 1 [.int .u8 32] (by rfl) (by rfl) (World.news_of_block (cs := #[.int .u8 32]) (t := 5) (fr := (0, 0)) (heap_alloc_new wc _)) (by simp [Value.oneCell']) (by omega) (by unfold maxLen; omega) (by omega) (by have := hcut.low; simp; omega) ((wc).heap.size + 1) (by simp) ?_; intro gg cap w2 hown2 hgrow2 hat hlt2; have hS2 := hgrow2.cell (by assumption) hne; have hb2 : Below B wc w2 := (((Below.refl B wc).alloc hcut.low _).drew).grown hgrow2 (by have := hcut.low; simp; omega) (fun k hk => (hcut.own.lt k hk).1); have hB2 : B ≤ w2.heap.size := Nat.le_trans hcut.low hb2.size; have htab := ((hE.below hcut.below hBg).below hb2 hBg).tab hBg)
              | (go_at_call 72; refine (Tryd.strconv_AppendInt_10 B _ m hr0 hr1 _ _ _ hown2 hB2 hr2 htab).mono ?_; rintro e w3 ⟨v3, rfl, hown3, hb3, hk3⟩; have hp3 := putSt_step hcut hgrow2 hown3 hb3 hk3; have hS3 := hp3.cell 3; simp only [List.getElem?_toArray, List.getElem?_cons_succ, List.getElem?_cons_zero] at hS3))
          go_wp2_with fail
          go_meet
          have h1 : k = 2 ∨ k = 4 := by first | assumption | omega
          rw [if_pos h1]; exact hp3
      case rest =>
        have hfin : l2 ++ (if k = 2 ∨ k = 4 then 32 :: itoa m else []) = actLine ⟨k, who, n, m⟩ := by
          rw [Hl2.out, Hl1.out]
          exact actLine_parts k who n m
        rw [hfin] at hcut
        clear hfin
        go_wp2_with fail
        go_ret
        exact ⟨u0, rfl, hcut.own, hcut.below, hcut.kept⟩

end Go.Proofs.YtebgaglofabegaaDoor
