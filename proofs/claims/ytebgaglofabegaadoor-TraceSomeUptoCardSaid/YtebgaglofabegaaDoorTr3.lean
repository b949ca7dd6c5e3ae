/-
  trace.put, walked.
-/
import Derived.Test.YtebgaglofabegaaDoorTr2
namespace Go.Proofs.YtebgaglofabegaaDoor
open Go.RowKit Go.Lib

structure PutM (B nb : Nat) (xs : List Value) (box : Array Value) (W0 : World) (l : Bs) (v : Value) (w : World) : Prop where
  own : w.ownsRow B 5 1 v (nb + l.length) (xs ++ byteCells l)
  below : Below B W0 w
  low : B ≤ w.heap.size
  box : w.heap[W0.heap.size]? = some (.cells box 28 (0, 0))

theorem PutM.cell {B nb : Nat} {xs : List Value} {box : Array Value} {W0 : World} {l : Bs} {v : Value} {w : World} (h : PutM B nb xs box W0 l v w) (j : Nat) : w.cell? ⟨W0.heap.size, j, none⟩ = box[j]? := by
  rw [cell_of_row w W0.heap.size j box _ _ h.box]

theorem PutM.start {B nb : Nat} {xs : List Value} {box : Array Value} {sv : Value} {w : World} (hown : w.ownsRow B 5 1 sv nb xs) (hB : B ≤ w.heap.size) : PutM B nb xs box w [] sv (w.alloc (.cells box 28)) where
  own := by simpa [byteCells] using hown.alloc (.cells box 28)
  below := (Below.refl B w).alloc hB _
  low := by simp; omega
  box := heap_alloc_new w _

theorem PutM.int {B nb : Nat} {xs : List Value} {box : Array Value} {W0 : World} {l : Bs} {v v2 : Value} {w w2 : World} {i : Int} (h : PutM B nb xs box W0 l v w)
    (h2 : w2.ownsRow B 5 1 v2 (nb + l.length + (itoa i).length) ((xs ++ byteCells l) ++ byteCells (itoa i))) (hb : Below B w w2) (hk : OthersKept 5 none w w2) : PutM B nb xs box W0 (l ++ itoa i) v2 w2 where
  own := by
    have e1 : nb + (l ++ itoa i).length = nb + l.length + (itoa i).length := by simp; omega
    have e2 : xs ++ byteCells (l ++ itoa i) = (xs ++ byteCells l) ++ byteCells (itoa i) := by simp [byteCells]
    rw [e1, e2]; exact h2
  below := h.below.trans hb
  low := Nat.le_trans h.low hb.size
  box := hk _ _ h.box (fun e => by cases e) (fun c fz e => by cases e)

theorem PutM.app {B nb : Nat} {xs : List Value} {box : Array Value} {W0 : World} {l r : Bs} {v v2 : Value} {w w2 : World} {tmp : Obj} (h : PutM B nb xs box W0 l v w)
    (h2 : w2.ownsRow B 5 1 v2 (nb + l.length + r.length) ((xs ++ byteCells l) ++ byteCells r)) (hg : (w.alloc tmp).grownBy w2 v.ownBlock) : PutM B nb xs box W0 (l ++ r) v2 w2 where
  own := by
    have e1 : nb + (l ++ r).length = nb + l.length + r.length := by simp; omega
    have e2 : xs ++ byteCells (l ++ r) = (xs ++ byteCells l) ++ byteCells r := by simp [byteCells]
    rw [e1, e2]; exact h2
  below := h.below.trans (((Below.refl B w).alloc h.low _).grown hg (by have := h.low; simp; omega) (fun k hk => (h.own.lt k hk).1))
  low := by have := hg.size; have := h.low; simp at *; omega
  box := by
    have hlt : W0.heap.size < w.heap.size := (Array.getElem?_eq_some_iff.1 h.box).1
    rw [hg.block W0.heap.size (by simp; omega) (fun e => ?_)]
    · exact (Below.heap_alloc _ _ _ hlt).trans h.box
    · obtain ⟨c, fz, hc⟩ := ownsRow_kind h.own _ e.symm
      rw [h.box] at hc
      cases hc

theorem PutM.str {B nb : Nat} {xs : List Value} {box : Array Value} {W0 : World} {l r : Bs} {v v2 : Value} {w w2 : World} (h : PutM B nb xs box W0 l v w)
    (h2 : w2.ownsRow B 5 1 v2 (nb + l.length + r.length) ((xs ++ byteCells l) ++ byteCells r)) (hg : w.grownBy w2 v.ownBlock) : PutM B nb xs box W0 (l ++ r) v2 w2 where
  own := by
    have e1 : nb + (l ++ r).length = nb + l.length + r.length := by simp; omega
    have e2 : xs ++ byteCells (l ++ r) = (xs ++ byteCells l) ++ byteCells r := by simp [byteCells]
    rw [e1, e2]; exact h2
  below := h.below.trans ((Below.refl B w).grown hg h.low (fun k hk => (h.own.lt k hk).1))
  low := Nat.le_trans h.low hg.size
  box := by
    rw [hg.block W0.heap.size (Array.getElem?_eq_some_iff.1 h.box).1 (fun e => ?_)]
    · exact h.box
    · obtain ⟨c, fz, hc⟩ := ownsRow_kind h.own _ e.symm
      rw [h.box] at hc
      cases hc

theorem PutM.blank {B nb : Nat} {xs : List Value} {box : Array Value} {W0 : World} {l : Bs} {v v2 : Value} {w w2 : World} {tmp : Obj} (h : PutM B nb xs box W0 l v w)
    (h2 : w2.ownsRow B 5 1 v2 (nb + l.length + 1) ((xs ++ byteCells l) ++ [.int .u8 32])) (hg : (w.alloc tmp).grownBy w2 v.ownBlock) : PutM B nb xs box W0 (l ++ [32]) v2 w2 :=
  h.app (r := [32]) h2 hg

theorem putM_word {B nb : Nat} {xs : List Value} {box : Array Value} {W0 : World} {l r : Bs} {v v2 : Value} {w w2 : World} (h : PutM B nb xs box W0 l v w)
    (h2 : w2.ownsRow B 5 1 v2 (nb + l.length + (mk r).size) ((xs ++ byteCells l) ++ strCells (mk r))) (hg : w.grownBy w2 v.ownBlock) : PutM B nb xs box W0 (l ++ r) v2 w2 :=
  PutM.str (r := r) h (by rw [mk_size] at h2; exact h2) hg

/-- What a walk asks of the fields. -/
theorem PutM.field {B nb : Nat} {xs : List Value} {W0 : World} {l : Bs} {v : Value} {w : World} {t k who a : Int} (h : PutM B nb xs #[.int .i64 t, .int .u8 k, .int .i64 who, .int .i64 a] W0 l v w) :
    w.cell? ⟨W0.heap.size, 0, none⟩ = some (.int .i64 t) ∧ w.cell? ⟨W0.heap.size, 1, none⟩ = some (.int .u8 k) ∧ w.cell? ⟨W0.heap.size, 2, none⟩ = some (.int .i64 who) ∧ w.cell? ⟨W0.heap.size, 3, none⟩ = some (.int .i64 a) :=
  ⟨h.cell 0, h.cell 1, h.cell 2, h.cell 3⟩

theorem markWord_len (k : Int) : (markWord k).length ≤ 8 := by unfold markWord; (repeat' split) <;> decide

set_option maxRecDepth 100000 in
set_option maxHeartbeats 2000000 in
theorem tput_any (B nb : Nat) (sv : Value) (xs : List Value) (t k who a : Int) (hk : 1 ≤ k) (hk7 : k ≤ 11) (hw0 : 0 ≤ who) (hw1 : who ≤ 63) (ht : timeP t) (ha : timeP a) (w : World)
    (hE : Env w) (hWd : MarkWords w) (hown : w.ownsRow B 5 1 sv nb xs) (hB : B ≤ w.heap.size) (hBg : 10 ≤ B) (hlim : nb + 300 ≤ 140737488355328) :
    Calls Tryd.prog 67 #[sv, .agg #[.int .i64 t, .int .u8 k, .int .i64 who, .int .i64 a]] w fun e w' => ∃ v', e = .returned v' ∧ w'.ownsRow B 5 1 v' (nb + (markLine ⟨t, k, who, a⟩).length) (xs ++ byteCells (markLine ⟨t, k, who, a⟩)) ∧ Below B w w' := by
  have ht1 := ht
  have ha1 := ha
  unfold timeP at ht1 ha1
  obtain ⟨i0, hi, hz0, hz1, hz2⟩ := info_parts info_u8
  have p0 := PutM.start (box := #[.int .i64 t, .int .u8 k, .int .i64 who, .int .i64 a]) hown hB
  have q0 := p0.cell 0
  simp only [List.getElem?_toArray, List.getElem?_cons_zero] at q0
  have l1 := itoa_len t (by omega) (by omega)
  have l2 := itoa_len who (by omega) (by omega)
  have l3 := itoa_len a (by omega) (by omega)
  have l4 := markWord_len k
  have o0 := hown.alloc (.cells #[.int .i64 t, .int .u8 k, .int .i64 who, .int .i64 a] 28)
  go_enter Tryd.func67, Tryd.ntmps67
  go_wp2_with fail
  refine (Tryd.strconv_AppendInt_10 B nb t (by omega) (by omega) _ xs _ o0 p0.low (by omega) (((hE.below p0.below hBg).tab hBg))).mono ?_
  rintro e w1 ⟨v1, rfl, own1, hb1, hk1⟩
  have p1 := p0.int (i := t) (by simpa [byteCells] using own1) hb1 hk1
  rw [List.nil_append] at p1
  have z1 := p1.low
  clear own1 hb1 hk1 q0 o0
  have y1 : (itoa t ++ [32]).length ≤ 21 := by simp; omega
  have y2 : (mk (markWord k)).size ≤ 8 := by rw [mk_size]; exact l4
  have y3 : ((itoa t ++ [32]) ++ markWord k).length ≤ 29 := by simp; omega
  have y4 : (((itoa t ++ [32]) ++ markWord k) ++ [32]).length ≤ 30 := by simp; omega
  have y5 : ((((itoa t ++ [32]) ++ markWord k) ++ [32]) ++ itoa who).length ≤ 50 := by simp; omega
  have y6 : (((((itoa t ++ [32]) ++ markWord k) ++ [32]) ++ itoa who) ++ [32]).length ≤ 51 := by simp; omega
  go_wp2_with (first
    | (at_builtin; refine wpList_append_own _ rfl _ _ 72 rfl B 5 i0 (.int .u8 0) 1 1 Tryd.underlying72 hi hz0 hz1 hz2 rfl (by omega) v1 _ _ rfl ((p1.own).alloc _) ⟨(w1).heap.size, 0, none⟩ 1 1 [.int .u8 32] rfl rfl (cell_one_new _ _ _) (by simp [Value.oneCell']) (by unfold maxLen; omega) (by omega) (by simp; omega) ?_; intro v2 w2 own2 hg2 _; have p2 := p1.blank own2 hg2; obtain ⟨_, q2, _, _⟩ := p2.field; have c2 := (hWd.below p2.below hBg) k (by omega) (by omega); have z2 := p2.low; clear own2 hg2 p1)
    | (at_builtin; refine wpList_append_own_string _ rfl _ _ 72 9 rfl B 5 i0 Tryd.underlying72 Tryd.underlying9 hi hz0 hz1 hz2 v2 _ _ rfl p2.own _ rfl (by unfold maxLen; omega) (by omega) (by omega) ?_; intro v3 w3 own3 hg3 _; have p3 := putM_word p2 own3 hg3; have z3 := p3.low; clear own3 hg3 p2 c2 q2)
    | (at_builtin; refine wpList_append_own _ rfl _ _ 72 rfl B 5 i0 (.int .u8 0) 1 1 Tryd.underlying72 hi hz0 hz1 hz2 rfl (by omega) v3 _ _ rfl ((p3.own).alloc _) ⟨(w3).heap.size, 0, none⟩ 1 1 [.int .u8 32] rfl rfl (cell_one_new _ _ _) (by simp [Value.oneCell']) (by unfold maxLen; omega) (by omega) (by simp; omega) ?_; intro v4 w4 own4 hg4 _; have p4 := p3.blank own4 hg4; obtain ⟨_, _, q4, _⟩ := p4.field; have z4 := p4.low; clear own4 hg4 p3)
    )
  refine (Tryd.strconv_AppendInt_10 B _ who (by omega) (by omega) _ _ _ p4.own p4.low (by omega) (((hE.below p4.below hBg).tab hBg))).mono ?_
  rintro e w5 ⟨v5, rfl, own5, hb5, hk5⟩
  have p5 := p4.int own5 hb5 hk5
  have z5 := p5.low
  clear own5 hb5 hk5 p4 q4
  go_wp2_with (first
    | (at_builtin; refine wpList_append_own _ rfl _ _ 72 rfl B 5 i0 (.int .u8 0) 1 1 Tryd.underlying72 hi hz0 hz1 hz2 rfl (by omega) v5 _ _ rfl ((p5.own).alloc _) ⟨(w5).heap.size, 0, none⟩ 1 1 [.int .u8 32] rfl rfl (cell_one_new _ _ _) (by simp [Value.oneCell']) (by unfold maxLen; omega) (by omega) (by simp; omega) ?_; intro v6 w6 own6 hg6 _; have p6 := p5.blank own6 hg6; obtain ⟨_, _, _, q6⟩ := p6.field; have z6 := p6.low; clear own6 hg6 p5)
    )
  refine (Tryd.strconv_AppendInt_10 B _ a (by omega) (by omega) _ _ _ p6.own p6.low (by omega) (((hE.below p6.below hBg).tab hBg))).mono ?_
  rintro e w7 ⟨v7, rfl, own7, hb7, hk7⟩
  have p7 := p6.int own7 hb7 hk7
  clear own7 hb7 hk7 p6 q6
  have he : markLine ⟨t, k, who, a⟩ = (((((itoa t ++ [32]) ++ markWord k) ++ [32]) ++ itoa who) ++ [32]) ++ itoa a := by simp [markLine]
  rw [← he] at p7
  have P7 := Lib.hid (And.intro p7.own p7.below)
  clear p7 he
  go_wp2_with fail
  go_ret
  exact ⟨v7, rfl, P7.out.1, P7.out.2⟩

/-- A mark's line and error. -/
def mlineB (m : MarkV) : Bs := if okMark m then markLine m else []
def mlineE (m : MarkV) : Int := if okMark m then 0 else 2

set_option maxRecDepth 100000 in
theorem tline_any (t k who a : Int) (hk : 0 ≤ k) (w : World) (hE : Env w) (hW : MarkWords w) :
    Calls Tryd.prog 33 #[.agg #[.int .i64 t, .int .u8 k, .int .i64 who, .int .i64 a]] w fun e w' => e = .returned (.tuple #[.string (mk (mlineB ⟨t, k, who, a⟩)), .int .i64 (mlineE ⟨t, k, who, a⟩)]) ∧ Below w.heap.size w w' := by
  by_cases hok : okMark ⟨t, k, who, a⟩
  · have e1 : mlineE ⟨t, k, who, a⟩ = 0 := if_pos hok
    have e2 : mlineB ⟨t, k, who, a⟩ = markLine ⟨t, k, who, a⟩ := if_pos hok
    have d := decide_eq_true hok
    rw [e1, e2]
    obtain ⟨a1, a2, a3, a4, a5, a6⟩ := hok
    simp only at a1 a2 a3 a4 a5 a6
    go_enter Tryd.func33, Tryd.ntmps33
    go_wp2_with fail
    refine (right_any t k who a hk _).mono ?_
    rw [d]
    rintro e w1 ⟨rfl, hb1⟩
    obtain ⟨hc1, hf1⟩ := bcell hb1
    go_wp2_with fail
    have hb0 : Below w.heap.size w w1 := (below_alloc _).trans (hb1.mono (by simp))
    refine (tput_any w1.heap.size 0 _ [] t k who a a1 a2 a4 a5 a3 a6 w1 (hE.below hb0 hE.low) (hW.below hb0 hE.low) (World.ownsRow_nil _ _ _ _) (Nat.le_refl _) (by have := hE.low; have := hb0.size; omega) (by omega)).mono ?_
    rintro e w2 ⟨v2, rfl, hown2, hb2⟩
    rw [Nat.zero_add, List.nil_append] at hown2
    have hst := run_string_of_row hown2
    go_wp2_with fail
    go_ret2
    exact ⟨rfl, hb0.trans (hb2.mono hb0.size)⟩
  · have e1 : mlineE ⟨t, k, who, a⟩ = 2 := if_neg hok
    have e2 : mlineB ⟨t, k, who, a⟩ = [] := if_neg hok
    have d := decide_eq_false hok
    rw [e1, e2]
    clear hok
    go_enter Tryd.func33, Tryd.ntmps33
    go_wp2_with fail
    refine (right_any t k who a hk _).mono ?_
    rw [d]
    rintro e w1 ⟨rfl, hb1⟩
    go_wp2_with fail
    go_ret2
    exact ⟨rfl, (below_alloc _).trans (hb1.mono (by simp))⟩

def markCells (a : MarkV) : List Value := [.int .i64 a.time, .int .u8 a.kind, .int .i64 a.who, .int .i64 a.a]
def markRows (l : List MarkV) : List Value := (l.map markCells).flatten
theorem markRows_get (l : List MarkV) (i j : Nat) (hj : j < 4) : (markRows l)[i * 4 + j]? = (l[i]?).bind fun a => (markCells a)[j]? := rows_get markCells 4 (fun _ => rfl) l i j hj
theorem markRows_length (l : List MarkV) : (markRows l).length = l.length * 4 := rows_length markCells 4 (fun _ => rfl) l

/-- The four cells of mark k. -/
theorem At.mark {w : World} {A : Option Addr} {l : List MarkV} (h : At w A (markRows l)) {k : Nat} {t kd who a : Int} (hk : l[k]? = some ⟨t, kd, who, a⟩) : ∃ b o, A = some ⟨b, o, none⟩ ∧ b < w.heap.size ∧
    w.cell? ⟨b, o + k * 4, none⟩ = some (.int .i64 t) ∧ w.cell? ⟨b, o + k * 4 + 1, none⟩ = some (.int .u8 kd) ∧ w.cell? ⟨b, o + k * 4 + 2, none⟩ = some (.int .i64 who) ∧ w.cell? ⟨b, o + k * 4 + 3, none⟩ = some (.int .i64 a) := by
  have hlt : k < l.length := (List.getElem?_eq_some_iff.1 hk).1
  obtain ⟨b, o, hA, hb, hc⟩ := h (fun e => by have := markRows_length l; rw [e] at this; simp at this; omega)
  have g : ∀ j, j < 4 → (markRows l)[k * 4 + j]? = (markCells ⟨t, kd, who, a⟩)[j]? := fun j hj => by rw [markRows_get l k j hj, hk]; rfl
  exact ⟨b, o, hA, hb, hc _ _ (g 0 (by omega)), by have := hc _ _ (g 1 (by omega)); rwa [← Nat.add_assoc] at this, by have := hc _ _ (g 2 (by omega)); rwa [← Nat.add_assoc] at this, by have := hc _ _ (g 3 (by omega)); rwa [← Nat.add_assoc] at this⟩

end Go.Proofs.YtebgaglofabegaaDoor
