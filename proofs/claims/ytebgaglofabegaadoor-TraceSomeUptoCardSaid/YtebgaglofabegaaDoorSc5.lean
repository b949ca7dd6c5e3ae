/-
  The walk of script's Parse.
-/
import Derived.Test.YtebgaglofabegaaDoorSc4
namespace Go.Proofs.YtebgaglofabegaaDoor
open Go.RowKit Go.Lib

/-- num, whatever is told. -/
theorem num_any (told : Bool) (r b : Nat) (all : List Bs) (off : Nat) (bad : Bool) (w : World) (hE : Env w) (hrg : 10 ≤ r) (h : RdSt w r b all off bad) (hs : ∀ l ∈ all, l.length ≤ 281474976710656) :
    Calls Tryd.prog 48 #[.pointer (some ⟨r, 0, none⟩), .bool told] w fun e w' => ∃ v o, e = .returned (.int .i64 v) ∧ stepN all told off bad = o ∧ RdSt w' r b all o.1 o.2 ∧ w.grownBy w' (some r) ∧ NumV all told off v := by
  cases told with
  | false =>
    refine (num_not r w).mono ?_
    rintro e w' ⟨rfl, rfl⟩
    exact ⟨0, (off, bad), rfl, rfl, h, World.grownBy.refl _ _, rfl⟩
  | true =>
    cases hl : all[off]? with
    | none =>
      have hle : all.length ≤ off := List.getElem?_eq_none_iff.1 hl
      refine (num_none r b all off bad w h hle).mono ?_
      rintro e w' ⟨rfl, h2, hg⟩
      exact ⟨0, (off, true), rfl, by simp [stepN, hl], h2, hg, by unfold NumV; rw [if_pos rfl]; intro l hl2; rw [hl] at hl2; cases hl2⟩
    | some l =>
      refine (num_some r b all off bad w hE hrg h l hl (hs l (List.mem_of_getElem? hl))).mono ?_
      rintro e w' ⟨v, rfl, h2, hg, hv⟩
      exact ⟨v, (off + 1, bad || numB l), rfl, by simp [stepN, hl], h2, hg, by unfold NumV; rw [if_pos rfl]; intro l2 hl2; rw [hl] at hl2; cases hl2; exact hv⟩

/-- The act, and the error, of a line. -/
def parseA (l : Bs) : ActV := (parseAct l).getD ⟨0, 0, 0, 0⟩
def parseE (l : Bs) : Int := if (parseAct l).isSome then 0 else 8

theorem parse_fail {l : Bs} (h : parseAct l = none) : parseA l = ⟨0, 0, 0, 0⟩ ∧ parseE l = 8 := by unfold parseA parseE; rw [h]; exact ⟨rfl, rfl⟩
theorem parse_good {l : Bs} {a : ActV} (h : parseAct l = some a) : parseA l = a ∧ parseE l = 0 := by unfold parseA parseE; rw [h]; exact ⟨rfl, rfl⟩

theorem parts_mem_len (c : UInt8) (l w : Bs) (h : w ∈ parts c l) : w.length ≤ l.length := by
  induction l generalizing w with
  | nil => simp [parts] at h; subst h; simp
  | cons x r ih =>
    unfold parts at h
    split at h
    · rcases List.mem_cons.1 h with rfl | h
      · simp
      · have := ih w h; simp only [List.length_cons]; omega
    · rcases List.mem_cons.1 h with rfl | h
      · have := ih ((parts c r).headD []) (by rw [← parts_cons]; simp)
        simp only [List.length_cons]; omega
      · have := ih w (List.mem_of_mem_tail h); simp only [List.length_cons]; omega

theorem stepN_cons (w0 : Bs) (rest : List Bs) (t : Bool) (o : Nat) (b : Bool) : stepN (w0 :: rest) t (o + 1) b = ((stepN rest t o b).1 + 1, (stepN rest t o b).2) := by
  unfold stepN
  cases t with
  | false => rfl
  | true =>
    simp only [if_true, List.getElem?_cons_succ]
    cases rest[o]? <;> rfl
theorem numV_cons (w0 : Bs) (rest : List Bs) (t : Bool) (o : Nat) (v : Int) (h : NumV (w0 :: rest) t (o + 1) v) : NumV rest t o v := by
  unfold NumV at *
  cases t with
  | false => exact h
  | true => simpa using h

theorem parse_reads {l w0 : Bs} {rest : List Bs} {k v1 v2 v3 : Int} {o1 o2 o3 : Nat × Bool} (hps : parts 32 l = w0 :: rest) (hk : k = kindOf w0)
    (s1 : stepN (w0 :: rest) (tWho k) 1 false = o1) (n1 : NumV (w0 :: rest) (tWho k) 1 v1) (s2 : stepN (w0 :: rest) (tMuch k) o1.1 o1.2 = o2) (n2 : NumV (w0 :: rest) (tMuch k) o1.1 v2)
    (s3 : stepN (w0 :: rest) (tMore k) o2.1 o2.2 = o3) (n3 : NumV (w0 :: rest) (tMore k) o2.1 v3) :
    ((63 < v1 ∨ o3.2 = true ∨ o3.1 < rest.length + 1) → parseAct l = none) ∧ (¬ (63 < v1 ∨ o3.2 = true ∨ o3.1 < rest.length + 1) → parseAct l = if okAct ⟨k, v1, v2, v3⟩ then some ⟨k, v1, v2, v3⟩ else none) := by
  rw [stepN_cons w0 rest (tWho k) 0 false] at s1
  obtain ⟨p1, hp1⟩ : ∃ p, stepN rest (tWho k) 0 false = p := ⟨_, rfl⟩
  rw [hp1] at s1
  subst s1
  rw [stepN_cons] at s2
  obtain ⟨p2, hp2⟩ : ∃ p, stepN rest (tMuch k) p1.1 p1.2 = p := ⟨_, rfl⟩
  rw [hp2] at s2
  subst s2
  rw [stepN_cons] at s3
  obtain ⟨p3, hp3⟩ : ∃ p, stepN rest (tMore k) p2.1 p2.2 = p := ⟨_, rfl⟩
  rw [hp3] at s3
  subst s3
  have hr : ((p3.2 = true ∨ p3.1 < rest.length) → actOf k rest = none) ∧ (¬ (p3.2 = true ∨ p3.1 < rest.length) → actOf k rest = some ⟨k, v1, v2, v3⟩) :=
    reads_act k rest v1 v2 v3 p1 p2 p3 hp1 (numV_cons _ _ _ _ _ n1) hp2 (numV_cons _ _ _ _ _ n2) hp3 (numV_cons _ _ _ _ _ n3)
  have hp : parseAct l = match actOf k rest with | some a => if okAct a then some a else none | none => none := by
    unfold parseAct
    rw [hps, hk]; rfl
  simp only
  constructor
  · intro h
    rw [hp]
    by_cases hb : p3.2 = true ∨ p3.1 < rest.length
    · rw [hr.1 hb]
    · rw [hr.2 hb]
      have h63 : 63 < v1 := by
        rcases h with h | h | h
        · exact h
        · exact absurd (.inl h) hb
        · exact absurd (.inr (by omega)) hb
      exact if_neg (fun hok => by have := hok.2.2.2.1; simp only at this; omega)
  · intro h
    rw [hp, hr.2 (fun hb => h (hb.elim (fun x => .inr (.inl x)) (fun x => .inr (.inr (by omega)))))]

/-- strings.Split(s, " "). -/
theorem split_any (s : ByteArray) (w : World) (hs : s.size ≤ 4194304) (hE : Env w) :
    Calls Tryd.prog 45 #[.string s, .string (mk [32])] w fun e w' => e = .returned (.slice (some ⟨w.heap.size, 0, none⟩) (parts 32 s.data.toList).length (parts 32 s.data.toList).length) ∧
      w' = w.alloc (.cells (((parts 32 s.data.toList).map fun l => Value.string (mk l)).toArray) 9) := by
  obtain ⟨mx, hmx⟩ := hE.maxlen
  refine (Tryd.strings_Split s (mk [32]) mx w (by omega) hmx (by rw [mk_size]; decide)).mono ?_
  rintro e w' ⟨rfl, rfl⟩
  rw [countB_one, parts_length, ← countB_one, split_strings, List.map_map]
  exact ⟨rfl, rfl⟩

theorem blk_far {w : World} {g b i : Nat} {o : Obj} (h : w.heap[g]? = some o) (hne : g ≠ b) (v : Value) : (w.setCell ⟨b, i, none⟩ v).heap[g]? = some o := by
  rw [Below.heap_setCell _ _ _ _ hne]; exact h

/-- What Parse hands back: the act in its block, and the error. -/
theorem results_parse {a : Array Value} {w : World} {g : Nat} {c0 c1 c2 c3 e : Value} {t : TypeId} {fr : Nat × Nat} (h2 : a[2]?.getD undef = .pointer (some ⟨g, 0, none⟩)) (h3 : a[3]?.getD undef = e) (hb : w.heap[g]? = some (.cells #[c0, c1, c2, c3] t fr)) :
    (results Tryd.f15 a).run Tryd.prog w = .ok (.tuple #[.agg #[c0, c1, c2, c3], e]) w := by
  have q0 := cell_of_row w g 0 _ _ _ hb
  have q1 := cell_of_row w g 1 _ _ _ hb
  have q2 := cell_of_row w g 2 _ _ _ hb
  have q3 := cell_of_row w g 3 _ _ _ hb
  simp only [List.getElem?_toArray, List.getElem?_cons_zero, List.getElem?_cons_succ] at q0 q1 q2 q3
  simp [results, Tryd.results15, go_sem, h2, h3, q0, q1, q2, q3]

theorem below_set {B : Nat} {a w : World} (h : Below B a w) {b i : Nat} (hb : B ≤ b) (v : Value) : Below B a (w.setCell ⟨b, i, none⟩ v) := h.setCell (p := ⟨b, i, none⟩) hb v

set_option maxRecDepth 100000 in
set_option maxHeartbeats 1600000 in
theorem parse_any (s : ByteArray) (w : World) (hs : s.size ≤ 4194304) (hE : Env w) (hW : ActWords w) :
    Calls Tryd.prog 15 #[.string s] w fun e w' => e = .returned (.tuple #[.agg #[.int .u8 (parseA s.data.toList).kind, .int .i64 (parseA s.data.toList).who, .int .i64 (parseA s.data.toList).n, .int .i64 (parseA s.data.toList).m], .int .i64 (parseE s.data.toList)]) ∧ Below w.heap.size w w' := by
  have hlow := hE.low
  have hE1 := hE.below (below_alloc (w := w) (.cells #[.int .u8 0, .int .i64 0, .int .i64 0, .int .i64 0] 32)) hlow
  have hmem : ∀ l ∈ parts 32 s.data.toList, l.length ≤ 4194304 := fun l hl => Nat.le_trans (parts_mem_len 32 _ l hl) (by rw [← size_toList]; exact hs)
  have hlen : (parts 32 s.data.toList).length ≤ 4194305 := by
    rw [parts_length]
    have : s.data.toList.count 32 ≤ s.size := by rw [size_toList]; exact List.count_le_length
    omega
  obtain ⟨w0, rest, hps⟩ : ∃ a b, parts 32 s.data.toList = a :: b := by
    have := parts_ne 32 s.data.toList
    cases h : parts 32 s.data.toList with
    | nil => exact absurd h this
    | cons a b => exact ⟨a, b, rfl⟩
  have hspl := split_any s _ hs hE1
  rw [hps] at hspl hmem hlen
  simp only [List.length_cons] at hspl hlen
  have HPS := Lib.hid hps
  have HSPL := Lib.hid hspl
  clear hps hspl
  go_enter Tryd.func15, Tryd.ntmps15
  go_wp2_with fail
  refine HSPL.out.mono ?_
  clear HSPL
  rintro e w1 ⟨rfl, hw1⟩
  have hb1 : Below w.heap.size w w1 := by rw [hw1]; exact (below_alloc _).alloc (by simp) _
  have hs1 : w1.heap.size = w.heap.size + 2 := by rw [hw1]; simp
  have hblk : w1.heap[w.heap.size + 1]? = some (.cells (((w0 :: rest).map fun l => Value.string (mk l)).toArray) 9 (0, 0)) := by
    rw [hw1]
    have := heap_alloc_new (w.alloc (.cells #[.int .u8 0, .int .i64 0, .int .i64 0, .int .i64 0] 32)) (.cells (((w0 :: rest).map fun l => Value.string (mk l)).toArray) 9)
    rwa [World.size_alloc] at this
  have hres : w1.heap[w.heap.size]? = some (.cells #[.int .u8 0, .int .i64 0, .int .i64 0, .int .i64 0] 32 (0, 0)) := by
    rw [hw1]
    rw [Below.heap_alloc _ _ _ (by simp)]
    exact heap_alloc_new w _
  have HS1 := Lib.hid hs1
  have c0 : w1.cell? ⟨w.heap.size + 1, 0, none⟩ = some (.string (mk w0)) := by
    rw [cell_of_row w1 (w.heap.size + 1) 0 _ _ _ hblk]; simp
  have hI : (0 : Int) < (rest.length : Int) + 1 := by omega
  clear hw1 hs1
  have hsl : ∃ A', (∀ w', (Instr.slice 78 (.slice (some ⟨w.heap.size + 1, 0, none⟩) (rest.length + 1) (rest.length + 1)) (some (.int .i64 1)) none none).run Tryd.prog w' = .ok (.slice A' rest.length rest.length) w') ∧ (rest.length ≠ 0 → A' = some ⟨w.heap.size + 1, 1, none⟩) := by
    by_cases h0 : rest.length = 0
    · exact ⟨some ⟨w.heap.size + 1, 0, none⟩, fun w' => by simp [go_sem, h0], fun h => absurd h0 h⟩
    · exact ⟨some ⟨w.heap.size + 1, 1, none⟩, fun w' => by simp [go_sem, h0]; intros; omega, fun _ => rfl⟩
  obtain ⟨A', hsl, hA'⟩ := hsl
  have HA' := Lib.hid hA'
  clear hA'
  have hkr := kindOf_range w0
  obtain ⟨k, hk⟩ : ∃ k, k = kindOf w0 := ⟨_, rfl⟩
  rw [← hk] at hkr
  obtain ⟨hk0, hk7⟩ := hkr
  go_wp2_with fail
  refine (kind_any (mk w0) _ (hW.below hb1 hlow)).mono ?_
  rw [mk_data, ← hk]
  rintro e w' ⟨rfl, rfl⟩
  have HK := Lib.hid hk
  clear hk
  go_wp2_with (first | (go_at_call 47; refine (lines_any _ _).mono ?_; rintro e w' ⟨rfl, rfl⟩) | (go_at_call 49; refine (has_tWho _ _).mono ?_; rintro e w' ⟨rfl, rfl⟩))
  obtain ⟨w3, hw3⟩ : ∃ w3, w3 = (w1.alloc (.cells #[.int .u8 k, .int .i64 0, .int .i64 0, .int .i64 0] 32)).alloc (.cells #[.slice A' rest.length rest.length, .bool false] 83) := ⟨_, rfl⟩
  rw [← hw3]
  have hb3 : Below w.heap.size w w3 := by rw [hw3]; exact (hb1.alloc hb1.size _).alloc (by have := hb1.size; simp; omega) _
  have ha3 : w3.heap[w1.heap.size]? = some (.cells #[.int .u8 k, .int .i64 0, .int .i64 0, .int .i64 0] 32 (0, 0)) := by
    rw [hw3, Below.heap_alloc _ _ _ (by simp)]; exact heap_alloc_new w1 _
  have hr3 : RdSt w3 (w1.heap.size + 1) (w.heap.size + 1) (w0 :: rest) 1 false := by
    have hs1 := HS1.out
    refine ⟨?_, ⟨A', ?_, fun hx => HA'.out (by simp at hx; omega)⟩, by simp⟩
    · rw [hw3, Below.heap_alloc _ _ _ (by simp; omega), Below.heap_alloc _ _ _ (by omega)]; exact hblk
    · rw [hw3]
      have := heap_alloc_new (w1.alloc (.cells #[.int .u8 k, .int .i64 0, .int .i64 0, .int .i64 0] 32)) (.cells #[.slice A' rest.length rest.length, .bool false] 83)
      rw [World.size_alloc] at this
      rw [this]; simp
  have hres3 : w3.heap[w.heap.size]? = some (.cells #[.int .u8 0, .int .i64 0, .int .i64 0, .int .i64 0] 32 (0, 0)) := by
    have hs1 := HS1.out
    rw [hw3, Below.heap_alloc _ _ _ (by simp; omega), Below.heap_alloc _ _ _ (by omega)]; exact hres
  have hE3 := hE.below hb3 hlow
  have hrg : 10 ≤ w1.heap.size + 1 := by have := HS1.out; omega
  have hmem' : ∀ l ∈ w0 :: rest, l.length ≤ 281474976710656 := fun l hl => Nat.le_trans (hmem l hl) (by omega)
  clear hw3 hblk hres hsl hE1 c0 hmem
  refine (num_any _ _ _ _ 1 false w3 hE3 hrg hr3 hmem').mono ?_
  rintro e w4 ⟨v1, o1, rfl, st1, hr4, hg4, nv1⟩
  have ha4 : w4.heap[w1.heap.size]? = _ := (hg4.block w1.heap.size (by have := (Array.getElem?_eq_some_iff.1 ha3).1; omega) (fun e => by simp at e)).trans ha3
  have hres4 : w4.heap[w.heap.size]? = _ := (hg4.block w.heap.size (by have := (Array.getElem?_eq_some_iff.1 hres3).1; omega) (fun e => by have := HS1.out; simp at e; omega)).trans hres3
  have hb4 : Below w.heap.size w w4 := hb3.grown hg4 hb3.size (fun j hj => by have := HS1.out; simp at hj; omega)
  clear hr3 ha3 hres3 hE3 hg4 hb3
  go_wp2_with (first | (go_at_call 49; refine (has_tMuch _ _).mono ?_; rintro e w' ⟨rfl, rfl⟩))
  refine (num_any _ _ _ _ o1.1 o1.2 w4 (hE.below hb4 hlow) hrg hr4 hmem').mono ?_
  rintro e w5 ⟨v2, o2, rfl, st2, hr5, hg5, nv2⟩
  have ha5 : w5.heap[w1.heap.size]? = _ := (hg5.block w1.heap.size (by have := (Array.getElem?_eq_some_iff.1 ha4).1; omega) (fun e => by simp at e)).trans ha4
  have hres5 : w5.heap[w.heap.size]? = _ := (hg5.block w.heap.size (by have := (Array.getElem?_eq_some_iff.1 hres4).1; omega) (fun e => by have := HS1.out; simp at e; omega)).trans hres4
  have hb5 : Below w.heap.size w w5 := hb4.grown hg5 hb4.size (fun j hj => by have := HS1.out; simp at hj; omega)
  clear hr4 ha4 hres4 hg5 hb4
  go_wp2_with (first | (go_at_call 49; refine (has_tMore _ _).mono ?_; rintro e w' ⟨rfl, rfl⟩))
  refine (num_any _ _ _ _ o2.1 o2.2 w5 (hE.below hb5 hlow) hrg hr5 hmem').mono ?_
  rintro e w6 ⟨v3, o3, rfl, st3, hr6, hg6, nv3⟩
  have ha6 : w6.heap[w1.heap.size]? = _ := (hg6.block w1.heap.size (by have := (Array.getElem?_eq_some_iff.1 ha5).1; omega) (fun e => by simp at e)).trans ha5
  have hres6 : w6.heap[w.heap.size]? = _ := (hg6.block w.heap.size (by have := (Array.getElem?_eq_some_iff.1 hres5).1; omega) (fun e => by have := HS1.out; simp at e; omega)).trans hres5
  have hb6 : Below w.heap.size w w6 := hb5.grown hg6 hb5.size (fun j hj => by have := HS1.out; simp at hj; omega)
  clear hr5 ha5 hres5 hg6 hb5
  have hpr := parse_reads HPS.out HK.out st1 nv1 st2 nv2 st3 nv3
  obtain ⟨A3, hr, _⟩ := hr6.rd
  obtain ⟨L, hL⟩ : ∃ L, L = (w0 :: rest).length - o3.1 := ⟨_, rfl⟩
  rw [← hL] at hr
  have r0 := cell_of_row w6 (w1.heap.size + 1) 0 _ _ _ hr
  have r1 := cell_of_row w6 (w1.heap.size + 1) 1 _ _ _ hr
  have q0 := cell_of_row w6 w1.heap.size 0 _ _ _ ha6
  have q1 := cell_of_row w6 w1.heap.size 1 _ _ _ ha6
  have q2 := cell_of_row w6 w1.heap.size 2 _ _ _ ha6
  have q3 := cell_of_row w6 w1.heap.size 3 _ _ _ ha6
  simp only [List.getElem?_toArray, List.getElem?_cons_zero, List.getElem?_cons_succ] at r0 r1 q0 q1 q2 q3
  have fz : ∀ o, w6.frozen? ⟨w1.heap.size, o, none⟩ = false := fun o => by simp [World.frozen?, ha6]
  have gz : ∀ o, w6.frozen? ⟨w.heap.size, o, none⟩ = false := fun o => by simp [World.frozen?, hres6]
  have g0 := cell_of_row w6 w.heap.size 0 _ _ _ hres6
  have g1 := cell_of_row w6 w.heap.size 1 _ _ _ hres6
  have g2 := cell_of_row w6 w.heap.size 2 _ _ _ hres6
  have g3 := cell_of_row w6 w.heap.size 3 _ _ _ hres6
  simp only [List.getElem?_toArray, List.getElem?_cons_zero, List.getElem?_cons_succ] at g0 g1 g2 g3
  have hne : w.heap.size < w1.heap.size := by have := HS1.out; omega
  have hle := hr6.le
  have HRES := Lib.hid hres6
  have HA := Lib.hid ha6
  have hlt6 : w1.heap.size < w6.heap.size := (Array.getElem?_eq_some_iff.1 ha6).1
  clear st1 nv1 st2 nv2 st3 nv3 hr6 hr ha6 hres6
  have HPR := Lib.hid hpr
  have HL := Lib.hid hL
  clear hpr hL hle
  have hbadv : (63 < v1 ∨ o3.2 = true ∨ 0 < L) → parseA s.data.toList = ⟨0, 0, 0, 0⟩ ∧ parseE s.data.toList = 8 := fun hbad => parse_fail (HPR.out.1 (by
      have := HL.out
      simp only [List.length_cons] at this
      rcases hbad with h | h | h
      · exact .inl h
      · exact .inr (.inl h)
      · exact .inr (.inr (by omega))))
  have HB := Lib.hid hbadv
  clear hbadv
  have hbool : o3.2 = true ∨ o3.2 = false := by cases o3.2 <;> simp
  by_cases h63 : 63 < v1
  · have HN := Lib.hid (HB.out (.inl h63))
    go_wp2_with fail
    refine bodyPost_ret (results_parse rfl rfl (heap_cells_set (heap_cells_set (heap_cells_set (heap_cells_set (blk_far (blk_far HRES.out (by omega) _) (by omega) _) _) _) _) _)) rfl ⟨by rw [HN.out.1, HN.out.2]; rfl, ?_⟩
    exact below_set (below_set (below_set (below_set (below_set (below_set hb6 (by omega) _) (by omega) _) (Nat.le_refl _) _) (Nat.le_refl _) _) (Nat.le_refl _) _) (Nat.le_refl _) _
  · have h63' : v1 ≤ 63 := by omega
    rcases hbool with hb | hb
    · have HN := Lib.hid (HB.out (.inr (.inl hb)))
      rw [hb] at r1
      clear hb
      go_wp2_with fail
      refine bodyPost_ret (results_parse rfl rfl (heap_cells_set (heap_cells_set (heap_cells_set (heap_cells_set (blk_far (blk_far HRES.out (by omega) _) (by omega) _) _) _) _) _)) rfl ⟨by rw [HN.out.1, HN.out.2]; rfl, ?_⟩
      exact below_set (below_set (below_set (below_set (below_set (below_set hb6 (by omega) _) (by omega) _) (Nat.le_refl _) _) (Nat.le_refl _) _) (Nat.le_refl _) _) (Nat.le_refl _) _
    · rw [hb] at r1
      by_cases hL0 : 0 < L
      · have HN := Lib.hid (HB.out (.inr (.inr hL0)))
        have hLI : (0 : Int) < (L : Int) := by omega
        clear hb
        go_wp2_with fail
        refine bodyPost_ret (results_parse rfl rfl (heap_cells_set (heap_cells_set (heap_cells_set (heap_cells_set (blk_far (blk_far HRES.out (by omega) _) (by omega) _) _) _) _) _)) rfl ⟨by rw [HN.out.1, HN.out.2]; rfl, ?_⟩
        exact below_set (below_set (below_set (below_set (below_set (below_set hb6 (by omega) _) (by omega) _) (Nat.le_refl _) _) (Nat.le_refl _) _) (Nat.le_refl _) _) (Nat.le_refl _) _
      · obtain rfl : L = 0 := by omega
        have hval : parseAct s.data.toList = if okAct ⟨k, v1, v2, v3⟩ then some ⟨k, v1, v2, v3⟩ else none := HPR.out.2 (by
          have hl := HL.out
          simp only [List.length_cons] at hl
          rw [hb]
          rintro (h | h | h)
          · omega
          · cases h
          · omega)
        have HV := Lib.hid hval
        clear hval hb
        go_wp2_with fail
        by_cases hok : okAct ⟨k, v1, v2, v3⟩
        · refine (check_any k v1 v2 v3 hk0 _).mono ?_
          rw [checkE_ok hok]
          rintro e w7 ⟨rfl, hb7⟩
          have hg := HV.out
          rw [if_pos hok] at hg
          have HN := Lib.hid (parse_good hg)
          clear hg hok
          have ha7 : w7.heap[w1.heap.size]? = some (.cells #[.int .u8 k, .int .i64 v1, .int .i64 v2, .int .i64 v3] 32 (0, 0)) := (hb7.block _ (by simp [World.setCell]; omega)).trans (heap_cells_set (heap_cells_set (heap_cells_set HA.out _) _) _)
          have hres7 : w7.heap[w.heap.size]? = some (.cells #[.int .u8 0, .int .i64 0, .int .i64 0, .int .i64 0] 32 (0, 0)) := (hb7.block _ (by simp [World.setCell]; omega)).trans (blk_far (blk_far (blk_far HRES.out (by omega) _) (by omega) _) (by omega) _)
          have hbW : Below w.heap.size w w7 := (below_set (below_set (below_set hb6 (by omega) _) (by omega) _) (by omega) _).trans (hb7.mono (by simp [World.setCell]; omega))
          have q0 := cell_of_row w7 w1.heap.size 0 _ _ _ ha7
          have q1 := cell_of_row w7 w1.heap.size 1 _ _ _ ha7
          have q2 := cell_of_row w7 w1.heap.size 2 _ _ _ ha7
          have q3 := cell_of_row w7 w1.heap.size 3 _ _ _ ha7
          have g0 := cell_of_row w7 w.heap.size 0 _ _ _ hres7
          have g1 := cell_of_row w7 w.heap.size 1 _ _ _ hres7
          have g2 := cell_of_row w7 w.heap.size 2 _ _ _ hres7
          have g3 := cell_of_row w7 w.heap.size 3 _ _ _ hres7
          simp only [List.getElem?_toArray, List.getElem?_cons_zero, List.getElem?_cons_succ] at q0 q1 q2 q3 g0 g1 g2 g3
          have gz7 : ∀ o, w7.frozen? ⟨w.heap.size, o, none⟩ = false := fun o => by simp [World.frozen?, hres7]
          have HR7 := Lib.hid hres7
          clear hb7 ha7 hres7
          go_wp2_with fail
          refine bodyPost_ret (results_parse rfl rfl (heap_cells_set (heap_cells_set (heap_cells_set (heap_cells_set HR7.out _) _) _) _)) rfl ⟨by rw [HN.out.1, HN.out.2]; rfl, ?_⟩
          exact below_set (below_set (below_set (below_set hbW (Nat.le_refl _) _) (Nat.le_refl _) _) (Nat.le_refl _) _) (Nat.le_refl _) _
        · refine (check_any k v1 v2 v3 hk0 _).mono ?_
          rw [checkE_bad hok]
          rintro e w7 ⟨rfl, hb7⟩
          have hg := HV.out
          rw [if_neg hok] at hg
          have HN := Lib.hid (parse_fail hg)
          clear hg hok
          have ha7 : w7.heap[w1.heap.size]? = some (.cells #[.int .u8 k, .int .i64 v1, .int .i64 v2, .int .i64 v3] 32 (0, 0)) := (hb7.block _ (by simp [World.setCell]; omega)).trans (heap_cells_set (heap_cells_set (heap_cells_set HA.out _) _) _)
          have hres7 : w7.heap[w.heap.size]? = some (.cells #[.int .u8 0, .int .i64 0, .int .i64 0, .int .i64 0] 32 (0, 0)) := (hb7.block _ (by simp [World.setCell]; omega)).trans (blk_far (blk_far (blk_far HRES.out (by omega) _) (by omega) _) (by omega) _)
          have hbW : Below w.heap.size w w7 := (below_set (below_set (below_set hb6 (by omega) _) (by omega) _) (by omega) _).trans (hb7.mono (by simp [World.setCell]; omega))
          have q0 := cell_of_row w7 w1.heap.size 0 _ _ _ ha7
          have q1 := cell_of_row w7 w1.heap.size 1 _ _ _ ha7
          have q2 := cell_of_row w7 w1.heap.size 2 _ _ _ ha7
          have q3 := cell_of_row w7 w1.heap.size 3 _ _ _ ha7
          have g0 := cell_of_row w7 w.heap.size 0 _ _ _ hres7
          have g1 := cell_of_row w7 w.heap.size 1 _ _ _ hres7
          have g2 := cell_of_row w7 w.heap.size 2 _ _ _ hres7
          have g3 := cell_of_row w7 w.heap.size 3 _ _ _ hres7
          simp only [List.getElem?_toArray, List.getElem?_cons_zero, List.getElem?_cons_succ] at q0 q1 q2 q3 g0 g1 g2 g3
          have gz7 : ∀ o, w7.frozen? ⟨w.heap.size, o, none⟩ = false := fun o => by simp [World.frozen?, hres7]
          have HR7 := Lib.hid hres7
          clear hb7 ha7 hres7
          go_wp2_with fail
          refine bodyPost_ret (results_parse rfl rfl (heap_cells_set (heap_cells_set (heap_cells_set (heap_cells_set HR7.out _) _) _) _)) rfl ⟨by rw [HN.out.1, HN.out.2]; rfl, ?_⟩
          exact below_set (below_set (below_set (below_set hbW (Nat.le_refl _) _) (Nat.le_refl _) _) (Nat.le_refl _) _) (Nat.le_refl _) _

end Go.Proofs.YtebgaglofabegaaDoor
