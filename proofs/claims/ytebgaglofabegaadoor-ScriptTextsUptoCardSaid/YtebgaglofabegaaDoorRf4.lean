/-
  The document's acts: told, Check, Line.
-/
import Derived.Test.YtebgaglofabegaaDoorRf3
import Derived.OwnWalk
namespace Go.Proofs.YtebgaglofabegaaDoor
open Go.RowKit Go.Lib

def intCells (l : List Int) : List Value := l.map fun n => .int .i64 n

/-- What told hands back. -/
def Told (w : World) (a : ActV) (e : Ending) (w' : World) : Prop :=
  ∃ sv A c ns, e = .returned (.tuple #[.string sv, .slice A (List.length ns) c, .bool (decide (okAct a))]) ∧ (okAct a → sv = mk (actWord a.kind) ∧ ns = actNums a) ∧ At w' A (intCells ns) ∧ Below w.heap.size w w'

theorem at_new {w : World} {b : Nat} {l : List Int} {t : TypeId} {f : Nat × Nat} (h : w.heap[b]? = some (.cells (intCells l).toArray t f)) : At w (some ⟨b, 0, none⟩) (intCells l) := fun _ =>
  ⟨b, 0, rfl, (Array.getElem?_eq_some_iff.1 h).1, fun j u hu => by rw [Nat.zero_add, cell_of_row w b j _ _ _ h]; simpa using hu⟩

set_option maxRecDepth 100000 in
set_option maxHeartbeats 4000000 in
theorem told_bad (k who n m : Int) (hr : ¬ (0 ≤ who ∧ who ≤ 63 ∧ timeP n ∧ timeP m)) (w : World) :
    Calls Tryd.prog 43 #[.agg #[.int .u8 k, .int .i64 who, .int .i64 n, .int .i64 m]] w (Told w ⟨k, who, n, m⟩) := by
  have hno : ¬ okAct ⟨k, who, n, m⟩ := fun h => hr ⟨h.2.2.1, h.2.2.2.1, h.2.2.2.2.1, h.2.2.2.2.2.1⟩
  have fin : ∀ W, Below w.heap.size w W → Told w ⟨k, who, n, m⟩ (.returned (.tuple #[.string ⟨#[]⟩, .slice none 0 0, .bool false])) W := fun W hb =>
    ⟨_, none, 0, [], by rw [decide_eq_false hno]; rfl, fun h => absurd h hno, At.nil _ _, hb⟩
  have Hno := Lib.hid hno
  clear hno
  by_cases h1 : who < 0
  · clear hr
    go_enter Tryd.func43, Tryd.ntmps43
    go_wp2_with (go_at_call 73; refine (time1_any _ _).mono ?_; rintro e w' ⟨rfl, rfl⟩)
    go_ret3
    exact fin _ (below_alloc _)
  by_cases h2 : 63 < who
  · have h1' : 0 ≤ who := by omega
    clear hr h1
    go_enter Tryd.func43, Tryd.ntmps43
    go_wp2_with (go_at_call 73; refine (time1_any _ _).mono ?_; rintro e w' ⟨rfl, rfl⟩)
    go_ret3
    exact fin _ (below_alloc _)
  have h1' : 0 ≤ who := by omega
  have h2' : who ≤ 63 := by omega
  by_cases h3 : timeP n
  · have t2 : decide (timeP n) = true := decide_eq_true h3
    have t3 : decide (timeP m) = false := decide_eq_false (fun h => hr ⟨h1', h2', h3, h⟩)
    clear hr h1 h2 h3
    go_enter Tryd.func43, Tryd.ntmps43
    go_wp2_with (go_at_call 73; refine (time1_any _ _).mono ?_; rintro e w' ⟨rfl, rfl⟩)
    go_ret3
    exact fin _ (below_alloc _)
  · have t2 : decide (timeP n) = false := decide_eq_false h3
    clear hr h1 h2 h3
    go_enter Tryd.func43, Tryd.ntmps43
    go_wp2_with (go_at_call 73; refine (time1_any _ _).mono ?_; rintro e w' ⟨rfl, rfl⟩)
    go_ret3
    exact fin _ (below_alloc _)

/-- The document's words are the program's. -/
theorem actWord_at : actWord 1 = [97, 100, 118, 97, 110, 99, 101] ∧ actWord 2 = [114, 97, 105, 115, 101] ∧ actWord 3 = [114, 101, 108, 101, 97, 115, 101] ∧ actWord 4 = [108, 97, 116, 101, 114] ∧ actWord 5 = [99, 111, 115, 116] ∧ actWord 6 = [115, 117, 115, 112, 101, 110, 100] ∧ actWord 7 = [114, 101, 115, 117, 109, 101] := by decide

set_option maxRecDepth 100000 in
set_option maxHeartbeats 4000000 in
theorem told_good (k who n m : Int) (h1 : 0 ≤ who) (h2 : who ≤ 63) (h3 : timeP n) (h4 : timeP m) (w : World) :
    Calls Tryd.prog 43 #[.agg #[.int .u8 k, .int .i64 who, .int .i64 n, .int .i64 m]] w (Told w ⟨k, who, n, m⟩) := by
  have t2 : decide (timeP n) = true := decide_eq_true h3
  have t3 : decide (timeP m) = true := decide_eq_true h4
  have fin : ∀ (sv : ByteArray) (ns : List Int) (b : Bool) (c : Nat), sv = mk (actWord k) → b = decide (okAct ⟨k, who, n, m⟩) → (okAct ⟨k, who, n, m⟩ → ns = actNums ⟨k, who, n, m⟩) →
      Told w ⟨k, who, n, m⟩ (.returned (.tuple #[.string sv, .slice (some ⟨w.heap.size + 1, 0, none⟩) ns.length c, .bool b])) ((w.alloc (.cells #[.int .u8 k, .int .i64 who, .int .i64 n, .int .i64 m] 32)).alloc (.cells (intCells ns).toArray 2)).drew := fun sv ns b c hsv hb hns => by
    have hB := ((Below.refl _ w).alloc (Nat.le_refl _) (.cells #[.int .u8 k, .int .i64 who, .int .i64 n, .int .i64 m] 32)).alloc (by simp) (.cells (intCells ns).toArray 2)
    have hh := World.alloc_heap_new (w.alloc (.cells #[.int .u8 k, .int .i64 who, .int .i64 n, .int .i64 m] 32)) (.cells (intCells ns).toArray 2)
    rw [World.size_alloc] at hh
    exact ⟨sv, _, c, ns, by rw [hb], fun h => ⟨hsv, hns h⟩, at_new (w := World.drew _) hh, ⟨hB.os, hB.tape, hB.output, hB.size, hB.block⟩⟩
  have bad : ∀ W, Below w.heap.size w W → ¬ okAct ⟨k, who, n, m⟩ → Told w ⟨k, who, n, m⟩ (.returned (.tuple #[.string ⟨#[]⟩, .slice none 0 0, .bool false])) W := fun W hb hno =>
    ⟨_, none, 0, [], by rw [decide_eq_false hno]; rfl, fun h => absurd h hno, At.nil _ _, hb⟩
  by_cases k1 : k = 1
  · subst k1
    by_cases fwho : who = 0
    · have fwho1 : (who == 0) = true := beq_iff_eq.2 fwho
      by_cases fm : m = 0
      · have fm1 : (m == 0) = true := beq_iff_eq.2 fm
        have Y := Lib.hid ((decide_eq_true (show okAct ⟨1, who, n, m⟩ from ⟨by dsimp only; omega, by dsimp only; omega, h1, h2, h3, h4, by dsimp only; omega, by dsimp only; omega, by dsimp only; omega⟩)))
        clear fwho fm
        go_enter Tryd.func43, Tryd.ntmps43
        go_wp2_with (go_at_call 73; refine (time1_any _ _).mono ?_; rintro e w' ⟨rfl, rfl⟩)
        go_region
        all_goals
          go_wp2_with fail
          go_ret3
          exact fin _ [n] true 1 rfl Y.out.symm (fun _ => rfl)
      · have fm0 : (m == 0) = false := beq_eq_false_iff_ne.2 fm
        have Y := Lib.hid ((decide_eq_false (fun h : okAct ⟨1, who, n, m⟩ => by have q1 := h.2.2.2.2.2.2.1; have q2 := h.2.2.2.2.2.2.2.1; have q3 := h.2.2.2.2.2.2.2.2; dsimp only at q1 q2 q3; omega)))
        clear fwho fm
        go_enter Tryd.func43, Tryd.ntmps43
        go_wp2_with (go_at_call 73; refine (time1_any _ _).mono ?_; rintro e w' ⟨rfl, rfl⟩)
        go_region
        all_goals
          go_wp2_with fail
          go_ret3
          exact fin _ [n] false 1 rfl Y.out.symm (fun _ => rfl)
    · have fwho0 : (who == 0) = false := beq_eq_false_iff_ne.2 fwho
      have Y := Lib.hid ((decide_eq_false (fun h : okAct ⟨1, who, n, m⟩ => by have q1 := h.2.2.2.2.2.2.1; have q2 := h.2.2.2.2.2.2.2.1; have q3 := h.2.2.2.2.2.2.2.2; dsimp only at q1 q2 q3; omega)))
      clear fwho
      go_enter Tryd.func43, Tryd.ntmps43
      go_wp2_with (go_at_call 73; refine (time1_any _ _).mono ?_; rintro e w' ⟨rfl, rfl⟩)
      go_region
      all_goals
        go_wp2_with fail
        go_ret3
        exact fin _ [n] false 1 rfl Y.out.symm (fun _ => rfl)
  by_cases k2 : k = 2
  · subst k2
    have Y := Lib.hid ((decide_eq_true (show okAct ⟨2, who, n, m⟩ from ⟨by dsimp only; omega, by dsimp only; omega, h1, h2, h3, h4, by dsimp only; omega, by dsimp only; omega, by dsimp only; omega⟩)))
    go_enter Tryd.func43, Tryd.ntmps43
    go_wp2_with (go_at_call 73; refine (time1_any _ _).mono ?_; rintro e w' ⟨rfl, rfl⟩)
    go_region
    all_goals
      go_wp2_with fail
      go_ret3
      exact fin _ [who, n, m] true 3 rfl Y.out.symm (fun _ => rfl)
  by_cases k3 : k = 3
  · subst k3
    by_cases fm : m = 0
    · have fm1 : (m == 0) = true := beq_iff_eq.2 fm
      have Y := Lib.hid ((decide_eq_true (show okAct ⟨3, who, n, m⟩ from ⟨by dsimp only; omega, by dsimp only; omega, h1, h2, h3, h4, by dsimp only; omega, by dsimp only; omega, by dsimp only; omega⟩)))
      clear fm
      go_enter Tryd.func43, Tryd.ntmps43
      go_wp2_with (go_at_call 73; refine (time1_any _ _).mono ?_; rintro e w' ⟨rfl, rfl⟩)
      go_region
      all_goals
        go_wp2_with fail
        go_ret3
        exact fin _ [who, n] true 2 rfl Y.out.symm (fun _ => rfl)
    · have fm0 : (m == 0) = false := beq_eq_false_iff_ne.2 fm
      have Y := Lib.hid ((decide_eq_false (fun h : okAct ⟨3, who, n, m⟩ => by have q1 := h.2.2.2.2.2.2.1; have q2 := h.2.2.2.2.2.2.2.1; have q3 := h.2.2.2.2.2.2.2.2; dsimp only at q1 q2 q3; omega)))
      clear fm
      go_enter Tryd.func43, Tryd.ntmps43
      go_wp2_with (go_at_call 73; refine (time1_any _ _).mono ?_; rintro e w' ⟨rfl, rfl⟩)
      go_region
      all_goals
        go_wp2_with fail
        go_ret3
        exact fin _ [who, n] false 2 rfl Y.out.symm (fun _ => rfl)
  by_cases k4 : k = 4
  · subst k4
    have Y := Lib.hid ((decide_eq_true (show okAct ⟨4, who, n, m⟩ from ⟨by dsimp only; omega, by dsimp only; omega, h1, h2, h3, h4, by dsimp only; omega, by dsimp only; omega, by dsimp only; omega⟩)))
    go_enter Tryd.func43, Tryd.ntmps43
    go_wp2_with (go_at_call 73; refine (time1_any _ _).mono ?_; rintro e w' ⟨rfl, rfl⟩)
    go_region
    all_goals
      go_wp2_with fail
      go_ret3
      exact fin _ [who, n, m] true 3 rfl Y.out.symm (fun _ => rfl)
  by_cases k5 : k = 5
  · subst k5
    by_cases fm : m = 0
    · have fm1 : (m == 0) = true := beq_iff_eq.2 fm
      have Y := Lib.hid ((decide_eq_true (show okAct ⟨5, who, n, m⟩ from ⟨by dsimp only; omega, by dsimp only; omega, h1, h2, h3, h4, by dsimp only; omega, by dsimp only; omega, by dsimp only; omega⟩)))
      clear fm
      go_enter Tryd.func43, Tryd.ntmps43
      go_wp2_with (go_at_call 73; refine (time1_any _ _).mono ?_; rintro e w' ⟨rfl, rfl⟩)
      go_region
      all_goals
        go_wp2_with fail
        go_ret3
        exact fin _ [who, n] true 2 rfl Y.out.symm (fun _ => rfl)
    · have fm0 : (m == 0) = false := beq_eq_false_iff_ne.2 fm
      have Y := Lib.hid ((decide_eq_false (fun h : okAct ⟨5, who, n, m⟩ => by have q1 := h.2.2.2.2.2.2.1; have q2 := h.2.2.2.2.2.2.2.1; have q3 := h.2.2.2.2.2.2.2.2; dsimp only at q1 q2 q3; omega)))
      clear fm
      go_enter Tryd.func43, Tryd.ntmps43
      go_wp2_with (go_at_call 73; refine (time1_any _ _).mono ?_; rintro e w' ⟨rfl, rfl⟩)
      go_region
      all_goals
        go_wp2_with fail
        go_ret3
        exact fin _ [who, n] false 2 rfl Y.out.symm (fun _ => rfl)
  by_cases k6 : k = 6
  · subst k6
    by_cases fn : n = 0
    · have fn1 : (n == 0) = true := beq_iff_eq.2 fn
      by_cases fm : m = 0
      · have fm1 : (m == 0) = true := beq_iff_eq.2 fm
        have Y := Lib.hid ((decide_eq_true (show okAct ⟨6, who, n, m⟩ from ⟨by dsimp only; omega, by dsimp only; omega, h1, h2, h3, h4, by dsimp only; omega, by dsimp only; omega, by dsimp only; omega⟩)))
        clear fn fm
        go_enter Tryd.func43, Tryd.ntmps43
        go_wp2_with (go_at_call 73; refine (time1_any _ _).mono ?_; rintro e w' ⟨rfl, rfl⟩)
        go_region
        all_goals
          go_wp2_with fail
          go_ret3
          exact fin _ [who] true 1 rfl Y.out.symm (fun _ => rfl)
      · have fm0 : (m == 0) = false := beq_eq_false_iff_ne.2 fm
        have Y := Lib.hid ((decide_eq_false (fun h : okAct ⟨6, who, n, m⟩ => by have q1 := h.2.2.2.2.2.2.1; have q2 := h.2.2.2.2.2.2.2.1; have q3 := h.2.2.2.2.2.2.2.2; dsimp only at q1 q2 q3; omega)))
        clear fn fm
        go_enter Tryd.func43, Tryd.ntmps43
        go_wp2_with (go_at_call 73; refine (time1_any _ _).mono ?_; rintro e w' ⟨rfl, rfl⟩)
        go_region
        all_goals
          go_wp2_with fail
          go_ret3
          exact fin _ [who] false 1 rfl Y.out.symm (fun _ => rfl)
    · have fn0 : (n == 0) = false := beq_eq_false_iff_ne.2 fn
      have Y := Lib.hid ((decide_eq_false (fun h : okAct ⟨6, who, n, m⟩ => by have q1 := h.2.2.2.2.2.2.1; have q2 := h.2.2.2.2.2.2.2.1; have q3 := h.2.2.2.2.2.2.2.2; dsimp only at q1 q2 q3; omega)))
      clear fn
      go_enter Tryd.func43, Tryd.ntmps43
      go_wp2_with (go_at_call 73; refine (time1_any _ _).mono ?_; rintro e w' ⟨rfl, rfl⟩)
      go_region
      all_goals
        go_wp2_with fail
        go_ret3
        exact fin _ [who] false 1 rfl Y.out.symm (fun _ => rfl)
  by_cases k7 : k = 7
  · subst k7
    by_cases fn : n = 0
    · have fn1 : (n == 0) = true := beq_iff_eq.2 fn
      by_cases fm : m = 0
      · have fm1 : (m == 0) = true := beq_iff_eq.2 fm
        have Y := Lib.hid ((decide_eq_true (show okAct ⟨7, who, n, m⟩ from ⟨by dsimp only; omega, by dsimp only; omega, h1, h2, h3, h4, by dsimp only; omega, by dsimp only; omega, by dsimp only; omega⟩)))
        clear fn fm
        go_enter Tryd.func43, Tryd.ntmps43
        go_wp2_with (go_at_call 73; refine (time1_any _ _).mono ?_; rintro e w' ⟨rfl, rfl⟩)
        go_region
        all_goals
          go_wp2_with fail
          go_ret3
          exact fin _ [who] true 1 rfl Y.out.symm (fun _ => rfl)
      · have fm0 : (m == 0) = false := beq_eq_false_iff_ne.2 fm
        have Y := Lib.hid ((decide_eq_false (fun h : okAct ⟨7, who, n, m⟩ => by have q1 := h.2.2.2.2.2.2.1; have q2 := h.2.2.2.2.2.2.2.1; have q3 := h.2.2.2.2.2.2.2.2; dsimp only at q1 q2 q3; omega)))
        clear fn fm
        go_enter Tryd.func43, Tryd.ntmps43
        go_wp2_with (go_at_call 73; refine (time1_any _ _).mono ?_; rintro e w' ⟨rfl, rfl⟩)
        go_region
        all_goals
          go_wp2_with fail
          go_ret3
          exact fin _ [who] false 1 rfl Y.out.symm (fun _ => rfl)
    · have fn0 : (n == 0) = false := beq_eq_false_iff_ne.2 fn
      have Y := Lib.hid ((decide_eq_false (fun h : okAct ⟨7, who, n, m⟩ => by have q1 := h.2.2.2.2.2.2.1; have q2 := h.2.2.2.2.2.2.2.1; have q3 := h.2.2.2.2.2.2.2.2; dsimp only at q1 q2 q3; omega)))
      clear fn
      go_enter Tryd.func43, Tryd.ntmps43
      go_wp2_with (go_at_call 73; refine (time1_any _ _).mono ?_; rintro e w' ⟨rfl, rfl⟩)
      go_region
      all_goals
        go_wp2_with fail
        go_ret3
        exact fin _ [who] false 1 rfl Y.out.symm (fun _ => rfl)
  have Y := Lib.hid (show ¬ okAct ⟨k, who, n, m⟩ from fun h => by have q1 := h.1; have q2 := h.2.1; dsimp only at q1 q2; omega)
  have g1 : (k == 1) = false := beq_eq_false_iff_ne.2 k1
  have g2 : (k == 2) = false := beq_eq_false_iff_ne.2 k2
  have g3 : (k == 3) = false := beq_eq_false_iff_ne.2 k3
  have g4 : (k == 4) = false := beq_eq_false_iff_ne.2 k4
  have g5 : (k == 5) = false := beq_eq_false_iff_ne.2 k5
  have g6 : (k == 6) = false := beq_eq_false_iff_ne.2 k6
  have g7 : (k == 7) = false := beq_eq_false_iff_ne.2 k7
  clear k1 k2 k3 k4 k5 k6 k7
  go_enter Tryd.func43, Tryd.ntmps43
  go_wp2_with (go_at_call 73; refine (time1_any _ _).mono ?_; rintro e w' ⟨rfl, rfl⟩)
  go_ret3
  exact bad _ (below_alloc _) Y.out

theorem told_any (k who n m : Int) (w : World) :
    Calls Tryd.prog 43 #[.agg #[.int .u8 k, .int .i64 who, .int .i64 n, .int .i64 m]] w (Told w ⟨k, who, n, m⟩) := by
  by_cases h : 0 ≤ who ∧ who ≤ 63 ∧ timeP n ∧ timeP m
  · exact told_good k who n m h.1 h.2.1 h.2.2.1 h.2.2.2 w
  · exact told_bad k who n m h w

end Go.Proofs.YtebgaglofabegaaDoor
