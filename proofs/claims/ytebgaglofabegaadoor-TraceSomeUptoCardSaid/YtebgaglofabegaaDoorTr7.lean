/-
  trace.Only and Within: the closures, slices.Clone, IndexFunc, DeleteFunc at marks.
-/
import Derived.Test.YtebgaglofabegaaDoorTr6
import Derived.Laws.IdiomCopy
import Derived.Lib.LazyBuf
namespace Go.Proofs.YtebgaglofabegaaDoor
open Go.RowKit Go.Lib

def dropOnly (kind who : Int) (m : MarkV) : Bool := decide (m.kind ≠ kind ∨ m.who ≠ who)
def dropWithin (frm upt : Int) (m : MarkV) : Bool := decide (m.time < frm ∨ upt < m.time)

def MarkAgg (m : MarkV) : Value := .agg #[.int .i64 m.time, .int .u8 m.kind, .int .i64 m.who, .int .i64 m.a]

theorem only1_any (t k who a kind n : Int) (b1 b2 : Nat) (w : World) (h1 : w.cell? ⟨b1, 0, none⟩ = some (.int .u8 kind)) (h2 : w.cell? ⟨b2, 0, none⟩ = some (.int .i64 n)) (l1 : b1 < w.heap.size) (l2 : b2 < w.heap.size) :
    Calls Tryd.prog 40 #[.agg #[.int .i64 t, .int .u8 k, .int .i64 who, .int .i64 a], .pointer (some ⟨b1, 0, none⟩), .pointer (some ⟨b2, 0, none⟩)] w fun e w' => e = .returned (.bool (dropOnly kind n ⟨t, k, who, a⟩)) ∧ Below w.heap.size w w' := by
  by_cases e1 : k = kind
  · subst e1
    by_cases e2 : who = n
    · subst e2
      have d : dropOnly k who ⟨t, k, who, a⟩ = false := decide_eq_false (by simp)
      rw [d]
      clear d
      go_enter Tryd.func40, Tryd.ntmps40
      go_wp2
      go_ret
      exact ⟨rfl, below_alloc _⟩
    · have d : dropOnly k n ⟨t, k, who, a⟩ = true := decide_eq_true (by simp [e2])
      have q : (who != n) = true := bne_iff_ne.2 e2
      rw [d]
      clear d e2
      go_enter Tryd.func40, Tryd.ntmps40
      go_wp2
      go_ret
      exact ⟨rfl, below_alloc _⟩
  · have d : dropOnly kind n ⟨t, k, who, a⟩ = true := decide_eq_true (by simp [e1])
    have q : (k != kind) = true := bne_iff_ne.2 e1
    rw [d]
    clear d e1
    go_enter Tryd.func40, Tryd.ntmps40
    go_wp2
    go_ret
    exact ⟨rfl, below_alloc _⟩

theorem within1_any (t k who a frm upt : Int) (b1 b2 : Nat) (w : World) (h1 : w.cell? ⟨b1, 0, none⟩ = some (.int .i64 frm)) (h2 : w.cell? ⟨b2, 0, none⟩ = some (.int .i64 upt)) (l1 : b1 < w.heap.size) (l2 : b2 < w.heap.size) :
    Calls Tryd.prog 41 #[.agg #[.int .i64 t, .int .u8 k, .int .i64 who, .int .i64 a], .pointer (some ⟨b1, 0, none⟩), .pointer (some ⟨b2, 0, none⟩)] w fun e w' => e = .returned (.bool (dropWithin frm upt ⟨t, k, who, a⟩)) ∧ Below w.heap.size w w' := by
  by_cases e1 : t < frm
  · have d : dropWithin frm upt ⟨t, k, who, a⟩ = true := decide_eq_true (by simp [e1])
    rw [d]
    clear d
    go_enter Tryd.func41, Tryd.ntmps41
    go_wp2
    go_ret
    exact ⟨rfl, below_alloc _⟩
  · have e1' : frm ≤ t := by omega
    by_cases e2 : upt < t
    · have d : dropWithin frm upt ⟨t, k, who, a⟩ = true := decide_eq_true (.inr e2)
      rw [d]
      clear d e1
      go_enter Tryd.func41, Tryd.ntmps41
      go_wp2
      go_ret
      exact ⟨rfl, below_alloc _⟩
    · have e2' : t ≤ upt := by omega
      have d : dropWithin frm upt ⟨t, k, who, a⟩ = false := decide_eq_false (by simp only; omega)
      have q0 : decide (t < frm) = false := decide_eq_false e1
      have q : decide (upt < t) = false := decide_eq_false e2
      rw [d]
      clear d e1 e2
      go_enter Tryd.func41, Tryd.ntmps41
      go_wp2
      go_ret
      exact ⟨rfl, below_alloc _⟩

/-- A function value that tells of a mark, in whatever world is w0 below block D. -/
structure Tells (F : Nat) (c1 c2 : Value) (p : MarkV → Bool) (D : Nat) (w0 : World) : Prop where
  calls : ∀ t k who a W, Below D w0 W → Calls Tryd.prog F #[.agg #[.int .i64 t, .int .u8 k, .int .i64 who, .int .i64 a], c1, c2] W fun e W' => e = .returned (.bool (p ⟨t, k, who, a⟩)) ∧ Below W.heap.size W W'

def fIdx (p : MarkV → Bool) (l : List MarkV) : Int := match l.findIdx? p with
  | some i => i
  | none => -1

theorem fIdx_hit {p : MarkV → Bool} {l : List MarkV} {k : Nat} {m : MarkV} (hno : ∀ j m, j < k → l[j]? = some m → p m = false) (hk : l[k]? = some m) (hp : p m = true) : fIdx p l = k := by
  have hlt : k < l.length := (List.getElem?_eq_some_iff.1 hk).1
  have e : l[k] = m := by rw [List.getElem?_eq_getElem hlt] at hk; exact Option.some.inj hk
  have : l.findIdx? p = some k := by
    rw [List.findIdx?_eq_some_iff_getElem]
    refine ⟨hlt, by rw [e]; exact hp, fun j hj => ?_⟩
    have := hno j l[j] hj (List.getElem?_eq_getElem (by omega))
    simp [this]
  unfold fIdx; rw [this]

theorem fIdx_miss {p : MarkV → Bool} {l : List MarkV} (hno : ∀ j m, j < l.length → l[j]? = some m → p m = false) : fIdx p l = -1 := by
  have : l.findIdx? p = none := by
    rw [List.findIdx?_eq_none_iff]
    intro x hx
    obtain ⟨j, hj, rfl⟩ := List.getElem_of_mem hx
    exact hno j _ hj (List.getElem?_eq_getElem hj)
  unfold fIdx; rw [this]

set_option maxRecDepth 100000 in
theorem indexFunc_O (c1 c2 : Value) (p : MarkV → Bool) (D : Nat) (w0 : World) (hT : Tells 40 c1 c2 p D w0) (l : List MarkV) (A : Option Addr) (c : Nat) (w : World) (hb0 : Below D w0 w) (hD : D ≤ w.heap.size) (hA : At w A (markRows l)) (hlen : l.length ≤ maxLen) :
    Calls Tryd.prog 71 #[.slice A l.length c, .func (.func 40) #[] #[c1, c2]] w fun e w' => e = .returned (.int .i64 (fIdx p l)) ∧ Below w.heap.size w w' := by
  unfold maxLen at hlen
  go_enter Tryd.func71, Tryd.ntmps71
  go_wp2_with fail
  go_loopw [8] (fun i wr => ∃ k : Nat, k ≤ l.length ∧ i = .int .i64 k ∧ (∀ j m, j < k → l[j]? = some m → p m = false) ∧ Below w.heap.size w wr) (fun i _ => l.length - (RowKit.intOf i).toNat)
  case atStart => exact ⟨0, Nat.zero_le _, rfl, fun j m h => by omega, Below.refl _ _⟩
  case round =>
    obtain ⟨k, hkl, rfl, hno, hb⟩ := hrel
    have Hno := Lib.hid hno
    clear hno
    by_cases hlt : k < l.length
    · obtain ⟨⟨t, kd, who, a⟩, hak⟩ : ∃ a, l[k]? = some a := ⟨_, List.getElem?_eq_getElem hlt⟩
      obtain ⟨b, o, rfl, hbl, q0, q1, q2, q3⟩ := (hA.later hb (Nat.le_refl _)).mark hak
      have hltI : (k : Int) < (l.length : Int) := by omega
      have T := hT.calls t kd who a wr (hb0.trans (hb.mono hD))
      have Hak := Lib.hid hak
      cases hx : p ⟨t, kd, who, a⟩ with
      | true =>
        rw [hx] at T
        have HI := Lib.hid (fIdx_hit Hno.out hak hx)
        have HT := Lib.hid T
        clear T hak hx
        go_wp2_with fail
        refine HT.out.mono ?_
        rintro e w1 ⟨rfl, k1⟩
        go_wp2_with fail
        go_ret
        exact ⟨by rw [HI.out]; rfl, hb.trans (k1.mono hb.size)⟩
      | false =>
        rw [hx] at T
        have HX := Lib.hid hx
        have HT := Lib.hid T
        clear T hak hx
        go_wp2_with fail
        refine HT.out.mono ?_
        rintro e w1 ⟨rfl, k1⟩
        go_wp2_with fail
        refine ⟨⟨k + 1, by omega, by go_num, fun j m h1 h2 => ?_, hb.trans (k1.mono hb.size)⟩, by simp [RowKit.intOf]; omega⟩
        by_cases hj : j < k
        · exact Hno.out j m hj h2
        · obtain rfl : j = k := by omega
          have := Hak.out
          rw [h2] at this
          injection this with this
          rw [this]; exact HX.out
    · have hge : (l.length : Int) ≤ (k : Int) := by omega
      obtain rfl : k = l.length := by omega
      have HI := Lib.hid (fIdx_miss Hno.out)
      go_wp2_with fail
      go_ret
      exact ⟨by rw [HI.out]; rfl, hb⟩

set_option maxRecDepth 100000 in
theorem indexFunc_W (c1 c2 : Value) (p : MarkV → Bool) (D : Nat) (w0 : World) (hT : Tells 41 c1 c2 p D w0) (l : List MarkV) (A : Option Addr) (c : Nat) (w : World) (hb0 : Below D w0 w) (hD : D ≤ w.heap.size) (hA : At w A (markRows l)) (hlen : l.length ≤ maxLen) :
    Calls Tryd.prog 71 #[.slice A l.length c, .func (.func 41) #[] #[c1, c2]] w fun e w' => e = .returned (.int .i64 (fIdx p l)) ∧ Below w.heap.size w w' := by
  unfold maxLen at hlen
  go_enter Tryd.func71, Tryd.ntmps71
  go_wp2_with fail
  go_loopw [8] (fun i wr => ∃ k : Nat, k ≤ l.length ∧ i = .int .i64 k ∧ (∀ j m, j < k → l[j]? = some m → p m = false) ∧ Below w.heap.size w wr) (fun i _ => l.length - (RowKit.intOf i).toNat)
  case atStart => exact ⟨0, Nat.zero_le _, rfl, fun j m h => by omega, Below.refl _ _⟩
  case round =>
    obtain ⟨k, hkl, rfl, hno, hb⟩ := hrel
    have Hno := Lib.hid hno
    clear hno
    by_cases hlt : k < l.length
    · obtain ⟨⟨t, kd, who, a⟩, hak⟩ : ∃ a, l[k]? = some a := ⟨_, List.getElem?_eq_getElem hlt⟩
      obtain ⟨b, o, rfl, hbl, q0, q1, q2, q3⟩ := (hA.later hb (Nat.le_refl _)).mark hak
      have hltI : (k : Int) < (l.length : Int) := by omega
      have T := hT.calls t kd who a wr (hb0.trans (hb.mono hD))
      have Hak := Lib.hid hak
      cases hx : p ⟨t, kd, who, a⟩ with
      | true =>
        rw [hx] at T
        have HI := Lib.hid (fIdx_hit Hno.out hak hx)
        have HT := Lib.hid T
        clear T hak hx
        go_wp2_with fail
        refine HT.out.mono ?_
        rintro e w1 ⟨rfl, k1⟩
        go_wp2_with fail
        go_ret
        exact ⟨by rw [HI.out]; rfl, hb.trans (k1.mono hb.size)⟩
      | false =>
        rw [hx] at T
        have HX := Lib.hid hx
        have HT := Lib.hid T
        clear T hak hx
        go_wp2_with fail
        refine HT.out.mono ?_
        rintro e w1 ⟨rfl, k1⟩
        go_wp2_with fail
        refine ⟨⟨k + 1, by omega, by go_num, fun j m h1 h2 => ?_, hb.trans (k1.mono hb.size)⟩, by simp [RowKit.intOf]; omega⟩
        by_cases hj : j < k
        · exact Hno.out j m hj h2
        · obtain rfl : j = k := by omega
          have := Hak.out
          rw [h2] at this
          injection this with this
          rw [this]; exact HX.out
    · have hge : (l.length : Int) ≤ (k : Int) := by omega
      obtain rfl : k = l.length := by omega
      have HI := Lib.hid (fIdx_miss Hno.out)
      go_wp2_with fail
      go_ret
      exact ⟨by rw [HI.out]; rfl, hb⟩

end Go.Proofs.YtebgaglofabegaaDoor
