/-
  Words for memory: a slice whose cells are known, over later worlds.
-/
import Derived.Test.YtebgaglofabegaaDoorEnv
namespace Go.Proofs.YtebgaglofabegaaDoor
open Go.RowKit Go.Lib

/-- The address A bears the cells xs (nothing is said of an address where there are none). -/
def At (w : World) (A : Option Addr) (xs : List Value) : Prop :=
  xs ≠ [] → ∃ b o, A = some ⟨b, o, none⟩ ∧ b < w.heap.size ∧ ∀ j u, xs[j]? = some u → w.cell? ⟨b, o + j, none⟩ = some u

theorem At.nil (w : World) (A : Option Addr) : At w A [] := fun h => absurd rfl h

theorem At.later {w w' : World} {A : Option Addr} {xs : List Value} (h : At w A xs) {D : Nat} (hb : Below D w w') (hD : w.heap.size ≤ D) : At w' A xs := fun hx => by
  obtain ⟨b, o, hA, hlt, hc⟩ := h hx
  exact ⟨b, o, hA, Nat.lt_of_lt_of_le hlt hb.size, fun j u hu => by rw [hb.cell (by simp only; omega)]; exact hc j u hu⟩

/-- What an owned row bears. -/
theorem At.ofOwn {w : World} {B e size n c : Nat} {A : Option Addr} {xs : List Value} (h : w.ownsRow B e size (.slice A n c) n xs) : At w A xs := fun hx => by
  rcases h.2 with ⟨_, hn⟩ | ⟨g, cap, cur, hv, hg, hh, _⟩
  · subst hn
    have := h.1
    simp at this
    exact absurd this hx
  · injection hv with hA
    subst hA
    have hlt : g < w.heap.size := (Array.getElem?_eq_some_iff.1 hh).1
    refine ⟨g, 0, rfl, hlt, fun j u hu => ?_⟩
    have := h.cells (g := g) rfl j u hu
    rw [Addr.add_lit] at this
    exact this

/-- The cell j of a row of structs: element i, field f. -/
theorem At.cellOf {w : World} {A : Option Addr} {xs : List Value} (h : At w A xs) (hne : xs ≠ []) : ∃ b o, A = some ⟨b, o, none⟩ ∧ b < w.heap.size ∧ ∀ j u, xs[j]? = some u → w.cell? ⟨b, o + j, none⟩ = some u := h hne

theorem rows_get {α : Type} (f : α → List Value) (s : Nat) (hs : ∀ a, (f a).length = s) (l : List α) (i j : Nat) (hj : j < s) : ((l.map f).flatten)[i * s + j]? = (l[i]?).bind fun a => (f a)[j]? := by
  induction l generalizing i with
  | nil => simp
  | cons a l ih =>
    simp only [List.map_cons, List.flatten_cons]
    cases i with
    | zero =>
      rw [Nat.zero_mul, Nat.zero_add, List.getElem?_append_left (by rw [hs]; exact hj)]
      rfl
    | succ i =>
      rw [List.getElem?_append_right (by rw [hs, Nat.succ_mul]; omega), hs, Nat.succ_mul, show i * s + s + j - s = i * s + j by omega, ih]
      rfl

theorem rows_length {α : Type} (f : α → List Value) (s : Nat) (hs : ∀ a, (f a).length = s) (l : List α) : ((l.map f).flatten).length = l.length * s := by
  induction l with
  | nil => simp
  | cons a l ih => simp only [List.map_cons, List.flatten_cons, List.length_append, hs, ih, List.length_cons, Nat.succ_mul]; omega

def actCells (a : ActV) : List Value := [.int .u8 a.kind, .int .i64 a.who, .int .i64 a.n, .int .i64 a.m]
def actRows (l : List ActV) : List Value := (l.map actCells).flatten
theorem actRows_get (l : List ActV) (i j : Nat) (hj : j < 4) : (actRows l)[i * 4 + j]? = (l[i]?).bind fun a => (actCells a)[j]? := rows_get actCells 4 (fun _ => rfl) l i j hj
theorem actRows_length (l : List ActV) : (actRows l).length = l.length * 4 := rows_length actCells 4 (fun _ => rfl) l

/-- The four cells of act k. -/
theorem At.act {w : World} {A : Option Addr} {l : List ActV} (h : At w A (actRows l)) {k : Nat} {kd who n m : Int} (hk : l[k]? = some ⟨kd, who, n, m⟩) : ∃ b o, A = some ⟨b, o, none⟩ ∧ b < w.heap.size ∧
    w.cell? ⟨b, o + k * 4, none⟩ = some (.int .u8 kd) ∧ w.cell? ⟨b, o + k * 4 + 1, none⟩ = some (.int .i64 who) ∧ w.cell? ⟨b, o + k * 4 + 2, none⟩ = some (.int .i64 n) ∧ w.cell? ⟨b, o + k * 4 + 3, none⟩ = some (.int .i64 m) := by
  have hlt : k < l.length := (List.getElem?_eq_some_iff.1 hk).1
  obtain ⟨b, o, hA, hb, hc⟩ := h (fun e => by have := actRows_length l; rw [e] at this; simp at this; omega)
  have g : ∀ j, j < 4 → (actRows l)[k * 4 + j]? = (actCells ⟨kd, who, n, m⟩)[j]? := fun j hj => by rw [actRows_get l k j hj, hk]; rfl
  exact ⟨b, o, hA, hb, hc _ _ (g 0 (by omega)), by have := hc _ _ (g 1 (by omega)); rwa [← Nat.add_assoc] at this, by have := hc _ _ (g 2 (by omega)); rwa [← Nat.add_assoc] at this, by have := hc _ _ (g 3 (by omega)); rwa [← Nat.add_assoc] at this⟩

/-- 'Below', over a new block and a draw. -/
theorem below_alloc {w : World} (o : Obj) : Below w.heap.size w (w.alloc o) := (Below.refl _ _).alloc (Nat.le_refl _) _

/-- What lies below block B reads as it did: two rules for a walk. -/
theorem bcell {B : Nat} {w w1 : World} (hb : Below B w w1) : (∀ b o, b < B → w1.cell? ⟨b, o, none⟩ = w.cell? ⟨b, o, none⟩) ∧ (∀ b o, b < B → w1.frozen? ⟨b, o, none⟩ = w.frozen? ⟨b, o, none⟩) :=
  ⟨fun b o h => hb.cell (p := ⟨b, o, none⟩) h, fun b o h => hb.frozen (p := ⟨b, o, none⟩) h⟩

theorem grownBy_of_below {w w' : World} (h : Below w.heap.size w w') : w.grownBy w' none := ⟨h.os, h.tape, h.output, h.size, fun k hk _ => h.block k hk⟩
theorem World.grownBy.below {B : Nat} {w w' : World} {row : Option Nat} (h : w.grownBy w' row) (hB : B ≤ w.heap.size) (hr : ∀ k, row = some k → B ≤ k) : Below B w w' := (Below.refl B w).grown h hB hr

/-- Two strings held against each other. -/
theorem str_eq {a b : ByteArray} (h : (a.toList == b.toList) = true) : a.data.toList = b.data.toList := by
  have := beq_iff_eq.1 h
  rwa [Lib.toList_data, Lib.toList_data] at this
theorem str_ne {a b : ByteArray} (h : (a.toList == b.toList) = false) : a.data.toList ≠ b.data.toList := by
  have := beq_eq_false_iff_ne.1 h
  rwa [Lib.toList_data, Lib.toList_data] at this
theorem str_beq (a b : ByteArray) : (a.toList == b.toList) = decide (a.data.toList = b.data.toList) := by
  rw [Lib.toList_data, Lib.toList_data, Bool.eq_iff_iff]; simp

end Go.Proofs.YtebgaglofabegaaDoor
