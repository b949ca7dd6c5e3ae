/-
  What the walks know of the package-level variables, and that it lasts.
-/
import Derived.Test.YtebgaglofabegaaDoorShelf
import Derived.Test.YtebgaglofabegaaDoorAct
import Derived.WalkKit
import Derived.WalkSpells
import Derived.WalkLawsBesides
import Derived.Deep.QuietTactic
import Derived.BigQuiet
import Derived.Deep.RegionHeld3
import Derived.Deep.Light
import Derived.Deep.DeepCutAuto
import Derived.Deep.AppendLies
import Derived.Maps.AppendAt
import Derived.Lib.AppendStr
import Derived.Lib.OthersKept
namespace Go.Proofs.YtebgaglofabegaaDoor
open Go.RowKit Go.Lib

structure Env (w : World) : Prop where
  low : 10 ≤ w.heap.size
  maxlen : ∃ m : Int, w.cell? ⟨2, 0, none⟩ = some (.int .i64 m)
  syn : ∃ te pe, w.cell? ⟨3, 0, none⟩ = some (.iface te pe)
  rng : ∃ te pe, w.cell? ⟨4, 0, none⟩ = some (.iface te pe)
  pow : TabIs Tryd.prog w "internal/strconv.uint64pow10" .u64 pow10Tab

theorem gPow : Tryd.prog.globalNamed "internal/strconv.uint64pow10" = some 5 := by kernel_rfl

theorem tabIs_below {B : Nat} {w w' : World} {name : String} {k : IntKind} {zs : List Int} {g : Nat} (hg : Tryd.prog.globalNamed name = some g) (h : TabIs Tryd.prog w name k zs) (hb : Below B w w') (hB : g < B) : TabIs Tryd.prog w' name k zs := by
  unfold TabIs at h ⊢
  rw [← h]
  unfold World.var?
  rw [hg, Option.bind_some, Option.bind_some, hb.block g hB]

theorem Env.below {B : Nat} {w w' : World} (h : Env w) (hb : Below B w w') (hB : 10 ≤ B) : Env w' where
  low := Nat.le_trans h.low hb.size
  maxlen := by obtain ⟨m, hm⟩ := h.maxlen; exact ⟨m, by rw [hb.cell (by simp only; omega)]; exact hm⟩
  syn := by obtain ⟨a, b, hm⟩ := h.syn; exact ⟨a, b, by rw [hb.cell (by simp only; omega)]; exact hm⟩
  rng := by obtain ⟨a, b, hm⟩ := h.rng; exact ⟨a, b, by rw [hb.cell (by simp only; omega)]; exact hm⟩
  pow := tabIs_below gPow h.pow hb (by omega)

theorem Env.tab {B : Nat} {w : World} (h : Env w) (hB : 10 ≤ B) : TabBelow Tryd.prog B w "internal/strconv.uint64pow10" .u64 pow10Tab :=
  fun _ hb => tabIs_below gPow h.pow hb (by omega)

/-- The table of the acts' words. -/
def ActWords (w : World) : Prop := ∀ k : Int, 0 ≤ k → k < 8 → w.cell? ⟨0, k.toNat, none⟩ = some (.string (mk (actWord k)))
theorem ActWords.below {B : Nat} {w w' : World} (h : ActWords w) (hb : Below B w w') (hB : 10 ≤ B) : ActWords w' := fun k h0 h1 => by
  rw [hb.cell (by simp only; omega)]; exact h k h0 h1

/-- An owned row lies as it lay, if nothing has turned below a block behind it. -/
theorem ownsRow_below {B D : Nat} {e size n : Nat} {v : Value} {xs : List Value} {w w' : World} (h : w.ownsRow B e size v n xs) (hb : Below D w w') (hD : w.heap.size ≤ D) : w'.ownsRow B e size v n xs := by
  refine ⟨h.1, ?_⟩
  rcases h.2 with h2 | ⟨g, cap, cur, hv, hg, hh, r⟩
  · exact .inl h2
  · refine .inr ⟨g, cap, cur, hv, hg, ?_, r⟩
    have hlt : g < w.heap.size := (Array.getElem?_eq_some_iff.1 hh).1
    rw [hb.block g (by omega)]
    exact hh

end Go.Proofs.YtebgaglofabegaaDoor
