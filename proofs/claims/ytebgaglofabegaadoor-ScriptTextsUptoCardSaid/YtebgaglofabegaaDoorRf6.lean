/-
  The document's Parse.
-/
import Derived.Test.YtebgaglofabegaaDoorRf5
namespace Go.Proofs.YtebgaglofabegaaDoor
open Go.RowKit Go.Lib

/-- The act that the document tries at a kind. -/
def cand (k v0 v1 v2 : Int) : ActV := if k = 1 then ⟨1, 0, v0, 0⟩ else ⟨k, v0, v1, v2⟩

/-- So many numbers are read. -/
structure Nums (ws : List Bs) (j : Nat) (v0 v1 v2 : Int) : Prop where
  r : 0 ≤ v0 ∧ v0 ≤ 4503599627370496 ∧ 0 ≤ v1 ∧ v1 ≤ 4503599627370496 ∧ 0 ≤ v2 ∧ v2 ≤ 4503599627370496
  a0 : (0 < j → ∃ b, ws[1]? = some b ∧ itoa v0 = b) ∧ (j ≤ 0 → v0 = 0)
  a1 : (1 < j → ∃ b, ws[2]? = some b ∧ itoa v1 = b) ∧ (j ≤ 1 → v1 = 0)
  a2 : (2 < j → ∃ b, ws[3]? = some b ∧ itoa v2 = b) ∧ (j ≤ 2 → v2 = 0)

theorem act_words {l : Bs} {a : ActV} (h : parseAct l = some a) : parts 32 l = actWord a.kind :: (actNums a).map itoa := by
  obtain ⟨hok, rfl⟩ := (parseAct_iff l a).1 h
  exact parts_line _ _ (actWord_clean _).1

/-- A word that is no number: no act. -/
theorem parse_none_bad {l b : Bs} {j : Nat} (hb : (parts 32 l)[j + 1]? = some b) (hc : countB b 4503599627370496 = none) : parseAct l = none := by
  cases h : parseAct l with
  | none => rfl
  | some a =>
    have hw := act_words h
    obtain ⟨hok, _⟩ := (parseAct_iff l a).1 h
    rw [hw, List.getElem?_cons_succ, List.getElem?_map] at hb
    cases hn : (actNums a)[j]? with
    | none => rw [hn] at hb; cases hb
    | some x =>
      rw [hn] at hb
      simp only [Option.map_some, Option.some.injEq] at hb
      have hr := ok_nums hok x (List.mem_of_getElem? hn)
      have := countB_some.2 ⟨hr.1, hr.2, hb⟩
      rw [hc] at this
      cases this

/-- No candidate: no act. -/
theorem parse_none_all {l : Bs} {j : Nat} {v0 v1 v2 : Int} (hN : Nums (parts 32 l) j v0 v1 v2) (hj : (parts 32 l).length ≤ j + 1 ∨ 3 ≤ j)
    (hno : ∀ k : Int, 1 ≤ k → k < 8 → ¬ (okAct (cand k v0 v1 v2) ∧ actLine (cand k v0 v1 v2) = l)) : parseAct l = none := by
  cases h : parseAct l with
  | none => rfl
  | some a =>
    exfalso
    have hw := act_words h
    obtain ⟨hok, hl⟩ := (parseAct_iff l a).1 h
    refine hno a.kind hok.1 (by have := hok.2.1; omega) ?_
    suffices hc : cand a.kind v0 v1 v2 = a by rw [hc]; exact ⟨hok, hl⟩
    have hnn := ok_nums hok
    have key : ∀ (p : Nat) (x v : Int), (actNums a)[p]? = some x → 0 ≤ v → (p < j → ∃ b, (parts 32 l)[p + 1]? = some b ∧ itoa v = b) → p < 3 → v = x := by
      intro p x v hx hv hb hp
      have hlen : p + 1 < (parts 32 l).length := by
        rw [hw]; simp only [List.length_cons, List.length_map]
        have := (List.getElem?_eq_some_iff.1 hx).1; omega
      obtain ⟨b, hb1, hb2⟩ := hb (by omega)
      rw [hw, List.getElem?_cons_succ, List.getElem?_map, hx] at hb1
      simp only [Option.map_some, Option.some.injEq] at hb1
      exact itoa_inj hv (hnn x (List.mem_of_getElem? hx)).1 (hb2.trans hb1.symm)
    have miss : ∀ (p : Nat) (v : Int), (actNums a)[p]? = none → (j ≤ p → v = 0) → (p < j → ∃ b, (parts 32 l)[p + 1]? = some b ∧ itoa v = b) → v = 0 := by
      intro p v hx h0 h1
      by_cases hp : p < j
      · obtain ⟨b, hb1, _⟩ := h1 hp
        rw [hw, List.getElem?_cons_succ, List.getElem?_map, hx] at hb1
        cases hb1
      · exact h0 (by omega)
    obtain ⟨kd, who, n, m⟩ := a
    obtain ⟨r1, r2, r3, r4, r5, r6⟩ := hN.r
    obtain ⟨o1, o2, _, _, _, _, o7, o8, o9⟩ := hok
    dsimp only at o1 o2 o7 o8 o9
    have hk : kd = 1 ∨ kd = 2 ∨ kd = 3 ∨ kd = 4 ∨ kd = 5 ∨ kd = 6 ∨ kd = 7 := by omega
    rcases hk with rfl | rfl | rfl | rfl | rfl | rfl | rfl
    · have e0 := key 0 n v0 rfl r1 hN.a0.1 (by omega)
      have := o7 rfl
      subst e0
      show (⟨1, 0, v0, 0⟩ : ActV) = ⟨1, who, v0, m⟩
      rw [this.1, this.2]
    · have e0 := key 0 who v0 rfl r1 hN.a0.1 (by omega)
      have e1 := key 1 n v1 rfl r3 hN.a1.1 (by omega)
      have e2 := key 2 m v2 rfl r5 hN.a2.1 (by omega)
      subst e0 e1 e2; rfl
    · have e0 := key 0 who v0 rfl r1 hN.a0.1 (by omega)
      have e1 := key 1 n v1 rfl r3 hN.a1.1 (by omega)
      have e2 := miss 2 v2 rfl hN.a2.2 hN.a2.1
      have := o8 (.inl rfl)
      subst e0 e1 e2 this; rfl
    · have e0 := key 0 who v0 rfl r1 hN.a0.1 (by omega)
      have e1 := key 1 n v1 rfl r3 hN.a1.1 (by omega)
      have e2 := key 2 m v2 rfl r5 hN.a2.1 (by omega)
      subst e0 e1 e2; rfl
    · have e0 := key 0 who v0 rfl r1 hN.a0.1 (by omega)
      have e1 := key 1 n v1 rfl r3 hN.a1.1 (by omega)
      have e2 := miss 2 v2 rfl hN.a2.2 hN.a2.1
      have := o8 (.inr rfl)
      subst e0 e1 e2 this; rfl
    · have e0 := key 0 who v0 rfl r1 hN.a0.1 (by omega)
      have e1 := miss 1 v1 rfl hN.a1.2 hN.a1.1
      have e2 := miss 2 v2 rfl hN.a2.2 hN.a2.1
      have := o9 (.inl rfl)
      obtain ⟨t1, t2⟩ := this
      subst e0 e1 e2 t1 t2; rfl
    · have e0 := key 0 who v0 rfl r1 hN.a0.1 (by omega)
      have e1 := miss 1 v1 rfl hN.a1.2 hN.a1.1
      have e2 := miss 2 v2 rfl hN.a2.2 hN.a2.1
      have := o9 (.inr rfl)
      obtain ⟨t1, t2⟩ := this
      subst e0 e1 e2 t1 t2; rfl

/-- A candidate that has the line is the act. -/
theorem parse_some_cand {l : Bs} {k v0 v1 v2 : Int} (hok : okAct (cand k v0 v1 v2)) (hl : actLine (cand k v0 v1 v2) = l) : parseA l = cand k v0 v1 v2 ∧ parseE l = 0 :=
  parse_good ((parseAct_iff l _).2 ⟨hok, hl⟩)

end Go.Proofs.YtebgaglofabegaaDoor
