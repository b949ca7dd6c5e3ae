/-
  Texts of acts: what is put is got; what is got may be told. No program stands here.
-/
import Derived.Test.YtebgaglofabegaaDoorSc6
namespace Go.Proofs.YtebgaglofabegaaDoor
open Go.Lib

theorem actTxt_unl (l : List ActV) : actTxt l = unl (l.map actLine) := by unfold actTxt unl; rw [List.map_map]; rfl

theorem pieces_acts (l : List ActV) : pieces (actTxt l) = l.map fun a => (actLine a, true) := by
  have h := lns_unl (l.map actLine) (fun w hw => by obtain ⟨a, _, rfl⟩ := List.mem_map.1 hw; exact actLine_clean a)
  unfold pieces
  rw [actTxt_unl, h.1, h.2, if_pos rfl, List.append_nil, List.map_map]; rfl

theorem getGo_acts : ∀ (l : List ActV) (acc : List ActV) (k : Nat), allOk l → acc.length + l.length ≤ 4096 → getGo (l.map fun a => (actLine a, true)) acc k = (acc ++ l, 0, 0)
  | [], acc, k, _, _ => by simp [getGo]
  | a :: l, acc, k, ho, hl => by
    have hoa : okAct a := ho a (by simp)
    obtain ⟨c, r, hc, hne⟩ := actLine_head a hoa
    have h1 : skipL (actLine a) = false := by rw [hc]; simp [skipL, hne]
    obtain ⟨e1, e2⟩ := parse_good (parseAct_line a hoa)
    simp only [List.length_cons] at hl
    have h3 : acc.length ≠ 4096 := by omega
    rw [List.map_cons, getGo, if_neg (by simp), if_neg (by simp [h1]), if_neg (by simp [e2]), if_neg h3, e1, getGo_acts l (acc ++ [a]) (k + 1) (fun x hx => ho x (List.mem_cons_of_mem _ hx)) (by simp; omega)]
    simp

/-- What is put is got. -/
theorem get_put (l : List ActV) (h : allOk l) (hl : l.length ≤ 4096) : getGo (pieces (actTxt l)) [] 0 = (l, 0, 0) := by
  rw [pieces_acts, getGo_acts l [] 0 h (by simpa using hl)]; rfl

/-- What is got may be told. -/
theorem getGo_ok : ∀ (ps : List (Bs × Bool)) (acc : List ActV) (k : Nat), allOk acc → acc.length ≤ 4096 → allOk (getGo ps acc k).1 ∧ (getGo ps acc k).1.length ≤ 4096
  | [], acc, k, ho, hl => ⟨ho, hl⟩
  | (l, wh) :: r, acc, k, ho, hl => by
    have hnil : allOk ([] : List ActV) ∧ ([] : List ActV).length ≤ 4096 := ⟨(fun a ha => by cases ha), Nat.zero_le _⟩
    rw [getGo]
    split
    · exact hnil
    · split
      · exact getGo_ok r acc (k + 1) ho hl
      · split
        · exact hnil
        · rename_i hp
          split
          · exact hnil
          · rename_i hn
            have hpa : ∃ a, parseAct l = some a := by
              cases hq : parseAct l with
              | none => exact absurd (parse_fail hq).2 (by rw [Decidable.not_not.1 hp]; decide)
              | some a => exact ⟨a, rfl⟩
            obtain ⟨a, ha⟩ := hpa
            rw [(parse_good ha).1]
            refine getGo_ok r (acc ++ [a]) (k + 1) (fun x hx => ?_) (by simp; omega)
            rcases List.mem_append.1 hx with h | h
            · exact ho x h
            · rw [List.mem_singleton.1 h]; exact ((parseAct_iff l a).1 ha).1

theorem get_ok (t : Bs) : allOk (getGo (pieces t) [] 0).1 ∧ (getGo (pieces t) [] 0).1.length ≤ 4096 := getGo_ok _ _ _ (fun a ha => by cases ha) (Nat.zero_le _)

theorem put_ok (l : List ActV) (h : allOk l) (hl : l.length ≤ 4096) : putB l = actTxt l ∧ putE l = 0 := by
  unfold putB putE
  have h4 : ¬ 4096 < l.length := by omega
  rw [if_neg h4, if_neg h4, if_pos h, if_pos h]; exact ⟨rfl, rfl⟩

theorem put_ok_iff (l : List ActV) : putE l = 0 ↔ allOk l ∧ l.length ≤ 4096 := by
  unfold putE
  constructor
  · intro h
    split at h
    · cases h
    · split at h
      · exact ⟨by assumption, by omega⟩
      · cases h
  · rintro ⟨h, hl⟩
    rw [if_neg (by omega), if_pos h]

theorem parse_line (l : Bs) (h : parseE l = 0) : okAct (parseA l) ∧ actLine (parseA l) = l := by
  cases hq : parseAct l with
  | none => exact absurd (parse_fail hq).2 (by rw [h]; decide)
  | some a => rw [(parse_good hq).1]; exact (parseAct_iff l a).1 hq

/-! ### The answers that the law asks for first -/

theorem lives_put : putB [⟨1, 0, 5, 0⟩, ⟨2, 0, 2, 7⟩] = [97, 100, 118, 97, 110, 99, 101, 32, 53, 10, 114, 97, 105, 115, 101, 32, 48, 32, 50, 32, 55, 10] ∧ putE [⟨1, 0, 5, 0⟩, ⟨2, 0, 2, 7⟩] = 0 := by decide +kernel
theorem lives_get : getGo (pieces [35, 32, 97, 32, 114, 101, 109, 97, 114, 107, 10, 10, 97, 100, 118, 97, 110, 99, 101, 32, 53, 10, 114, 97, 105, 115, 101, 32, 48, 32, 50, 32, 55, 10]) [] 0 = ([⟨1, 0, 5, 0⟩, ⟨2, 0, 2, 7⟩], 0, 0) := by decide +kernel
theorem lives_bad : getGo (pieces [97, 100, 118, 97, 110, 99, 101, 32, 53, 10, 97, 100, 118, 97, 110, 99, 101, 32, 48, 53, 10]) [] 0 = ([], 2, 8) := by decide +kernel
theorem lives_end : getGo (pieces [97, 100, 118, 97, 110, 99, 101, 32, 53]) [] 0 = ([], 1, 8) := by decide +kernel
theorem lives_p1 : parseA [115, 117, 115, 112, 101, 110, 100, 32, 51] = ⟨6, 3, 0, 0⟩ ∧ parseE [115, 117, 115, 112, 101, 110, 100, 32, 51] = 0 := by decide +kernel
theorem lives_p2 : parseAct [115, 117, 115, 112, 101, 110, 100, 32, 51, 32, 48] = none := by decide +kernel

end Go.Proofs.YtebgaglofabegaaDoor
