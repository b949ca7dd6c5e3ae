/-
  The document's count of digits.
-/
import Derived.Test.YtebgaglofabegaaDoorRf1
import Derived.Test.YtebgaglofabegaaDoorActG
namespace Go.Proofs.YtebgaglofabegaaDoor
open Go.RowKit Go.Lib

/-- The number that a string of digits is, if it is at most so much. -/
def countB (l : Bs) (most : Int) : Option Int := match canonN l with
  | some n => if (n : Int) ≤ most then some n else none
  | none => none
def countV (l : Bs) (most : Int) : Int := (countB l most).getD 0

theorem countB_some {l : Bs} {most n : Int} : countB l most = some n ↔ 0 ≤ n ∧ n ≤ most ∧ itoa n = l := by
  unfold countB
  constructor
  · intro h
    split at h
    · rename_i m hm
      split at h
      · rename_i hle
        simp only [Option.some.injEq] at h
        subst h
        refine ⟨by omega, hle, ?_⟩
        rw [itoa_nonneg _ (by omega)]
        exact (canonN_iff _ _).1 hm
      · cases h
    · cases h
  · rintro ⟨h0, h1, h2⟩
    rw [itoa_nonneg n h0] at h2
    have := (canonN_iff l n.toNat).2 h2
    rw [this]
    simp only
    rw [if_pos (by omega)]
    congr 1
    omega

theorem digVal_take (l : Bs) (k : Nat) : digVal 0 (l.take k) ≤ digVal 0 l := by
  conv => rhs; rw [← List.take_append_drop k l]
  generalize l.take k = a
  generalize l.drop k = b
  induction b generalizing a with
  | nil => rw [List.append_nil]; exact Nat.le_refl _
  | cons x b ih =>
    have h := ih (a ++ [x])
    rw [List.append_assoc] at h
    rw [digVal_append] at h
    have : digVal 0 a ≤ digVal 0 a * 10 + (x.toNat - 48) := by omega
    exact Nat.le_trans this h

/-- No such number, once a byte is no digit. -/
theorem countB_bad {l : Bs} {most : Int} {k : Nat} {c : UInt8} (hk : l[k]? = some c) (hc : c.toNat < 48 ∨ 57 < c.toNat) : countB l most = none := by
  cases h : countB l most with
  | none => rfl
  | some n =>
    obtain ⟨h0, _, h2⟩ := countB_some.1 h
    rw [itoa_nonneg n h0] at h2
    have ha := decDigits_all n.toNat
    rw [h2] at ha
    have := List.all_eq_true.1 ha c (List.mem_of_getElem? hk)
    simp [isDig] at this
    omega

/-- No such number, once what is read is above. -/
theorem countB_big {l : Bs} {most : Int} {k : Nat} (h : most < (digVal 0 (l.take k) : Int)) : countB l most = none := by
  cases hc : countB l most with
  | none => rfl
  | some n =>
    obtain ⟨h0, h1, h2⟩ := countB_some.1 hc
    rw [itoa_nonneg n h0] at h2
    have := decDigits_val n.toNat
    rw [h2] at this
    have := digVal_take l k
    omega

set_option maxRecDepth 100000 in
set_option maxHeartbeats 1000000 in
theorem count_any (s : ByteArray) (most : Int) (hm0 : 0 ≤ most) (hm : most ≤ 4503599627370496) (hs : s.size ≤ 4194304) (w : World) :
    Calls Tryd.prog 51 #[.string s, .int .i64 most] w fun e w' => e = .returned (.tuple #[.int .i64 (countV s.data.toList most), .bool (countB s.data.toList most).isSome]) ∧ Below w.heap.size w w' := by
  have Hlen := Lib.hid (size_toList s)
  go_enter Tryd.func51, Tryd.ntmps51
  go_wp2_with fail
  go_loopw [6, 7] (fun n i wr => ∃ k : Nat, k ≤ s.size ∧ i = .int .i64 k ∧ n = .int .i64 (digVal 0 (s.data.toList.take k)) ∧ (digVal 0 (s.data.toList.take (k - 1)) : Int) ≤ most ∧ (∀ j c, j < k → s.data.toList[j]? = some c → 48 ≤ c.toNat ∧ c.toNat ≤ 57) ∧ Below w.heap.size w wr) (fun _ i _ => s.size - (RowKit.intOf i).toNat)
  case atStart => exact ⟨0, Nat.zero_le _, rfl, rfl, hm0, (fun j c hj => by omega), Below.refl _ _⟩
  case round =>
    obtain ⟨k, hks, rfl, rfl, hle, hdig, hb⟩ := hrel
    have hk1 : digVal 0 (s.data.toList.take k) ≤ 10 * digVal 0 (s.data.toList.take (k - 1)) + 9 := by
      cases k with
      | zero => exact Nat.zero_le _
      | succ k =>
        have hkl : k < s.data.toList.length := by have := Hlen.out; omega
        have hd := hdig k _ (by omega) (List.getElem?_eq_getElem hkl)
        rw [List.take_succ_eq_append_getElem hkl, digVal_append, Nat.add_sub_cancel]
        omega
    generalize hV : digVal 0 (s.data.toList.take k) = V at hk1
    by_cases hlt : k < s.size
    · obtain ⟨c, hck⟩ : ∃ c, s.data.toList[k]? = some c := ⟨_, List.getElem?_eq_getElem (by have := Hlen.out; omega)⟩
      have hkl : k < s.data.toList.length := by have := Hlen.out; omega
      have hix : ∀ h, s[k]'h = c := fun h => by
        rw [List.getElem?_eq_getElem hkl] at hck
        exact Option.some.inj hck
      clear hkl
      have hltI : (k : Int) < (s.size : Int) := by omega
      by_cases hc : c.toNat < 48 ∨ 57 < c.toNat
      · have hb0 := countB_bad (most := most) hck hc
        have hv0 : countV s.data.toList most = 0 := by unfold countV; rw [hb0]; rfl
        have Hb := Lib.hid hb0
        have Hv := Lib.hid hv0
        clear hb0 hv0 hdig hle hk1
        rcases hc with hc | hc
        · have hcI : (c.toNat : Int) < 48 := by omega
          clear hc
          go_wp2_with fail
          go_ret2
          exact ⟨ret_tuple (by rw [Hv.out, Hb.out]; rfl), hb⟩
        · have hcI : (57 : Int) < (c.toNat : Int) := by omega
          have hcI' : (48 : Int) ≤ (c.toNat : Int) := by omega
          clear hc
          go_wp2_with fail
          go_ret2
          exact ⟨ret_tuple (by rw [Hv.out, Hb.out]; rfl), hb⟩
      · have hc1 : (48 : Int) ≤ (c.toNat : Int) := by omega
        have hc2 : (c.toNat : Int) ≤ 57 := by omega
        by_cases hbig : most < (V : Int)
        · have hb0 : countB s.data.toList most = none := countB_big (k := k) (by rw [hV]; exact hbig)
          have hv0 : countV s.data.toList most = 0 := by unfold countV; rw [hb0]; rfl
          have Hb := Lib.hid hb0
          have Hv := Lib.hid hv0
          clear hb0 hv0 hdig hle hk1
          go_wp2_with fail
          go_ret2
          exact ⟨ret_tuple (by rw [Hv.out, Hb.out]; rfl), hb⟩
        · have hsm : (V : Int) ≤ most := by omega
          have ek : s.data.toList.take (k + 1) = s.data.toList.take k ++ [c] := by
            have hkl : k < s.data.toList.length := by have := Hlen.out; omega
            rw [List.take_succ_eq_append_getElem hkl]
            rw [List.getElem?_eq_getElem hkl] at hck
            rw [Option.some.inj hck]
          have eV : digVal 0 (s.data.toList.take (k + 1)) = V * 10 + (c.toNat - 48) := by rw [ek, digVal_append, hV]
          have hdig' : ∀ j d, j < k + 1 → s.data.toList[j]? = some d → 48 ≤ d.toNat ∧ d.toNat ≤ 57 := fun j d hj hd => by
            by_cases h : j < k
            · exact hdig j d h hd
            · have : j = k := by omega
              subst this
              rw [hck] at hd
              cases hd
              omega
          have Hd := Lib.hid hdig'
          have He := Lib.hid eV
          clear hdig hdig' eV ek
          go_wp2_with fail
          refine ⟨⟨k + 1, by omega, by go_num, ?_, ?_, Hd.out, hb⟩, by simp [RowKit.intOf]; omega⟩
          · rw [He.out]; congr 1; omega
          · rw [Nat.add_sub_cancel, hV]; exact hsm
    · have hke : k = s.size := by omega
      have hge : (s.size : Int) ≤ (k : Int) := by omega
      have hVl : digVal 0 s.data.toList = V := by rw [← hV, hke, Hlen.out, List.take_length]
      by_cases hnil : s.data.toList = []
      · have hb0 : countB s.data.toList most = none := by
          cases h : countB s.data.toList most with
          | none => rfl
          | some n => exact absurd ((countB_some.1 h).2.2.trans hnil) (itoa_ne n)
        have hv0 : countV s.data.toList most = 0 := by unfold countV; rw [hb0]; rfl
        have hem : s.toList.isEmpty = true := by rw [Lib.toList_data, hnil]; rfl
        have Hb := Lib.hid hb0
        have Hv := Lib.hid hv0
        clear hb0 hv0 hdig hle hk1 hnil hVl hV hke
        go_wp2_with fail
        go_ret2
        exact ⟨ret_tuple (by rw [Hv.out, Hb.out]; rfl), hb⟩
      · have hem : s.toList.isEmpty = false := by
          rw [Lib.toList_data]
          cases h : s.data.toList with
          | nil => exact absurd h hnil
          | cons => rfl
        by_cases hbig : most < (V : Int)
        · have hb0 : countB s.data.toList most = none := countB_big (k := k) (by rw [hV]; exact hbig)
          have hv0 : countV s.data.toList most = 0 := by unfold countV; rw [hb0]; rfl
          have Hb := Lib.hid hb0
          have Hv := Lib.hid hv0
          clear hb0 hv0 hdig hle hk1 hnil hVl hV hke
          go_wp2_with fail
          go_ret2
          exact ⟨ret_tuple (by rw [Hv.out, Hb.out]; rfl), hb⟩
        · have hsm : (V : Int) ≤ most := by omega
          have N := number_any V (V : Int) rfl (by omega) wr
          by_cases heq : itoa (V : Int) = s.data.toList
          · have hb0 : countB s.data.toList most = some (V : Int) := countB_some.2 ⟨by omega, hsm, heq⟩
            have hv0 : countV s.data.toList most = V := by unfold countV; rw [hb0]; rfl
            have hbeq : ((mk (itoa (V : Int))).toList == s.toList) = true := by rw [str_beq, mk_data, decide_eq_true heq]
            have Hb := Lib.hid hb0
            have Hv := Lib.hid hv0
            clear hb0 hv0 hdig hle hk1 hnil hVl hV hke heq hbig
            go_wp2_with fail
            refine N.mono ?_
            rintro e w1 ⟨rfl, rfl⟩
            go_wp2_with fail
            go_ret2
            exact ⟨ret_tuple (by rw [Hv.out, Hb.out]; rfl), hb⟩
          · have hb0 : countB s.data.toList most = none := by
              cases h : countB s.data.toList most with
              | none => rfl
              | some n =>
                obtain ⟨h0, h1, h2⟩ := countB_some.1 h
                have h3 := h2
                rw [itoa_nonneg n h0] at h3
                have h4 := decDigits_val n.toNat
                rw [h3, hVl] at h4
                exact absurd (by rw [h4, Int.toNat_of_nonneg h0]; exact h2) heq
            have hv0 : countV s.data.toList most = 0 := by unfold countV; rw [hb0]; rfl
            have hbeq : ((mk (itoa (V : Int))).toList == s.toList) = false := by rw [str_beq, mk_data, decide_eq_false heq]
            have Hb := Lib.hid hb0
            have Hv := Lib.hid hv0
            clear hb0 hv0 hdig hle hk1 hnil hVl hV hke heq hbig
            go_wp2_with fail
            refine N.mono ?_
            rintro e w1 ⟨rfl, rfl⟩
            go_wp2_with fail
            go_ret2
            exact ⟨ret_tuple (by rw [Hv.out, Hb.out]; rfl), hb⟩

end Go.Proofs.YtebgaglofabegaaDoor
