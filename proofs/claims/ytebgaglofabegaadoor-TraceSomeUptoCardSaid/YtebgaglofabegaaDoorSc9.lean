/-
  ScriptBack, walked.
-/
import Derived.Test.YtebgaglofabegaaDoorSc8
namespace Go.Proofs.YtebgaglofabegaaDoor
open Go.RowKit Go.Lib

attribute [local go_sem high] eql_act neq_act
attribute [local go_sem] guard_act

theorem ok_kinds {l : List ActV} (h : allOk l) : ∀ a ∈ l, 0 ≤ a.kind := fun a ha => by have := (h a ha).1; omega

theorem parseA_kind (l : Bs) : 0 ≤ (parseA l).kind := by
  cases hq : parseAct l with
  | none => rw [(parse_fail hq).1]; decide
  | some a => rw [(parse_good hq).1]; have := ((parseAct_iff l a).1 hq).1.1; omega

set_option maxRecDepth 100000 in
set_option maxHeartbeats 4000000 in
theorem back_any (l : List ActV) (hk : ∀ a ∈ l, 0 ≤ a.kind) (A : Option Addr) (c : Nat) (text line : ByteArray) (w : World) (hE : Env w) (hW : ActWords w) (hA : At w A (actRows l)) (hlen : l.length ≤ maxLen) (hline : line.size ≤ 4194304) :
    Calls Tryd.prog 6 #[.slice A l.length c, .string text, .string line] w fun e w' => e = .returned (.bool true) ∧ Below w.heap.size w w' := by
  have hlow := hE.low
  have hlen' := hlen
  unfold maxLen at hlen'
  by_cases h1 : (1000 : Int) < (l.length : Int)
  · go_enter Tryd.func6, Tryd.ntmps6
    go_wp2_with fail
    refine (lives31 w hE hW).mono ?_
    rintro e w1 ⟨rfl, hb1⟩
    go_wp2_with fail
    go_ret; exact ⟨rfl, hb1⟩
  by_cases h2 : (20000 : Int) < (text.size : Int)
  · have h1' : (l.length : Int) ≤ 1000 := by omega
    clear h1
    go_enter Tryd.func6, Tryd.ntmps6
    go_wp2_with fail
    refine (lives31 w hE hW).mono ?_
    rintro e w1 ⟨rfl, hb1⟩
    go_wp2_with fail
    go_ret; exact ⟨rfl, hb1⟩
  have h1' : (l.length : Int) ≤ 1000 := by omega
  have h2' : (text.size : Int) ≤ 20000 := by omega
  clear h1 h2
  go_enter Tryd.func6, Tryd.ntmps6
  go_wp2_with fail
  refine (lives31 w hE hW).mono ?_
  rintro e w1 ⟨rfl, hb1⟩
  replace hA := hA.later hb1 (Nat.le_refl _)
  go_wp2_with fail
  refine (put_acts l hk A c w1 (hE.below hb1 hlow) (hW.below hb1 hlow) hA hlen).mono ?_
  rintro e w2 ⟨rfl, k2⟩
  have hb2 := hb1.trans (k2.mono hb1.size)
  replace hA := hA.later k2 (Nat.le_refl _)
  have hpl : (putB l).length ≤ 4194304 := by
    unfold putB
    split
    · exact Nat.zero_le _
    · split
      · rename_i hok
        have := actTxt_len l hok
        have : l.length * 101 ≤ 1000 * 101 := Nat.mul_le_mul_right _ (by omega)
        omega
      · exact Nat.zero_le _
  generalize hm : (getGo (pieces (putB l)) [] 0).1 = m
  generalize hi2 : (getGo (pieces (putB l)) [] 0).2.1 = i2
  generalize hv2 : (getGo (pieces (putB l)) [] 0).2.2 = v2
  have G := get_any (mk (putB l)) w2 (by rw [mk_size]; exact hpl) (hE.below hb2 hlow) (hW.below hb2 hlow)
  rw [mk_data, hm, hi2, hv2] at G
  have hmo := get_ok (putB l)
  rw [hm] at hmo
  generalize hpe : putE l = pe
  have hfst : pe = 0 → v2 = 0 ∧ m = l := fun h0 => by
    have ho := (put_ok_iff l).1 (hpe.trans h0)
    have hg := get_put l ho.1 ho.2
    rw [(put_ok l ho.1 ho.2).1, hg] at hm hv2
    exact ⟨hv2.symm, hm.symm⟩
  clear hm hi2 hv2 hpe
  go_wp2_with fail
  refine G.mono ?_
  clear G
  rintro e w3 ⟨v3, rfl, own3, k3⟩
  obtain ⟨A3, cap3, rfl, at3⟩ := at_owns own3
  clear own3
  have hb3 := hb2.trans (k3.mono hb2.size)
  replace hA := hA.later k3 (Nat.le_refl _)
  have S1 := sameA_any m l A3 A cap3 c w3 at3 hA (by unfold maxLen; omega) hlen
  by_cases hp0 : pe = 0
  · obtain ⟨rfl, rfl⟩ := hfst hp0
    subst hp0
    clear hfst
    rw [decide_eq_true rfl] at S1
    go_wp2_with fail
    refine S1.mono ?_
    clear S1
    rintro e w4 ⟨rfl, k4⟩
    have hb4 := hb3.trans (k4.mono hb3.size)
    go_wp2_with fail
    have T1 := get_any text w4 (by omega) (hE.below hb4 hlow) (hW.below hb4 hlow)
    have hno := get_ok text.data.toList
    generalize (getGo (pieces text.data.toList) [] 0).1 = n at T1 hno
    generalize (getGo (pieces text.data.toList) [] 0).2.1 = j at T1
    generalize (getGo (pieces text.data.toList) [] 0).2.2 = v5 at T1
    refine T1.mono ?_
    clear T1
    rintro e w5 ⟨vn, rfl, own5, k5⟩
    obtain ⟨A5, cap5, rfl, at5⟩ := at_owns own5
    clear own5
    have hb5 := (hb4).trans (k5.mono (hb4).size)
    go_wp2_with fail
    have T1 := put_acts n (ok_kinds hno.1) A5 cap5 w5 (hE.below hb5 hlow) (hW.below hb5 hlow) at5 (by unfold maxLen; omega)
    rw [(put_ok n hno.1 hno.2).1, (put_ok n hno.1 hno.2).2] at T1
    refine T1.mono ?_
    clear T1
    rintro e w6 ⟨rfl, k6⟩
    have hb6 := hb5.trans (k6.mono hb5.size)
    replace at5 := at5.later k6 (Nat.le_refl _)
    have htn : (actTxt n).length ≤ 4194304 := by
      have := actTxt_len n hno.1
      have : n.length * 101 ≤ 4096 * 101 := Nat.mul_le_mul_right _ hno.2
      omega
    go_wp2_with fail
    have T1 := get_any (mk (actTxt n)) w6 (by rw [mk_size]; exact htn) (hE.below hb6 hlow) (hW.below hb6 hlow)
    rw [mk_data, get_put n hno.1 hno.2] at T1
    refine T1.mono ?_
    clear T1
    rintro e w7 ⟨vk, rfl, own7, k7⟩
    obtain ⟨A7, cap7, rfl, at7⟩ := at_owns own7
    clear own7
    have hb7 := hb6.trans (k7.mono hb6.size)
    replace at5 := at5.later k7 (Nat.le_refl _)
    have S2 := sameA_any n n A7 A5 cap7 cap5 w7 at7 at5 (by unfold maxLen; omega) (by unfold maxLen; omega)
    rw [decide_eq_true rfl] at S2
    by_cases hv5 : v5 = 0
    · subst hv5
      go_wp2_with fail
      refine S2.mono ?_
      clear S2
      rintro e w8 ⟨rfl, k8⟩
      have hb8 := hb7.trans (k8.mono hb7.size)
      go_wp2_with fail
      have T1 := parse_any line w8 hline (hE.below hb8 hlow) (hW.below hb8 hlow)
      by_cases hpz : parseE line.data.toList = 0
      · obtain ⟨hoa, hla⟩ := parse_line _ hpz
        rw [hpz] at T1
        generalize parseA line.data.toList = av at T1 hoa hla
        have hkd : 0 ≤ av.kind := by have := hoa.1; omega
        have e1 : checkE ⟨av.kind, av.who, av.n, av.m⟩ = 0 := checkE_ok hoa
        have e2 : lineE ⟨av.kind, av.who, av.n, av.m⟩ = line.data.toList := (if_pos hoa).trans hla
        clear hoa hla
        refine T1.mono ?_
        clear T1
        rintro e w9 ⟨rfl, k9⟩
        have hb9 := (hb8).trans (k9.mono (hb8).size)
        go_wp2_with fail
        have hb10 := hb9.alloc hb9.size (.cells #[.int .u8 av.kind, .int .i64 av.who, .int .i64 av.n, .int .i64 av.m] 32)
        have T1 := line_any av.kind av.who av.n av.m hkd _ (hE.below hb10 hlow) (hW.below hb10 hlow)
        rw [e1, e2, mk_of] at T1
        refine T1.mono ?_
        clear T1
        rintro e w11 ⟨rfl, k11⟩
        have hb11 := hb10.trans (k11.mono hb10.size)
        go_wp2_with fail
        go_ret
        exact ⟨rfl, hb11⟩
      · have hpz' : (parseE line.data.toList != 0) = true := bne_iff_ne.2 hpz
        have hkd : 0 ≤ (parseA line.data.toList).kind := parseA_kind _
        generalize parseA line.data.toList = av at T1 hkd
        generalize parseE line.data.toList = pv at T1 hpz hpz'
        refine T1.mono ?_
        clear T1
        rintro e w9 ⟨rfl, k9⟩
        have hb9 := (hb8).trans (k9.mono (hb8).size)
        go_wp2_with fail
        have hb10 := hb9.alloc hb9.size (.cells #[.int .u8 av.kind, .int .i64 av.who, .int .i64 av.n, .int .i64 av.m] 32)
        have T1 := line_any av.kind av.who av.n av.m hkd _ (hE.below hb10 hlow) (hW.below hb10 hlow)
        refine T1.mono ?_
        clear T1
        rintro e w11 ⟨rfl, k11⟩
        have hb11 := hb10.trans (k11.mono hb10.size)
        go_wp2_with fail
        go_ret
        exact ⟨rfl, hb11⟩
    · have hv5' : (v5 == 0) = false := beq_eq_false_iff_ne.2 hv5
      clear S2
      go_wp2_with fail
      have T1 := parse_any line w7 hline (hE.below hb7 hlow) (hW.below hb7 hlow)
      by_cases hpz : parseE line.data.toList = 0
      · obtain ⟨hoa, hla⟩ := parse_line _ hpz
        rw [hpz] at T1
        generalize parseA line.data.toList = av at T1 hoa hla
        have hkd : 0 ≤ av.kind := by have := hoa.1; omega
        have e1 : checkE ⟨av.kind, av.who, av.n, av.m⟩ = 0 := checkE_ok hoa
        have e2 : lineE ⟨av.kind, av.who, av.n, av.m⟩ = line.data.toList := (if_pos hoa).trans hla
        clear hoa hla
        refine T1.mono ?_
        clear T1
        rintro e w9 ⟨rfl, k9⟩
        have hb9 := (hb7).trans (k9.mono (hb7).size)
        go_wp2_with fail
        have hb10 := hb9.alloc hb9.size (.cells #[.int .u8 av.kind, .int .i64 av.who, .int .i64 av.n, .int .i64 av.m] 32)
        have T1 := line_any av.kind av.who av.n av.m hkd _ (hE.below hb10 hlow) (hW.below hb10 hlow)
        rw [e1, e2, mk_of] at T1
        refine T1.mono ?_
        clear T1
        rintro e w11 ⟨rfl, k11⟩
        have hb11 := hb10.trans (k11.mono hb10.size)
        go_wp2_with fail
        go_ret
        exact ⟨rfl, hb11⟩
      · have hpz' : (parseE line.data.toList != 0) = true := bne_iff_ne.2 hpz
        have hkd : 0 ≤ (parseA line.data.toList).kind := parseA_kind _
        generalize parseA line.data.toList = av at T1 hkd
        generalize parseE line.data.toList = pv at T1 hpz hpz'
        refine T1.mono ?_
        clear T1
        rintro e w9 ⟨rfl, k9⟩
        have hb9 := (hb7).trans (k9.mono (hb7).size)
        go_wp2_with fail
        have hb10 := hb9.alloc hb9.size (.cells #[.int .u8 av.kind, .int .i64 av.who, .int .i64 av.n, .int .i64 av.m] 32)
        have T1 := line_any av.kind av.who av.n av.m hkd _ (hE.below hb10 hlow) (hW.below hb10 hlow)
        refine T1.mono ?_
        clear T1
        rintro e w11 ⟨rfl, k11⟩
        have hb11 := hb10.trans (k11.mono hb10.size)
        go_wp2_with fail
        go_ret
        exact ⟨rfl, hb11⟩
  · have hp0' : (pe == 0) = false := beq_eq_false_iff_ne.2 hp0
    clear S1 hfst
    go_wp2_with fail
    have T1 := get_any text w3 (by omega) (hE.below hb3 hlow) (hW.below hb3 hlow)
    have hno := get_ok text.data.toList
    generalize (getGo (pieces text.data.toList) [] 0).1 = n at T1 hno
    generalize (getGo (pieces text.data.toList) [] 0).2.1 = j at T1
    generalize (getGo (pieces text.data.toList) [] 0).2.2 = v5 at T1
    refine T1.mono ?_
    clear T1
    rintro e w5 ⟨vn, rfl, own5, k5⟩
    obtain ⟨A5, cap5, rfl, at5⟩ := at_owns own5
    clear own5
    have hb5 := (hb3).trans (k5.mono (hb3).size)
    go_wp2_with fail
    have T1 := put_acts n (ok_kinds hno.1) A5 cap5 w5 (hE.below hb5 hlow) (hW.below hb5 hlow) at5 (by unfold maxLen; omega)
    rw [(put_ok n hno.1 hno.2).1, (put_ok n hno.1 hno.2).2] at T1
    refine T1.mono ?_
    clear T1
    rintro e w6 ⟨rfl, k6⟩
    have hb6 := hb5.trans (k6.mono hb5.size)
    replace at5 := at5.later k6 (Nat.le_refl _)
    have htn : (actTxt n).length ≤ 4194304 := by
      have := actTxt_len n hno.1
      have : n.length * 101 ≤ 4096 * 101 := Nat.mul_le_mul_right _ hno.2
      omega
    go_wp2_with fail
    have T1 := get_any (mk (actTxt n)) w6 (by rw [mk_size]; exact htn) (hE.below hb6 hlow) (hW.below hb6 hlow)
    rw [mk_data, get_put n hno.1 hno.2] at T1
    refine T1.mono ?_
    clear T1
    rintro e w7 ⟨vk, rfl, own7, k7⟩
    obtain ⟨A7, cap7, rfl, at7⟩ := at_owns own7
    clear own7
    have hb7 := hb6.trans (k7.mono hb6.size)
    replace at5 := at5.later k7 (Nat.le_refl _)
    have S2 := sameA_any n n A7 A5 cap7 cap5 w7 at7 at5 (by unfold maxLen; omega) (by unfold maxLen; omega)
    rw [decide_eq_true rfl] at S2
    by_cases hv5 : v5 = 0
    · subst hv5
      go_wp2_with fail
      refine S2.mono ?_
      clear S2
      rintro e w8 ⟨rfl, k8⟩
      have hb8 := hb7.trans (k8.mono hb7.size)
      go_wp2_with fail
      have T1 := parse_any line w8 hline (hE.below hb8 hlow) (hW.below hb8 hlow)
      by_cases hpz : parseE line.data.toList = 0
      · obtain ⟨hoa, hla⟩ := parse_line _ hpz
        rw [hpz] at T1
        generalize parseA line.data.toList = av at T1 hoa hla
        have hkd : 0 ≤ av.kind := by have := hoa.1; omega
        have e1 : checkE ⟨av.kind, av.who, av.n, av.m⟩ = 0 := checkE_ok hoa
        have e2 : lineE ⟨av.kind, av.who, av.n, av.m⟩ = line.data.toList := (if_pos hoa).trans hla
        clear hoa hla
        refine T1.mono ?_
        clear T1
        rintro e w9 ⟨rfl, k9⟩
        have hb9 := (hb8).trans (k9.mono (hb8).size)
        go_wp2_with fail
        have hb10 := hb9.alloc hb9.size (.cells #[.int .u8 av.kind, .int .i64 av.who, .int .i64 av.n, .int .i64 av.m] 32)
        have T1 := line_any av.kind av.who av.n av.m hkd _ (hE.below hb10 hlow) (hW.below hb10 hlow)
        rw [e1, e2, mk_of] at T1
        refine T1.mono ?_
        clear T1
        rintro e w11 ⟨rfl, k11⟩
        have hb11 := hb10.trans (k11.mono hb10.size)
        go_wp2_with fail
        go_ret
        exact ⟨rfl, hb11⟩
      · have hpz' : (parseE line.data.toList != 0) = true := bne_iff_ne.2 hpz
        have hkd : 0 ≤ (parseA line.data.toList).kind := parseA_kind _
        generalize parseA line.data.toList = av at T1 hkd
        generalize parseE line.data.toList = pv at T1 hpz hpz'
        refine T1.mono ?_
        clear T1
        rintro e w9 ⟨rfl, k9⟩
        have hb9 := (hb8).trans (k9.mono (hb8).size)
        go_wp2_with fail
        have hb10 := hb9.alloc hb9.size (.cells #[.int .u8 av.kind, .int .i64 av.who, .int .i64 av.n, .int .i64 av.m] 32)
        have T1 := line_any av.kind av.who av.n av.m hkd _ (hE.below hb10 hlow) (hW.below hb10 hlow)
        refine T1.mono ?_
        clear T1
        rintro e w11 ⟨rfl, k11⟩
        have hb11 := hb10.trans (k11.mono hb10.size)
        go_wp2_with fail
        go_ret
        exact ⟨rfl, hb11⟩
    · have hv5' : (v5 == 0) = false := beq_eq_false_iff_ne.2 hv5
      clear S2
      go_wp2_with fail
      have T1 := parse_any line w7 hline (hE.below hb7 hlow) (hW.below hb7 hlow)
      by_cases hpz : parseE line.data.toList = 0
      · obtain ⟨hoa, hla⟩ := parse_line _ hpz
        rw [hpz] at T1
        generalize parseA line.data.toList = av at T1 hoa hla
        have hkd : 0 ≤ av.kind := by have := hoa.1; omega
        have e1 : checkE ⟨av.kind, av.who, av.n, av.m⟩ = 0 := checkE_ok hoa
        have e2 : lineE ⟨av.kind, av.who, av.n, av.m⟩ = line.data.toList := (if_pos hoa).trans hla
        clear hoa hla
        refine T1.mono ?_
        clear T1
        rintro e w9 ⟨rfl, k9⟩
        have hb9 := (hb7).trans (k9.mono (hb7).size)
        go_wp2_with fail
        have hb10 := hb9.alloc hb9.size (.cells #[.int .u8 av.kind, .int .i64 av.who, .int .i64 av.n, .int .i64 av.m] 32)
        have T1 := line_any av.kind av.who av.n av.m hkd _ (hE.below hb10 hlow) (hW.below hb10 hlow)
        rw [e1, e2, mk_of] at T1
        refine T1.mono ?_
        clear T1
        rintro e w11 ⟨rfl, k11⟩
        have hb11 := hb10.trans (k11.mono hb10.size)
        go_wp2_with fail
        go_ret
        exact ⟨rfl, hb11⟩
      · have hpz' : (parseE line.data.toList != 0) = true := bne_iff_ne.2 hpz
        have hkd : 0 ≤ (parseA line.data.toList).kind := parseA_kind _
        generalize parseA line.data.toList = av at T1 hkd
        generalize parseE line.data.toList = pv at T1 hpz hpz'
        refine T1.mono ?_
        clear T1
        rintro e w9 ⟨rfl, k9⟩
        have hb9 := (hb7).trans (k9.mono (hb7).size)
        go_wp2_with fail
        have hb10 := hb9.alloc hb9.size (.cells #[.int .u8 av.kind, .int .i64 av.who, .int .i64 av.n, .int .i64 av.m] 32)
        have T1 := line_any av.kind av.who av.n av.m hkd _ (hE.below hb10 hlow) (hW.below hb10 hlow)
        refine T1.mono ?_
        clear T1
        rintro e w11 ⟨rfl, k11⟩
        have hb11 := hb10.trans (k11.mono hb10.size)
        go_wp2_with fail
        go_ret
        exact ⟨rfl, hb11⟩

end Go.Proofs.YtebgaglofabegaaDoor
