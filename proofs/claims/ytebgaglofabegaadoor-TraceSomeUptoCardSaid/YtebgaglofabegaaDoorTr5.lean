/-
  trace.Text and trace.Read, walked.
-/
import Derived.Test.YtebgaglofabegaaDoorTr4
namespace Go.Proofs.YtebgaglofabegaaDoor
open Go.RowKit Go.Lib

/-- Marks' text. -/
def markTxt (l : List MarkV) : Bs := (l.map fun a => markLine a ++ [10]).flatten
theorem markTxt_snoc (l : List MarkV) (a : MarkV) : markTxt (l ++ [a]) = markTxt l ++ (markLine a ++ [10]) := by simp [markTxt]
theorem markTxt_take (l : List MarkV) (k : Nat) (h : k < l.length) : markTxt (l.take (k + 1)) = markTxt (l.take k) ++ (markLine l[k] ++ [10]) := by
  rw [List.take_succ_eq_append_getElem h, markTxt_snoc]
def allMarks (l : List MarkV) : Prop := ∀ a ∈ l, okMark a
instance (l : List MarkV) : Decidable (allMarks l) := inferInstanceAs (Decidable (∀ a ∈ l, okMark a))
def ttB (l : List MarkV) : Bs := if 65536 < l.length then [] else if allMarks l then markTxt l else []
def ttE (l : List MarkV) : Int := if 65536 < l.length then 9 else if allMarks l then 0 else 2

theorem markLine_len (a : MarkV) (h : okMark a) : (markLine a).length ≤ 75 := by
  obtain ⟨a1, a2, a3, a4, a5, a6⟩ := h
  unfold timeP at a3 a6
  have l1 := itoa_len a.time (by omega) (by omega)
  have l2 := itoa_len a.who (by omega) (by omega)
  have l3 := itoa_len a.a (by omega) (by omega)
  have l0 := markWord_len a.kind
  simp only [markLine, List.length_append, List.length_cons]
  omega

theorem markTxt_len (l : List MarkV) (h : allMarks l) : (markTxt l).length ≤ l.length * 76 := by
  induction l with
  | nil => simp [markTxt]
  | cons a l ih =>
    have := markLine_len a (h a (by simp))
    have := ih (fun x hx => h x (List.mem_cons_of_mem _ hx))
    simp only [markTxt, List.map_cons, List.flatten_cons, List.length_append, List.length_cons, List.length_nil] at *
    omega

theorem info_mark : (Tryd.prog.info? 28).map (fun i => (i.zero, i.size, i.bytes)) = some (some (.agg #[.int .i64 0, .int .u8 0, .int .i64 0, .int .i64 0]), 4, 32) := by kernel_rfl

set_option maxRecDepth 100000 in
theorem ttext_any (l : List MarkV) (hk : ∀ a ∈ l, 0 ≤ a.kind) (A : Option Addr) (c : Nat) (w : World) (hE : Env w) (hW : MarkWords w) (hA : At w A (markRows l)) (hlen : l.length ≤ maxLen) :
    Calls Tryd.prog 35 #[.slice A l.length c] w fun e w' => e = .returned (.tuple #[.string (mk (ttB l)), .int .i64 (ttE l)]) ∧ Below w.heap.size w w' := by
  unfold maxLen at hlen
  by_cases h4 : 65536 < l.length
  · have e1 : ttB l = [] := if_pos h4
    have e2 : ttE l = 9 := if_pos h4
    rw [e1, e2]
    have h4' : (65536 : Int) < (l.length : Int) := by omega
    go_enter Tryd.func35, Tryd.ntmps35
    go_wp2_with fail
    go_ret2
    exact ⟨rfl, Below.refl _ _⟩
  · have h4' : (l.length : Int) ≤ 65536 := by omega
    go_enter Tryd.func35, Tryd.ntmps35
    go_wp2_with fail
    go_loopw [4, 12] (fun v i wr => ∃ k : Nat, k ≤ l.length ∧ i = .int .i64 k ∧ allMarks (l.take k) ∧ wr.ownsRow w.heap.size 5 1 v (markTxt (l.take k)).length (byteCells (markTxt (l.take k))) ∧ Below w.heap.size w wr) (fun _ i _ => l.length - (RowKit.intOf i).toNat)
    case atStart => exact ⟨0, Nat.zero_le _, rfl, (fun a ha => by cases ha), World.ownsRow_nil _ _ _ _, Below.refl _ _⟩
    case round =>
      obtain ⟨k, hkl, rfl, hok, hown, hb⟩ := hrel
      by_cases hlt : k < l.length
      · obtain ⟨⟨t, kd, who, a⟩, hak⟩ : ∃ a, l[k]? = some a := ⟨_, List.getElem?_eq_getElem hlt⟩
        obtain ⟨b, o, rfl, hbl, c0, c1, c2, c3⟩ := (hA.later hb (Nat.le_refl _)).mark hak
        have hltI : (k : Int) < (l.length : Int) := by omega
        have hkd : 0 ≤ kd := hk _ (List.mem_of_getElem? hak)
        have hall : l.length * 76 ≤ 65536 * 76 := Nat.mul_le_mul_right _ (by omega)
        have htl := markTxt_len _ hok
        have htk : (l.take k).length ≤ l.length := List.length_take_le' _ _
        have htk2 : (l.take k).length * 76 ≤ l.length * 76 := Nat.mul_le_mul_right _ htk
        have R := right_any t kd who a hkd
        by_cases hoka : okMark ⟨t, kd, who, a⟩
        · have Hoka := Lib.hid hoka
          rw [decide_eq_true hoka] at R
          have R' := Lib.hid R
          clear R
          have hll := markLine_len _ hoka
          obtain ⟨a1, a2, a3, a4, a5, a6⟩ := hoka
          simp only at a1 a2 a3 a4 a5 a6
          go_wp2_with fail
          refine (R'.out _).mono ?_
          rintro e w1 ⟨rfl, hb1⟩
          obtain ⟨hc1, hf1⟩ := bcell hb1
          have hbw1 : Below w.heap.size w w1 := (hb.alloc hb.size _).trans (hb1.mono (by have := hb.size; simp; omega))
          have hown1 := ownsRow_below (hown.alloc _) hb1 (Nat.le_refl _)
          go_wp2_with fail
          refine (tput_any w.heap.size _ _ _ t kd who a a1 a2 a4 a5 a3 a6 w1 (hE.below hbw1 hE.low) (hW.below hbw1 hE.low) hown1 hbw1.size hE.low (by omega)).mono ?_
          rintro e w2 ⟨v2, rfl, hown2, hb2⟩
          obtain ⟨i0, hi, hz0, hz1, hz2⟩ := info_parts info_u8
          have hs2 : w.heap.size ≤ w2.heap.size := Nat.le_trans hbw1.size hb2.size
          clear hc1 hf1
          go_wp2_with ((at_builtin; refine wpList_append_own _ rfl _ _ 72 rfl w.heap.size 5 i0 (.int .u8 0) 1 1 Tryd.underlying72 hi hz0 hz1 hz2 rfl (by omega) v2 _ _ rfl (hown2.alloc _) ⟨w2.heap.size, 0, none⟩ 1 1 [.int .u8 10] rfl rfl (cell_one_new _ _ _) (by simp [Value.oneCell']) (by unfold maxLen; omega) (by omega) (by simp; omega) ?_; intro v3 w3 hown3 hgrow3 _))
          have hb3 : Below w.heap.size w w3 := (((hbw1.trans hb2).alloc hs2 _).grown hgrow3 (by simp; omega) (fun g hg => (hown2.lt g hg).1))
          have ek : l[k] = ⟨t, kd, who, a⟩ := by rw [List.getElem?_eq_getElem hlt] at hak; exact Option.some.inj hak
          have et : markTxt (l.take (k + 1)) = markTxt (l.take k) ++ (markLine ⟨t, kd, who, a⟩ ++ [10]) := by rw [markTxt_take l k hlt, ek]
          refine ⟨⟨k + 1, by omega, by go_num, ?_, ?_, hb3⟩, by simp [RowKit.intOf]; omega⟩
          · intro a ha
            rw [List.take_succ_eq_append_getElem hlt, ek] at ha
            rcases List.mem_append.1 ha with h | h
            · exact hok a h
            · rw [List.mem_singleton.1 h]; exact Hoka.out
          · rw [et]
            have q1 : (markTxt (l.take k) ++ (markLine ⟨t, kd, who, a⟩ ++ [10])).length = (markTxt (l.take k)).length + (markLine ⟨t, kd, who, a⟩).length + 1 := by simp; omega
            have q2 : byteCells (markTxt (l.take k) ++ (markLine ⟨t, kd, who, a⟩ ++ [10])) = byteCells (markTxt (l.take k)) ++ byteCells (markLine ⟨t, kd, who, a⟩) ++ [.int .u8 10] := by simp [byteCells]
            rw [q1, q2]; exact hown3
        · rw [decide_eq_false hoka] at R
          have R' := Lib.hid R
          clear R
          have hno : ¬ allMarks l := fun h => hoka (h _ (List.mem_of_getElem? hak))
          have p1 : ttB l = [] := by unfold ttB; rw [if_neg h4, if_neg hno]
          have p2 : ttE l = 2 := by unfold ttE; rw [if_neg h4, if_neg hno]
          have P1 := Lib.hid p1
          have P2 := Lib.hid p2
          clear p1 p2 hoka
          go_wp2_with fail
          refine (R'.out _).mono ?_
          rintro e w1 ⟨rfl, hb1⟩
          have hbw1 : Below w.heap.size w w1 := (hb.alloc hb.size _).trans (hb1.mono (by have := hb.size; simp; omega))
          go_wp2_with fail
          go_ret2
          exact ⟨ret_tuple (by rw [P1.out, P2.out]; rfl), hbw1⟩
      · have hkeq : k = l.length := by omega
        have hall : allMarks l := by rw [hkeq, List.take_length] at hok; exact hok
        have p1 : ttB l = markTxt l := by unfold ttB; rw [if_neg h4, if_pos hall]
        have p2 : ttE l = 0 := by unfold ttE; rw [if_neg h4, if_pos hall]
        have P1 := Lib.hid p1
        have P2 := Lib.hid p2
        rw [hkeq, List.take_length] at hown
        have hst := run_string_of_row hown
        have hge : (l.length : Int) ≤ (k : Int) := by omega
        clear p1 p2 hkeq
        go_wp2_with fail
        go_ret2
        exact ⟨ret_tuple (by rw [P1.out, P2.out]; rfl), hb⟩

/-- What Read does with the pieces of a text. -/
def readGo : List (Bs × Bool) → List MarkV → List MarkV × Int × Int
  | [], acc => (acc, 0, 0)
  | (l, wh) :: r, acc =>
    if acc.length = 65536 then ([], acc.length + 1, 9)
    else if wh = false ∨ tpE l ≠ 0 then ([], acc.length + 1, 8)
    else readGo r (acc ++ [tpM l])

theorem tpM_kind (l : Bs) : 0 ≤ (tpM l).kind := by
  unfold tpM
  cases h : tparse l with
  | none => simp
  | some m =>
    unfold tparse markOf at h
    (repeat' split at h) <;> first | (cases h; exact (mKind_range _).1) | (cases h; done)

set_option maxRecDepth 100000 in
set_option maxHeartbeats 1000000 in
theorem tread_any (s : ByteArray) (w : World) (hs : s.size ≤ 4194304) (hE : Env w) (hW : MarkWords w) :
    Calls Tryd.prog 36 #[.string s] w fun e w' => (∃ v, e = .returned (.tuple #[v, .int .i64 (readGo (pieces s.data.toList) []).2.1, .int .i64 (readGo (pieces s.data.toList) []).2.2]) ∧
      w'.ownsRow w.heap.size 28 4 v (readGo (pieces s.data.toList) []).1.length (markRows (readGo (pieces s.data.toList) []).1)) ∧ Below w.heap.size w w' := by
  have hlow := hE.low
  obtain ⟨R, hR⟩ : ∃ R, readGo (pieces s.data.toList) [] = R := ⟨_, rfl⟩
  rw [hR]
  have HR := Lib.hid hR
  have htl : s.data.toList.length ≤ 4194304 := by rw [← size_toList]; exact hs
  have hsm : s = mk s.data.toList := (mk_of s).symm
  have Hs := Lib.hid hsm
  clear hR hsm
  obtain ⟨i0, hi, hz0, hz1, hz2⟩ := info_parts info_mark
  go_enter Tryd.func36, Tryd.ntmps36
  go_wp2_with fail
  go_loopw [0, 5] (fun p v wr => ∃ (rest : Bs) (acc : List MarkV), p = .string (mk rest) ∧ readGo (pieces rest) acc = R ∧ rest.length ≤ 4194304 ∧ wr.ownsRow w.heap.size 28 4 v acc.length (markRows acc) ∧ acc.length ≤ 65536 ∧ Below w.heap.size w wr)
    (fun p _ _ => match p with | .string s => s.size | _ => 0)
  case atStart => exact ⟨s.data.toList, [], by rw [← Hs.out], HR.out, htl, World.ownsRow_nil _ _ _ _, by simp, Below.refl _ _⟩
  case round =>
    obtain ⟨rest, acc, rfl, hgo, hrl, hown, hfew, hb⟩ := hrel
    obtain ⟨A, cp, rfl⟩ := own_slice hown
    by_cases hre : rest = []
    · subst hre
      have hemp : (mk []).toList.isEmpty = true := by rw [Lib.toList_data]; rfl
      have hemp' : (!(mk []).toList.isEmpty) = false := by rw [hemp]; rfl
      have HG := Lib.hid hgo
      clear hgo
      go_wp2_with fail
      go_ret3
      have e := HG.out
      rw [pieces_nil] at e
      unfold readGo at e
      subst e
      exact ⟨⟨_, rfl, hown⟩, hb⟩
    · have hne : (mk rest).toList.isEmpty = false := by
        rw [Lib.toList_data]
        cases rest with
        | nil => exact absurd rfl hre
        | cons => rfl
      have hne' : (!(mk rest).toList.isEmpty) = true := by rw [hne]; rfl
      have hpc := pieces_cut rest hre
      obtain ⟨hc1, hc2⟩ := cutL_le rest
      have hcl := cutL_length 10 rest hre
      have hcut := fun W h => cuts (mk rest) W (by rw [mk_size]; exact hrl) h
      rw [mk_data] at hcut
      rw [hpc] at hgo
      generalize (cutL 10 rest).1 = z1 at hcut hgo hc1
      generalize (cutL 10 rest).2.1 = z2 at hcut hgo hc2 hcl
      generalize (cutL 10 rest).2.2 = z3 at hcut hgo
      have HC := Lib.hid hcut
      have HG := Lib.hid hgo
      clear hcut hgo hpc hre
      go_wp2_with fail
      refine (HC.out wr (hE.below hb hlow)).mono ?_
      rintro e w1 ⟨rfl, dn, rfl⟩
      obtain ⟨wd, hwd⟩ : ∃ wd, wd = wr.drewN dn := ⟨_, rfl⟩
      have hEd : Env wd := by rw [hwd]; exact env_drewN (hE.below hb hlow) dn
      have hbd : Below w.heap.size w wd := by rw [hwd]; exact ⟨hb.os, hb.tape, hb.output, hb.size, hb.block⟩
      have hownd : wd.ownsRow w.heap.size 28 4 (.slice A acc.length cp) acc.length (markRows acc) := by rw [hwd]; exact hown
      rw [← hwd]
      clear hwd hown hb HC
      have T := tparse_any (mk z1) wd (by rw [mk_size]; omega) hEd (hW.below hbd hlow)
      rw [mk_data] at T
      obtain ⟨pm, hpm⟩ : ∃ pm, pm = tpM z1 := ⟨_, rfl⟩
      obtain ⟨pe, hpe⟩ : ∃ pe, pe = tpE z1 := ⟨_, rfl⟩
      rw [← hpm, ← hpe] at T
      have HG2 : (acc.length = 65536 → R = ([], (acc.length : Int) + 1, 9)) ∧ (acc.length ≠ 65536 → (z3 = false ∨ pe ≠ 0) → R = ([], (acc.length : Int) + 1, 8)) ∧ (acc.length ≠ 65536 → ¬ (z3 = false ∨ pe ≠ 0) → readGo (pieces z2) (acc ++ [pm]) = R) := by
        have h := HG.out
        simp only [readGo] at h
        rw [← hpm, ← hpe] at h
        refine ⟨fun h1 => ?_, fun h1 h2 => ?_, fun h1 h2 => ?_⟩
        · rw [if_pos h1] at h; exact h.symm
        · rw [if_neg h1, if_pos h2] at h; exact h.symm
        · rw [if_neg h1, if_neg h2] at h; exact h
      have HH := Lib.hid HG2
      clear HG2 HG hpm hpe
      go_wp2_with fail
      refine T.mono ?_
      clear T
      rintro e w2 ⟨rfl, k2⟩
      have hb2 := hbd.trans (k2.mono hbd.size)
      have hown2 := (ownsRow_below hownd k2 (Nat.le_refl _)).alloc (.cells #[.int .i64 pm.time, .int .u8 pm.kind, .int .i64 pm.who, .int .i64 pm.a] 28)
      have hb3 := hb2.alloc hb2.size (.cells #[.int .i64 pm.time, .int .u8 pm.kind, .int .i64 pm.who, .int .i64 pm.a] 28)
      by_cases hfull : acc.length = 65536
      · have HN := Lib.hid (HH.out.1 hfull)
        have hf : (acc.length : Int) = 65536 := by omega
        have hf' : ((acc.length : Int) == 65536) = true := beq_iff_eq.2 hf
        clear hfull hf
        go_wp2_with fail
        go_ret3
        rw [HN.out]
        exact ⟨⟨_, rfl, World.ownsRow_nil _ _ _ _⟩, hb3⟩
      · have hf' : ((acc.length : Int) == 65536) = false := beq_eq_false_iff_ne.2 (by omega)
        have hfl : acc.length < 65536 := by omega
        by_cases hbad : z3 = false ∨ pe ≠ 0
        · have HN := Lib.hid (HH.out.2.1 hfull hbad)
          have hz : z3 = false ∨ (z3 = true ∧ (pe != 0) = true) := by
            cases z3 with
            | false => exact .inl rfl
            | true => exact .inr ⟨rfl, bne_iff_ne.2 (by rcases hbad with h | h; cases h; exact h)⟩
          clear hfull hbad
          rcases hz with rfl | ⟨rfl, hz⟩
          · go_wp2_with fail
            go_ret3
            rw [HN.out]
            exact ⟨⟨_, rfl, World.ownsRow_nil _ _ _ _⟩, hb3⟩
          · go_wp2_with fail
            go_ret3
            rw [HN.out]
            exact ⟨⟨_, rfl, World.ownsRow_nil _ _ _ _⟩, hb3⟩
        · have HN := Lib.hid (HH.out.2.2 hfull hbad)
          obtain ⟨rfl, rfl⟩ : z3 = true ∧ pe = 0 := by
            constructor
            · cases z3 with
              | false => exact absurd (.inl rfl) hbad
              | true => rfl
            · exact Classical.not_not.1 (fun h => hbad (.inr h))
          clear hfull hbad
          go_wp2_with ((at_builtin; refine wpList_append_own _ rfl _ _ 22 rfl w.heap.size 28 i0 (.agg #[.int .i64 0, .int .u8 0, .int .i64 0, .int .i64 0]) 4 32 Tryd.underlying22 hi hz0 hz1 hz2 rfl (by decide) _ _ _ rfl (hown2.alloc _) ⟨w2.heap.size + 1, 0, none⟩ 1 1 (markCells pm) rfl rfl (World.news_of_block (cs := #[.int .i64 pm.time, .int .u8 pm.kind, .int .i64 pm.who, .int .i64 pm.a]) (t := 28) (fr := (0, 0)) (by simpa using World.alloc_heap_new (w2.alloc (.cells #[.int .i64 pm.time, .int .u8 pm.kind, .int .i64 pm.who, .int .i64 pm.a] 28)) (.cells #[.int .i64 pm.time, .int .u8 pm.kind, .int .i64 pm.who, .int .i64 pm.a] 28))) (by simp [Value.oneCell', markCells]) (by unfold maxLen; omega) (by omega) (by have := hb3.size; simp at this ⊢; omega) ?_; intro v3 w3 hown3 hgrow3 _))
          refine ⟨⟨z2, acc ++ [pm], rfl, HN.out, by omega, ?_, by simp; omega, ?_⟩, ?_⟩
          · have : markRows (acc ++ [pm]) = markRows acc ++ markCells pm := by simp [markRows]
            rw [this, List.length_append]; exact hown3
          · exact (hb3.alloc hb3.size _).grown hgrow3 (by have := hb3.size; simp at this ⊢; omega) (fun g hg => (hown2.lt g hg).1)
          · simp only [mk_size]; exact hcl

end Go.Proofs.YtebgaglofabegaaDoor
