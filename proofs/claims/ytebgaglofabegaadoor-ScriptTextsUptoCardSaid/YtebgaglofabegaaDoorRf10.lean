/-
  The document's Get, walked.
-/
import Derived.Test.YtebgaglofabegaaDoorRf9
namespace Go.Proofs.YtebgaglofabegaaDoor
open Go.RowKit Go.Lib

set_option maxRecDepth 100000 in
set_option maxHeartbeats 4000000 in
theorem get1_any (s : ByteArray) (w : World) (hs : s.size ≤ 4194304) (hlow : 10 ≤ w.heap.size) :
    Calls Tryd.prog 23 #[.string s] w fun e w' => ∃ v, e = .returned (.tuple #[v, .int .i64 (getGo (pieces s.data.toList) [] 0).2.1, .int .i64 (getGo (pieces s.data.toList) [] 0).2.2]) ∧
      w'.ownsRow w.heap.size 32 4 v (getGo (pieces s.data.toList) [] 0).1.length (actRows (getGo (pieces s.data.toList) [] 0).1) ∧ Below w.heap.size w w' := by
  have Hlen := Lib.hid (size_toList s)
  have fin : ∀ (W : World) (kk ee : Int), getGo (pieces s.data.toList) [] 0 = ([], kk, ee) → Below w.heap.size w W → ∃ v, Ending.returned (.tuple #[.slice none 0 0, .int .i64 kk, .int .i64 ee]) = .returned (.tuple #[v, .int .i64 (getGo (pieces s.data.toList) [] 0).2.1, .int .i64 (getGo (pieces s.data.toList) [] 0).2.2]) ∧
      W.ownsRow w.heap.size 32 4 v (getGo (pieces s.data.toList) [] 0).1.length (actRows (getGo (pieces s.data.toList) [] 0).1) ∧ Below w.heap.size w W := fun W kk ee h hb => by
    rw [h]; exact ⟨_, rfl, World.ownsRow_nil _ _ _ _, hb⟩
  go_enter Tryd.func23, Tryd.ntmps23
  go_wp2_with fail
  go_loopw [5, 6, 7, 8] (fun v ln at_ i wr => ∃ (k : Nat) (acc : List ActV), k ≤ s.size ∧ i = .int .i64 k ∧ ln = .string (mk (rst (s.data.toList.take k))) ∧ at_ = .int .i64 ((lns (s.data.toList.take k)).length + 1 : Nat) ∧ Got (s.data.toList.take k) acc ∧ acc.length ≤ 4096 ∧
    wr.ownsRow w.heap.size 32 4 v acc.length (actRows acc) ∧ Below w.heap.size w wr) (fun _ _ _ i _ => s.size - (RowKit.intOf i).toNat)
  case atStart => exact ⟨0, [], Nat.zero_le _, rfl, rfl, rfl, got_nil, Nat.zero_le _, World.ownsRow_nil _ _ _ _, Below.refl _ _⟩
  case round =>
    obtain ⟨k, acc, hks, rfl, rfl, rfl, hgot, hfew, hown, hb⟩ := hrel
    obtain ⟨A, cap, rfl⟩ := owns_slice hown
    have hrl : (rst (s.data.toList.take k)).length ≤ k := Nat.le_trans (rst_len _) (List.length_take_le _ _)
    have hll : (lns (s.data.toList.take k)).length ≤ k := by rw [lns_count]; exact Nat.le_trans List.count_le_length (List.length_take_le _ _)
    generalize hR : rst (s.data.toList.take k) = R at *
    generalize hL : (lns (s.data.toList.take k)).length = L at *
    by_cases hlt : k < s.size
    · have hkl : k < s.data.toList.length := by have := Hlen.out; omega
      obtain ⟨c, hck⟩ : ∃ c, s.data.toList[k]? = some c := ⟨_, List.getElem?_eq_getElem hkl⟩
      have ek : s.data.toList.take (k + 1) = s.data.toList.take k ++ [c] := by
        rw [List.take_succ_eq_append_getElem hkl]
        rw [List.getElem?_eq_getElem hkl] at hck
        rw [Option.some.inj hck]
      have hfull : s.data.toList = s.data.toList.take k ++ c :: s.data.toList.drop (k + 1) := by
        conv => lhs; rw [← List.take_append_drop (k + 1) s.data.toList, ek]
        simp
      have hix : ∀ h, s[k]'h = c := fun h => by
        rw [List.getElem?_eq_getElem hkl] at hck
        exact Option.some.inj hck
      clear hkl
      have hltI : (k : Int) < (s.size : Int) := by omega
      by_cases hc : c = 10
      · subst hc
        have hfd := snoc_feed (s.data.toList.take k)
        have E1 := Lib.hid (show (lns (s.data.toList.take (k + 1))).length = L + 1 by rw [ek, hfd.1, List.length_append, hL]; rfl)
        have E2 := Lib.hid (show rst (s.data.toList.take (k + 1)) = [] by rw [ek, hfd.2])
        have hpass : skipL R = true → Got (s.data.toList.take (k + 1)) acc := fun hsk => by
          rw [ek]; exact got_feed hgot (fun r => by rw [hR, hL]; simp [getGo, hsk])
        have hpush : ∀ a, skipL R = false → parseE R = 0 → parseA R = a → acc.length ≠ 4096 → Got (s.data.toList.take (k + 1)) (acc ++ [a]) := fun a hsk hpe hpa hne => by
          rw [ek]; exact got_feed hgot (fun r => by rw [hR, hL]; simp [getGo, hsk, hpe, hpa, hne])
        have hbad : skipL R = false → parseE R ≠ 0 → getGo (pieces s.data.toList) [] 0 = ([], ((L + 1 : Nat) : Int), 8) := fun hsk hpe => by
          have := got_stop (e := 8) hfull hgot (fun r => by rw [hR, hL]; simp [getGo, hsk, hpe])
          rw [this, hL]; rfl
        have hmany : skipL R = false → parseE R = 0 → acc.length = 4096 → getGo (pieces s.data.toList) [] 0 = ([], ((L + 1 : Nat) : Int), 9) := fun hsk hpe h4 => by
          have := got_stop (e := 9) hfull hgot (fun r => by rw [hR, hL]; simp [getGo, hsk, hpe, h4])
          rw [this, hL]; rfl
        have Hpass := Lib.hid hpass
        have Hpush := Lib.hid hpush
        have Hbad := Lib.hid hbad
        have Hmany := Lib.hid hmany
        clear hpass hpush hbad hmany hfd ek hfull hck hgot hR hL
        cases R with
        | nil =>
          have hem : (mk []).toList.isEmpty = true := by rw [mk_empty]; rfl
          go_wp2_with fail
          exact ⟨⟨k + 1, acc, by omega, by go_num, by rw [E2.out]; rfl, by rw [E1.out]; go_num, Hpass.out rfl, hfew, hown, hb⟩, by simp [RowKit.intOf]; omega⟩
        | cons d R =>
          have hem : (mk (d :: R)).toList.isEmpty = false := by rw [mk_empty]; rfl
          have hsz : (mk (d :: R)).size = R.length + 1 := by rw [mk_size]; rfl
          have hi0 : ∀ h, (mk (d :: R))[0]'h = d := fun _ => rfl
          by_cases hd : d = 35
          · subst hd
            go_wp2_with fail
            exact ⟨⟨k + 1, acc, by omega, by go_num, by rw [E2.out]; rfl, by rw [E1.out]; go_num, Hpass.out (by simp [skipL]), hfew, hown, hb⟩, by simp [RowKit.intOf]; omega⟩
          · have hd0 : ((d.toNat : Int) == 35) = false := by
              rw [beq_eq_false_iff_ne]
              intro h
              exact hd (UInt8.toNat_inj.1 (show d.toNat = 35 by omega))
            have hsk : skipL (d :: R) = false := by simp [skipL, hd]
            have hP := parse1_any (mk (d :: R)) wr (by rw [mk_size]; omega) (Nat.le_trans hlow hb.size)
            rw [mk_data] at hP
            cases hpa : parseAct (d :: R) with
            | none =>
              obtain ⟨e1, e2⟩ := parse_fail hpa
              rw [e1, e2] at hP
              have F := Lib.hid (Hbad.out hsk (by rw [e2]; decide))
              clear e1 e2 hpa hsk
              go_wp2_with fail
              refine hP.mono ?_
              rintro e w2 ⟨rfl, k2⟩
              have hb2 := hb.trans (k2.mono hb.size)
              clear k2
              go_wp2_with fail
              go_ret3
              exact fin _ _ _ F.out (hb2.alloc hb2.size _)
            | some a =>
              obtain ⟨e1, e2⟩ := parse_good hpa
              rw [e1, e2] at hP
              by_cases h4 : acc.length = 4096
              · have h4' : ((acc.length : Int) == 4096) = true := by rw [h4]; rfl
                have F := Lib.hid (Hmany.out hsk e2 h4)
                clear e1 e2 hpa hsk h4
                go_wp2_with fail
                refine hP.mono ?_
                rintro e w2 ⟨rfl, k2⟩
                have hb2 := hb.trans (k2.mono hb.size)
                clear k2
                go_wp2_with fail
                go_ret3
                exact fin _ _ _ F.out (hb2.alloc hb2.size _)
              · have h4' : ((acc.length : Int) == 4096) = false := by rw [beq_eq_false_iff_ne]; omega
                have G := Lib.hid (Hpush.out a hsk e2 e1 h4)
                clear e1 e2 hpa hsk
                go_wp2_with fail
                refine hP.mono ?_
                rintro e w2 ⟨rfl, k2⟩
                have hb2 := hb.trans (k2.mono hb.size)
                have hown2 := ownsRow_below hown k2 (Nat.le_refl _)
                have hs2 := hb2.size
                clear k2
                obtain ⟨i0, hi, hz0, hz1, hz2⟩ := info_parts infoAct
                go_wp2_with ((at_builtin; refine wpList_append_own _ rfl _ _ 40 rfl w.heap.size 32 i0 (.agg #[.int .u8 0, .int .i64 0, .int .i64 0, .int .i64 0]) 4 32 Tryd.underlying40 hi hz0 hz1 hz2 rfl (by decide) _ _ _ rfl ((hown2.alloc _).alloc _) ⟨w2.heap.size + 1, 0, none⟩ 1 1 (actCells a) rfl rfl (World.news_of_block (cs := #[.int .u8 a.kind, .int .i64 a.who, .int .i64 a.n, .int .i64 a.m]) (t := 32) (fr := (0, 0)) (by simpa using World.alloc_heap_new (w2.alloc (.cells #[.int .u8 a.kind, .int .i64 a.who, .int .i64 a.n, .int .i64 a.m] 32)) (.cells #[.int .u8 a.kind, .int .i64 a.who, .int .i64 a.n, .int .i64 a.m] 32))) (by simp [Value.oneCell', actCells]) (by unfold maxLen; omega) (by omega) (by simp; omega) ?_; intro v3 w3 hown3 hgrow3 _))
                have hb3 : Below w.heap.size w w3 := (((hb2.alloc hs2 _).alloc (by simp; omega) _).grown hgrow3 (by simp; omega) (fun g hg => (hown2.lt g hg).1))
                refine ⟨⟨k + 1, acc ++ [a], by omega, by go_num, by rw [E2.out]; rfl, by rw [E1.out]; go_num, G.out, by simp; omega, ?_, hb3⟩, by simp [RowKit.intOf]; omega⟩
                have q1 : (acc ++ [a]).length = acc.length + 1 := by simp
                have q2 : actRows (acc ++ [a]) = actRows acc ++ actCells a := by simp [actRows]
                rw [q1, q2]; exact hown3
      · have hcI : ((c.toNat : Int) == 10) = false := by
          rw [beq_eq_false_iff_ne]
          intro h
          exact hc (UInt8.toNat_inj.1 (show c.toNat = 10 by omega))
        obtain ⟨e1, e2⟩ := snoc_byte (s.data.toList.take k) c hc
        have E1 := Lib.hid (show (lns (s.data.toList.take (k + 1))).length = L by rw [ek, e1]; exact hL)
        have E2 := Lib.hid (show rst (s.data.toList.take (k + 1)) = R ++ [c] by rw [ek, e2, hR])
        have G := Lib.hid (show Got (s.data.toList.take (k + 1)) acc by rw [ek]; exact got_byte hgot hc)
        have ownB : (wr.alloc (.cells #[.int .u8 c.toNat] 5)).ownsRow wr.heap.size 5 1 (.slice (some ⟨wr.heap.size, 0, none⟩) 1 1) 1 (byteCells [c]) :=
          ⟨rfl, .inr ⟨wr.heap.size, 1, #[.int .u8 c.toNat], rfl, Nat.le_refl _, World.alloc_heap_new wr _, Nat.le_refl _, by decide, rfl, rfl⟩⟩
        have hcv := run_string_of_row ownB
        have hs1 : (mk R).size ≤ 4194304 := by rw [mk_size]; omega
        have hs2 : (mk [c]).size = 1 := mk_size _
        clear e1 e2 ek hfull hck hgot ownB hR hL
        go_wp2_with fail
        refine ⟨⟨k + 1, acc, by omega, by go_num, by rw [E2.out, ← mk_append], by rw [E1.out], G.out, hfew, hown.alloc _, hb.alloc hb.size _⟩, by simp [RowKit.intOf]; omega⟩
    · have hke : k = s.size := by omega
      have hge : (s.size : Int) ≤ (k : Int) := by omega
      have et : s.data.toList.take k = s.data.toList := by rw [hke, Hlen.out, List.take_length]
      have hend := got_end (l := s.data.toList) (acc := acc) (by rw [← et]; exact hgot)
      rw [et] at hR hL
      rw [hR, hL] at hend
      cases R with
      | nil =>
        have hem : (mk []).toList.isEmpty = true := by rw [mk_empty]; rfl
        rw [if_pos rfl] at hend
        have F := Lib.hid hend
        clear hend hR hL et hke hgot
        go_wp2_with fail
        go_ret3
        rw [F.out]; exact ⟨_, rfl, hown, hb⟩
      | cons d R =>
        have hem : (mk (d :: R)).toList.isEmpty = false := by rw [mk_empty]; rfl
        rw [if_neg (by simp)] at hend
        have F := Lib.hid hend
        clear hend hR hL et hke hgot
        go_wp2_with fail
        go_ret3
        exact fin _ _ _ F.out hb

end Go.Proofs.YtebgaglofabegaaDoor
