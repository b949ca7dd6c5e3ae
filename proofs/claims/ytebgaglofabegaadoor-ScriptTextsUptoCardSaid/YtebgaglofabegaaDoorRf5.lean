/-
  The document's Check and Line.
-/
import Derived.Test.YtebgaglofabegaaDoorRf4
namespace Go.Proofs.YtebgaglofabegaaDoor
open Go.RowKit Go.Lib

set_option maxRecDepth 100000 in
theorem check1_any (k who n m : Int) (w : World) :
    Calls Tryd.prog 19 #[.agg #[.int .u8 k, .int .i64 who, .int .i64 n, .int .i64 m]] w fun e w' => e = .returned (.int .i64 (checkE ⟨k, who, n, m⟩)) ∧ Below w.heap.size w w' := by
  go_enter Tryd.func19, Tryd.ntmps19
  go_wp2_with fail
  refine (told_any k who n m _).mono ?_
  rintro e w1 ⟨sv, A, c, ns, rfl, _, _, hb1⟩
  have hb := (below_alloc (w := w) (.cells #[.int .u8 k, .int .i64 who, .int .i64 n, .int .i64 m] 32)).trans (hb1.mono (by simp))
  clear hb1
  by_cases hok : okAct ⟨k, who, n, m⟩
  · have e1 := Lib.hid (checkE_ok hok)
    have d1 : decide (okAct ⟨k, who, n, m⟩) = true := decide_eq_true hok
    clear hok
    go_wp2_with fail
    go_ret
    exact ⟨by rw [e1.out]; rfl, hb⟩
  · have e1 := Lib.hid (checkE_bad hok)
    have d1 : decide (okAct ⟨k, who, n, m⟩) = false := decide_eq_false hok
    clear hok
    go_wp2_with fail
    go_ret
    exact ⟨by rw [e1.out]; rfl, hb⟩

theorem sayNums_snoc (l : List Int) (n : Int) : sayNums (l ++ [n]) = sayNums l ++ 32 :: itoa n := by simp [sayNums]

theorem sayNums_len (l : List Int) (h : ∀ n ∈ l, (itoa n).length ≤ 20) : (sayNums l).length ≤ l.length * 21 := by
  induction l with
  | nil => exact Nat.zero_le _
  | cons a l ih =>
    have h1 := ih (fun n hn => h n (List.mem_cons_of_mem _ hn))
    have h2 := h a (by simp)
    have e : sayNums (a :: l) = (32 :: itoa a) ++ sayNums l := by simp [sayNums]
    rw [e, List.length_append, List.length_cons, List.length_cons]
    omega

theorem actWord_len (k : Int) : (actWord k).length ≤ 7 := by unfold actWord; (repeat' split) <;> decide

theorem ok_nums {a : ActV} (h : okAct a) : ∀ n ∈ actNums a, 0 ≤ n ∧ n ≤ 4503599627370496 := by
  obtain ⟨_, _, a3, a4, a5, a6, _⟩ := h
  unfold timeP at a5 a6
  intro n hn
  unfold actNums at hn
  split at hn
  · simp at hn; subst hn; omega
  · split at hn
    · simp at hn; rcases hn with rfl | rfl | rfl <;> omega
    · split at hn
      · simp at hn; rcases hn with rfl | rfl <;> omega
      · simp at hn; subst hn; omega

set_option maxRecDepth 100000 in
set_option maxHeartbeats 1000000 in
theorem line1_any (k who n m : Int) (w : World) :
    Calls Tryd.prog 14 #[.agg #[.int .u8 k, .int .i64 who, .int .i64 n, .int .i64 m]] w fun e w' => e = .returned (.tuple #[.string (mk (lineE ⟨k, who, n, m⟩)), .int .i64 (checkE ⟨k, who, n, m⟩)]) ∧ Below w.heap.size w w' := by
  go_enter Tryd.func14, Tryd.ntmps14
  go_wp2_with fail
  refine (told_any k who n m _).mono ?_
  rintro e w1 ⟨sv, A, c, ns, rfl, hok1, hat, hb1⟩
  have hb := (below_alloc (w := w) (.cells #[.int .u8 k, .int .i64 who, .int .i64 n, .int .i64 m] 32)).trans (hb1.mono (by simp))
  clear hb1
  by_cases hok : okAct ⟨k, who, n, m⟩
  · have e1 := Lib.hid (checkE_ok hok)
    have e2 := Lib.hid (show lineE ⟨k, who, n, m⟩ = actLine ⟨k, who, n, m⟩ from if_pos hok)
    have d1 : decide (okAct ⟨k, who, n, m⟩) = true := decide_eq_true hok
    obtain ⟨rfl, hns⟩ := hok1 hok
    have hnn := ok_nums hok
    rw [← hns] at hnn
    have hnl : ns.length ≤ 3 := by rw [hns]; unfold actNums; (repeat' split) <;> simp
    have hal := actLine_len _ hok
    have haw := actWord_len k
    clear hok hok1
    have HN := Lib.hid hns
    clear hns
    go_wp2_with fail
    go_loopw [4, 19] (fun v i wr => ∃ j : Nat, j ≤ ns.length ∧ i = .int .i64 j ∧ v = .string (mk (actWord k ++ sayNums (ns.take j))) ∧ Below w.heap.size w wr ∧ Below w1.heap.size w1 wr) (fun _ i _ => ns.length - (RowKit.intOf i).toNat)
    case atStart => exact ⟨0, Nat.zero_le _, rfl, by simp [sayNums], hb, Below.refl _ _⟩
    case round =>
      obtain ⟨j, hjl, rfl, rfl, hbw, hb1w⟩ := hrel
      by_cases hlt : j < ns.length
      · obtain ⟨x, hx⟩ : ∃ x, ns[j]? = some x := ⟨_, List.getElem?_eq_getElem hlt⟩
        have hxr := hnn x (List.mem_of_getElem? hx)
        obtain ⟨b, o, rfl, hbl, hcells⟩ := (hat.later hb1w (Nat.le_refl _)) (by intro h; rw [intCells] at h; have := List.map_eq_nil_iff.1 h; rw [this] at hlt; simp at hlt)
        have hc := hcells j (.int .i64 x) (by simp [intCells, hx])
        have hltI : (j : Int) < (ns.length : Int) := by omega
        have hsl : (sayNums (ns.take j)).length ≤ ns.length * 21 := by
          have h1 := sayNums_len (ns.take j) (fun z hz => itoa_len z (by have := hnn z (List.mem_of_mem_take hz); omega) (by have := hnn z (List.mem_of_mem_take hz); omega))
          have h2 : (ns.take j).length * 21 ≤ ns.length * 21 := Nat.mul_le_mul_right _ (List.length_take_le' _ _)
          omega
        have hs1 : (mk (actWord k ++ sayNums (ns.take j))).size ≤ 100 := by rw [mk_size, List.length_append]; omega
        have hxl := itoa_len x (by omega) (by omega)
        have hs2 : (mk (itoa x)).size ≤ 20 := by rw [mk_size]; exact hxl
        have N := number_any x.toNat x (by omega) (by omega) wr
        clear hcells hsl hxl haw hal
        go_wp2_with fail
        refine N.mono ?_
        rintro e w2 ⟨rfl, rfl⟩
        go_wp2_with fail
        refine ⟨⟨j + 1, by omega, by go_num, ?_, hbw, hb1w⟩, by simp [RowKit.intOf]; omega⟩
        have ex : ns[j]'hlt = x := by rw [List.getElem?_eq_getElem hlt] at hx; exact Option.some.inj hx
        have e3 : (⟨#[32]⟩ : ByteArray) = mk [32] := rfl
        rw [List.take_succ_eq_append_getElem hlt, ex, sayNums_snoc, e3, mk_append, mk_append, List.append_assoc]
        rfl
      · have hje : j = ns.length := by omega
        have hge : (ns.length : Int) ≤ (j : Int) := by omega
        have et : actWord k ++ sayNums (ns.take j) = actLine ⟨k, who, n, m⟩ := by
          rw [hje, List.take_length, HN.out]; rfl
        have E := Lib.hid et
        clear et hje
        go_wp2_with fail
        go_ret2
        exact ⟨ret_tuple (by rw [e1.out, e2.out, ← E.out]; rfl), hbw⟩
  · have e1 := Lib.hid (checkE_bad hok)
    have e2 := Lib.hid (show lineE ⟨k, who, n, m⟩ = [] from if_neg hok)
    have d1 : decide (okAct ⟨k, who, n, m⟩) = false := decide_eq_false hok
    clear hok hok1
    go_wp2_with fail
    go_ret2
    exact ⟨ret_tuple (by rw [e1.out, e2.out]; rfl), hb⟩

end Go.Proofs.YtebgaglofabegaaDoor
