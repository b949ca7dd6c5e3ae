/-
  The walks of script's Line and Put.
-/
import Derived.Test.YtebgaglofabegaaDoorSc2
import Derived.Test.YtebgaglofabegaaDoorMem
import Derived.Lib.BufferRead
namespace Go.Proofs.YtebgaglofabegaaDoor
open Go.RowKit Go.Lib

/-- 'string(b)', b a row of the call's own. -/
theorem run_string_of_row {B n : Nat} {l : Bs} {v : Value} {w : World} (h : w.ownsRow B 5 1 v n (byteCells l)) :
    (convert 72 9 v).run Tryd.prog w = .ok (.string (mk l)) w := by
  have hl : l.length = n := by have := h.1; simpa [byteCells] using this
  rcases h.2 with ⟨rfl, h0⟩ | ⟨g, cap, cur, rfl, hg, hh, h1, h2, h3, r⟩
  · subst h0
    obtain rfl : l = [] := List.eq_nil_of_length_eq_zero hl
    exact run_convert_nil_bytes w _ _ _ _ Tryd.underlying72 Tryd.underlying5 Tryd.underlying9
  · subst hl
    exact run_convert_bytes_back w _ _ _ _ _ _ Tryd.underlying72 Tryd.underlying5 Tryd.underlying9 (bytes_of_row hh (by simpa using r))

theorem ret_tuple {a b : Array Value} (h : a = b) : Ending.returned (.tuple a) = .returned (.tuple b) := by rw [h]

/-- An act's line and error. -/
def lineE (a : ActV) : Bs := if okAct a then actLine a else []

set_option maxRecDepth 100000 in
theorem line_any (k who n m : Int) (hk : 0 ≤ k) (w : World) (hE : Env w) (hW : ActWords w) :
    Calls Tryd.prog 13 #[.agg #[.int .u8 k, .int .i64 who, .int .i64 n, .int .i64 m]] w fun e w' => e = .returned (.tuple #[.string (mk (lineE ⟨k, who, n, m⟩)), .int .i64 (checkE ⟨k, who, n, m⟩)]) ∧ Below w.heap.size w w' := by
  by_cases hok : okAct ⟨k, who, n, m⟩
  · have e1 : checkE ⟨k, who, n, m⟩ = 0 := checkE_ok hok
    have e2 : lineE ⟨k, who, n, m⟩ = actLine ⟨k, who, n, m⟩ := if_pos hok
    rw [e1, e2]
    obtain ⟨a1, a2, a3, a4, a5, a6, _⟩ := hok
    simp only at a1 a2 a3 a4 a5 a6
    go_enter Tryd.func13, Tryd.ntmps13
    go_wp2_with fail
    refine (check_any k who n m hk _).mono ?_
    rw [e1]
    rintro e w1 ⟨rfl, hb1⟩
    obtain ⟨hc1, hf1⟩ := bcell hb1
    go_wp2_with fail
    have hb0 : Below w.heap.size w w1 := (below_alloc _).trans (hb1.mono (by simp))
    refine (put_any w1.heap.size 0 _ [] k who n m a1 a2 a3 a4 a5 a6 w1 (hE.below hb0 hE.low) (hW.below hb0 hE.low) (World.ownsRow_nil _ _ _ _) (Nat.le_refl _) (by have := hE.low; have := hb0.size; omega) (by omega)).mono ?_
    rintro e w2 ⟨v2, rfl, hown2, hb2, _⟩
    rw [Nat.zero_add, List.nil_append] at hown2
    have hst := run_string_of_row hown2
    go_wp2_with fail
    go_ret2
    exact ⟨rfl, hb0.trans (hb2.mono hb0.size)⟩
  · have e1 : checkE ⟨k, who, n, m⟩ = 2 := checkE_bad hok
    have e2 : lineE ⟨k, who, n, m⟩ = [] := if_neg hok
    rw [e1, e2]
    go_enter Tryd.func13, Tryd.ntmps13
    go_wp2_with fail
    refine (check_any k who n m hk _).mono ?_
    rw [e1]
    rintro e w1 ⟨rfl, hb1⟩
    go_wp2_with fail
    go_ret2
    exact ⟨rfl, (below_alloc _).trans (hb1.mono (by simp))⟩

/-- Acts' text. -/
def actTxt (l : List ActV) : Bs := (l.map fun a => actLine a ++ [10]).flatten
theorem actTxt_snoc (l : List ActV) (a : ActV) : actTxt (l ++ [a]) = actTxt l ++ (actLine a ++ [10]) := by simp [actTxt]
theorem actTxt_take (l : List ActV) (k : Nat) (h : k < l.length) : actTxt (l.take (k + 1)) = actTxt (l.take k) ++ (actLine l[k] ++ [10]) := by
  rw [List.take_succ_eq_append_getElem h, actTxt_snoc]
def allOk (l : List ActV) : Prop := ∀ a ∈ l, okAct a
instance (l : List ActV) : Decidable (allOk l) := inferInstanceAs (Decidable (∀ a ∈ l, okAct a))
def putB (l : List ActV) : Bs := if 4096 < l.length then [] else if allOk l then actTxt l else []
def putE (l : List ActV) : Int := if 4096 < l.length then 9 else if allOk l then 0 else 2

theorem actLine_len (a : ActV) (h : okAct a) : (actLine a).length ≤ 100 := by
  obtain ⟨a1, a2, a3, a4, a5, a6, _⟩ := h
  unfold timeP at a5 a6
  have l1 := itoa_len a.who (by omega) (by omega)
  have l2 := itoa_len a.n (by omega) (by omega)
  have l3 := itoa_len a.m (by omega) (by omega)
  have l0 : (actWord a.kind).length ≤ 10 := by unfold actWord; (repeat' split) <;> simp
  obtain ⟨k, who, n, m⟩ := a
  rw [← actLine_parts]
  simp only [List.length_append]
  simp only at l1 l2 l3 l0
  split <;> split <;> split <;> simp <;> omega

theorem actTxt_len (l : List ActV) (h : allOk l) : (actTxt l).length ≤ l.length * 101 := by
  induction l with
  | nil => simp [actTxt]
  | cons a l ih =>
    have := actLine_len a (h a (by simp))
    have := ih (fun x hx => h x (List.mem_cons_of_mem _ hx))
    simp only [actTxt, List.map_cons, List.flatten_cons, List.length_append, List.length_cons, List.length_nil] at *
    omega

theorem info_act : (Tryd.prog.info? 32).map (fun i => (i.zero, i.size, i.bytes)) = some (some (.agg #[.int .u8 0, .int .i64 0, .int .i64 0, .int .i64 0]), 4, 32) := by kernel_rfl

set_option maxRecDepth 100000 in
theorem put_acts (l : List ActV) (hk : ∀ a ∈ l, 0 ≤ a.kind) (A : Option Addr) (c : Nat) (w : World) (hE : Env w) (hW : ActWords w) (hA : At w A (actRows l)) (hlen : l.length ≤ maxLen) :
    Calls Tryd.prog 20 #[.slice A l.length c] w fun e w' => e = .returned (.tuple #[.string (mk (putB l)), .int .i64 (putE l)]) ∧ Below w.heap.size w w' := by
  unfold maxLen at hlen
  by_cases h4 : 4096 < l.length
  · have e1 : putB l = [] := if_pos h4
    have e2 : putE l = 9 := if_pos h4
    rw [e1, e2]
    have h4' : (4096 : Int) < (l.length : Int) := by omega
    go_enter Tryd.func20, Tryd.ntmps20
    go_wp2_with fail
    go_ret2
    exact ⟨rfl, Below.refl _ _⟩
  · have h4' : (l.length : Int) ≤ 4096 := by omega
    go_enter Tryd.func20, Tryd.ntmps20
    go_wp2_with fail
    go_loopw [4, 13] (fun v i wr => ∃ k : Nat, k ≤ l.length ∧ i = .int .i64 k ∧ allOk (l.take k) ∧ wr.ownsRow w.heap.size 5 1 v (actTxt (l.take k)).length (byteCells (actTxt (l.take k))) ∧ Below w.heap.size w wr) (fun _ i _ => l.length - (RowKit.intOf i).toNat)
    case atStart => exact ⟨0, Nat.zero_le _, rfl, (fun a ha => by cases ha), World.ownsRow_nil _ _ _ _, Below.refl _ _⟩
    case round =>
      obtain ⟨k, hkl, rfl, hok, hown, hb⟩ := hrel
      by_cases hlt : k < l.length
      · obtain ⟨⟨kd, who, n, m⟩, hak⟩ : ∃ a, l[k]? = some a := ⟨_, List.getElem?_eq_getElem hlt⟩
        obtain ⟨b, o, rfl, hbl, c0, c1, c2, c3⟩ := (hA.later hb (Nat.le_refl _)).act hak
        have hltI : (k : Int) < (l.length : Int) := by omega
        have hkd : 0 ≤ kd := hk _ (List.mem_of_getElem? hak)
        have hall : l.length * 101 ≤ 4096 * 101 := Nat.mul_le_mul_right _ (by omega)
        have htl := actTxt_len _ hok
        have htk : (l.take k).length ≤ l.length := List.length_take_le' _ _
        have htk2 : (l.take k).length * 101 ≤ l.length * 101 := Nat.mul_le_mul_right _ htk
        by_cases hoka : okAct ⟨kd, who, n, m⟩
        · have Hoka := Lib.hid hoka
          have e1 := checkE_ok hoka
          have hll := actLine_len _ hoka
          obtain ⟨a1, a2, a3, a4, a5, a6, _⟩ := hoka
          simp only at a1 a2 a3 a4 a5 a6
          go_wp2_with fail
          refine (check_any kd who n m hkd _).mono ?_
          rw [e1]
          rintro e w1 ⟨rfl, hb1⟩
          obtain ⟨hc1, hf1⟩ := bcell hb1
          have hbw1 : Below w.heap.size w w1 := (hb.alloc hb.size _).trans (hb1.mono (by have := hb.size; simp; omega))
          have hown1 := ownsRow_below (hown.alloc _) hb1 (Nat.le_refl _)
          go_wp2_with fail
          refine (put_any w.heap.size _ _ _ kd who n m a1 a2 a3 a4 a5 a6 w1 (hE.below hbw1 hE.low) (hW.below hbw1 hE.low) hown1 hbw1.size hE.low (by omega)).mono ?_
          rintro e w2 ⟨v2, rfl, hown2, hb2, _⟩
          obtain ⟨i0, hi, hz0, hz1, hz2⟩ := info_parts info_u8
          have hs2 : w.heap.size ≤ w2.heap.size := Nat.le_trans hbw1.size hb2.size
          clear hc1 hf1 e1
          go_wp2_with ((at_builtin; refine wpList_append_own _ rfl _ _ 72 rfl w.heap.size 5 i0 (.int .u8 0) 1 1 Tryd.underlying72 hi hz0 hz1 hz2 rfl (by omega) v2 _ _ rfl (hown2.alloc _) ⟨w2.heap.size, 0, none⟩ 1 1 [.int .u8 10] rfl rfl (cell_one_new _ _ _) (by simp [Value.oneCell']) (by unfold maxLen; omega) (by omega) (by simp; omega) ?_; intro v3 w3 hown3 hgrow3 _))
          have hb3 : Below w.heap.size w w3 := (((hbw1.trans hb2).alloc hs2 _).grown hgrow3 (by simp; omega) (fun g hg => (hown2.lt g hg).1))
          have ek : l[k] = ⟨kd, who, n, m⟩ := by rw [List.getElem?_eq_getElem hlt] at hak; exact Option.some.inj hak
          have et : actTxt (l.take (k + 1)) = actTxt (l.take k) ++ (actLine ⟨kd, who, n, m⟩ ++ [10]) := by rw [actTxt_take l k hlt, ek]
          refine ⟨⟨k + 1, by omega, by go_num, ?_, ?_, hb3⟩, by simp [RowKit.intOf]; omega⟩
          · intro a ha
            rw [List.take_succ_eq_append_getElem hlt, ek] at ha
            rcases List.mem_append.1 ha with h | h
            · exact hok a h
            · rw [List.mem_singleton.1 h]; exact Hoka.out
          · rw [et]
            have q1 : (actTxt (l.take k) ++ (actLine ⟨kd, who, n, m⟩ ++ [10])).length = (actTxt (l.take k)).length + (actLine ⟨kd, who, n, m⟩).length + 1 := by simp; omega
            have q2 : byteCells (actTxt (l.take k) ++ (actLine ⟨kd, who, n, m⟩ ++ [10])) = byteCells (actTxt (l.take k)) ++ byteCells (actLine ⟨kd, who, n, m⟩) ++ [.int .u8 10] := by simp [byteCells]
            rw [q1, q2]; exact hown3
        · have e1 := checkE_bad hoka
          have hno : ¬ allOk l := fun h => hoka (h _ (List.mem_of_getElem? hak))
          have p1 : putB l = [] := by unfold putB; rw [if_neg h4, if_neg hno]
          have p2 : putE l = 2 := by unfold putE; rw [if_neg h4, if_neg hno]
          have P1 := Lib.hid p1
          have P2 := Lib.hid p2
          clear p1 p2
          go_wp2_with fail
          refine (check_any kd who n m hkd _).mono ?_
          rw [e1]
          rintro e w1 ⟨rfl, hb1⟩
          have hbw1 : Below w.heap.size w w1 := (hb.alloc hb.size _).trans (hb1.mono (by have := hb.size; simp; omega))
          go_wp2_with fail
          go_ret2
          exact ⟨ret_tuple (by rw [P1.out, P2.out]; rfl), hbw1⟩
      · have hkeq : k = l.length := by omega
        have hall : allOk l := by rw [hkeq, List.take_length] at hok; exact hok
        have p1 : putB l = actTxt l := by unfold putB; rw [if_neg h4, if_pos hall]
        have p2 : putE l = 0 := by unfold putE; rw [if_neg h4, if_pos hall]
        have P1 := Lib.hid p1
        have P2 := Lib.hid p2
        rw [hkeq, List.take_length] at hown
        have hst := run_string_of_row hown
        have hge : (l.length : Int) ≤ (k : Int) := by omega
        clear p1 p2 hkeq
        go_wp2_with fail
        go_ret2
        exact ⟨ret_tuple (by rw [P1.out, P2.out]; rfl), hb⟩

end Go.Proofs.YtebgaglofabegaaDoor
