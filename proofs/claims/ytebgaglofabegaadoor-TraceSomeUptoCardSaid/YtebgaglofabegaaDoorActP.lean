/-
  Reading an act from its line, as plain data: what the words say; it is the one act that has this line.
-/
import Derived.Test.YtebgaglofabegaaDoorAct
namespace Go.Proofs.YtebgaglofabegaaDoor
open Go.Lib

/-- The kind of a word; 0: there is none such. -/
def kindOf (l : Bs) : Int :=
  if l = actWord 1 then 1 else if l = actWord 2 then 2 else if l = actWord 3 then 3 else if l = actWord 4 then 4 else if l = actWord 5 then 5 else if l = actWord 6 then 6 else if l = actWord 7 then 7 else 0

theorem kindOf_hit (l : Bs) (k : Nat) (h1 : 1 ≤ k) (h8 : k < 8) (hk : l = actWord k) : kindOf l = k := by
  have h : k = 1 ∨ k = 2 ∨ k = 3 ∨ k = 4 ∨ k = 5 ∨ k = 6 ∨ k = 7 := by omega
  rcases h with rfl | rfl | rfl | rfl | rfl | rfl | rfl <;> (subst hk; decide)

theorem kindOf_miss (l : Bs) (hno : ∀ j : Nat, 1 ≤ j → j < 8 → l ≠ actWord j) : kindOf l = 0 := by
  unfold kindOf
  have h1 : ¬ l = actWord 1 := hno 1 (by omega) (by omega)
  have h2 : ¬ l = actWord 2 := hno 2 (by omega) (by omega)
  have h3 : ¬ l = actWord 3 := hno 3 (by omega) (by omega)
  have h4 : ¬ l = actWord 4 := hno 4 (by omega) (by omega)
  have h5 : ¬ l = actWord 5 := hno 5 (by omega) (by omega)
  have h6 : ¬ l = actWord 6 := hno 6 (by omega) (by omega)
  have h7 : ¬ l = actWord 7 := hno 7 (by omega) (by omega)
  rw [if_neg h1, if_neg h2, if_neg h3, if_neg h4, if_neg h5, if_neg h6, if_neg h7]

theorem kindOf_range (l : Bs) : 0 ≤ kindOf l ∧ kindOf l ≤ 7 := by unfold kindOf; (repeat' split) <;> omega
theorem kindOf_word (l : Bs) (h : kindOf l ≠ 0) : actWord (kindOf l) = l := by
  unfold kindOf at *
  (repeat' split at h) <;> first | (split <;> simp_all) | exact absurd rfl h
theorem kindOf_actWord (k : Int) (h1 : 1 ≤ k) (h7 : k ≤ 7) : kindOf (actWord k) = k := by
  have h : k = 1 ∨ k = 2 ∨ k = 3 ∨ k = 4 ∨ k = 5 ∨ k = 6 ∨ k = 7 := by omega
  rcases h with rfl | rfl | rfl | rfl | rfl | rfl | rfl <;> decide

/-- What the words behind a kind say. -/
def actOf (k : Int) (rest : List Bs) : Option ActV :=
  if k = 1 then
    match rest with
    | [x] => (canonI x).map fun n => ⟨k, 0, n, 0⟩
    | _ => none
  else if k = 2 ∨ k = 4 then
    match rest with
    | [x, y, z] => (canonI x).bind fun a => (canonI y).bind fun b => (canonI z).map fun c => ⟨k, a, b, c⟩
    | _ => none
  else if k = 3 ∨ k = 5 then
    match rest with
    | [x, y] => (canonI x).bind fun a => (canonI y).map fun b => ⟨k, a, b, 0⟩
    | _ => none
  else
    match rest with
    | [x] => (canonI x).map fun a => ⟨k, a, 0, 0⟩
    | _ => none

/-- The act of a line. -/
def parseAct (l : Bs) : Option ActV :=
  match actOf (kindOf ((parts 32 l).headD [])) (parts 32 l).tail with
  | some a => if okAct a then some a else none
  | none => none

/-! ### One word read -/
def numB (l : Bs) : Bool := decide (canonI l = none)
/-- How many words are read, and whether one was bad. -/
def stepN (all : List Bs) (told : Bool) (off : Nat) (bad : Bool) : Nat × Bool :=
  if told then (match all[off]? with | none => (off, true) | some l => (off + 1, bad || numB l)) else (off, bad)
def NumV (all : List Bs) (told : Bool) (off : Nat) (v : Int) : Prop :=
  if told then (∀ l, all[off]? = some l → canonI l = none ∨ canonI l = some v) else v = 0

theorem canon_cases (l : Bs) (v : Int) (h : canonI l = none ∨ canonI l = some v) : (numB l = true ∧ canonI l = none) ∨ (numB l = false ∧ canonI l = some v) := by
  rcases h with h | h
  · exact .inl ⟨by unfold numB; rw [h]; rfl, h⟩
  · exact .inr ⟨by unfold numB; rw [h]; rfl, h⟩

theorem numV_at {all : List Bs} {off : Nat} {v : Int} {l : Bs} (h : NumV all true off v) (hl : all[off]? = some l) : canonI l = none ∨ canonI l = some v := by
  unfold NumV at h; rw [if_pos rfl] at h; exact h l hl

/-- WHAT THE READER COMES TO: the words are the numbers of such an act, or the reader is bad, or words are left. -/
theorem reads_act (k : Int) (all : List Bs) (v1 v2 v3 : Int) (o1 o2 o3 : Nat × Bool)
    (h1 : stepN all (decide (k ≠ 1)) 0 false = o1) (n1 : NumV all (decide (k ≠ 1)) 0 v1)
    (h2 : stepN all (decide (k = 1 ∨ k = 2 ∨ k = 3 ∨ k = 4 ∨ k = 5)) o1.1 o1.2 = o2) (n2 : NumV all (decide (k = 1 ∨ k = 2 ∨ k = 3 ∨ k = 4 ∨ k = 5)) o1.1 v2)
    (h3 : stepN all (decide (k = 2 ∨ k = 4)) o2.1 o2.2 = o3) (n3 : NumV all (decide (k = 2 ∨ k = 4)) o2.1 v3) :
    ((o3.2 = true ∨ o3.1 < all.length) → actOf k all = none) ∧ (¬ (o3.2 = true ∨ o3.1 < all.length) → actOf k all = some ⟨k, v1, v2, v3⟩) := by
  by_cases k1 : k = 1
  · subst k1
    simp only [ne_eq, not_true_eq_false, decide_false, true_or, decide_true, show ¬ ((1 : Int) = 2 ∨ (1 : Int) = 4) by omega] at h1 n1 h2 n2 h3 n3
    simp only [stepN, NumV, Bool.false_eq_true, if_false] at h1 n1 h3 n3
    subst h1 h3
    obtain rfl : v1 = 0 := n1
    obtain rfl : v3 = 0 := n3
    match all, h2, n2 with
    | [], h2, n2 => simp [stepN] at h2; subst h2; simp [actOf]
    | x :: r, h2, n2 =>
      have hx := numV_at n2 (l := x) rfl
      simp [stepN] at h2
      subst h2
      rcases canon_cases x v2 hx with ⟨hb, hc⟩ | ⟨hb, hc⟩
      · cases r with
        | nil => simp [actOf, hb, hc]
        | cons y r => simp [actOf]
      · cases r with
        | nil => simp [actOf, hb, hc]
        | cons y r => simp [actOf]
  · by_cases k2 : k = 2 ∨ k = 4
    · have e1 : decide (k ≠ 1) = true := decide_eq_true k1
      have e2 : decide (k = 1 ∨ k = 2 ∨ k = 3 ∨ k = 4 ∨ k = 5) = true := decide_eq_true (by omega)
      have e3 : decide (k = 2 ∨ k = 4) = true := decide_eq_true k2
      rw [e1] at h1 n1
      rw [e2] at h2 n2
      rw [e3] at h3 n3
      match all, h1, n1, h2, n2, h3, n3 with
      | [], h1, n1, h2, n2, h3, n3 => simp [stepN] at h1; subst h1; simp [stepN] at h2; subst h2; simp [stepN] at h3; subst h3; simp [actOf, k1, k2]
      | [x], h1, n1, h2, n2, h3, n3 => simp [stepN] at h1; subst h1; simp [stepN] at h2; subst h2; simp [stepN] at h3; subst h3; simp [actOf, k1, k2]
      | [x, y], h1, n1, h2, n2, h3, n3 => simp [stepN] at h1; subst h1; simp [stepN] at h2; subst h2; simp [stepN] at h3; subst h3; simp [actOf, k1, k2]
      | x :: y :: z :: r, h1, n1, h2, n2, h3, n3 =>
        have hx := canon_cases x v1 (numV_at n1 (l := x) rfl)
        simp [stepN] at h1; subst h1
        have hy := canon_cases y v2 (numV_at n2 (l := y) rfl)
        simp [stepN] at h2; subst h2
        have hz := canon_cases z v3 (numV_at n3 (l := z) rfl)
        simp [stepN] at h3; subst h3
        cases r with
        | nil => rcases hx with ⟨a1, a2⟩ | ⟨a1, a2⟩ <;> rcases hy with ⟨b1, b2⟩ | ⟨b1, b2⟩ <;> rcases hz with ⟨c1, c2⟩ | ⟨c1, c2⟩ <;> simp [actOf, k1, k2, a1, a2, b1, b2, c1, c2]
        | cons u r => simp [actOf, k1, k2]
    · have e1 : decide (k ≠ 1) = true := decide_eq_true k1
      have e3 : decide (k = 2 ∨ k = 4) = false := decide_eq_false k2
      rw [e1] at h1 n1
      rw [e3] at h3 n3
      simp only [stepN, NumV, Bool.false_eq_true, if_false] at h3 n3
      subst h3
      obtain rfl : v3 = 0 := n3
      by_cases k3 : k = 3 ∨ k = 5
      · have e2 : decide (k = 1 ∨ k = 2 ∨ k = 3 ∨ k = 4 ∨ k = 5) = true := decide_eq_true (by omega)
        rw [e2] at h2 n2
        match all, h1, n1, h2, n2 with
        | [], h1, n1, h2, n2 => simp [stepN] at h1; subst h1; simp [stepN] at h2; subst h2; simp [actOf, k1, k2, k3]
        | [x], h1, n1, h2, n2 => simp [stepN] at h1; subst h1; simp [stepN] at h2; subst h2; simp [actOf, k1, k2, k3]
        | x :: y :: r, h1, n1, h2, n2 =>
          have hx := canon_cases x v1 (numV_at n1 (l := x) rfl)
          simp [stepN] at h1; subst h1
          have hy := canon_cases y v2 (numV_at n2 (l := y) rfl)
          simp [stepN] at h2; subst h2
          cases r with
          | nil => rcases hx with ⟨a1, a2⟩ | ⟨a1, a2⟩ <;> rcases hy with ⟨b1, b2⟩ | ⟨b1, b2⟩ <;> simp [actOf, k1, k2, k3, a1, a2, b1, b2]
          | cons u r => simp [actOf, k1, k2, k3]
      · have e2 : decide (k = 1 ∨ k = 2 ∨ k = 3 ∨ k = 4 ∨ k = 5) = false := decide_eq_false (by omega)
        rw [e2] at h2 n2
        simp only [stepN, NumV, Bool.false_eq_true, if_false] at h2 n2
        subst h2
        obtain rfl : v2 = 0 := n2
        match all, h1, n1 with
        | [], h1, n1 => simp [stepN] at h1; subst h1; simp [actOf, k1, k2, k3]
        | x :: r, h1, n1 =>
          have hx := canon_cases x v1 (numV_at n1 (l := x) rfl)
          simp [stepN] at h1; subst h1
          cases r with
          | nil => rcases hx with ⟨a1, a2⟩ | ⟨a1, a2⟩ <;> simp [actOf, k1, k2, k3, a1, a2]
          | cons u r => simp [actOf, k1, k2, k3]

/-! ### The act of a line is the one that has it -/
theorem actWord_clean (k : Int) : (32 : UInt8) ∉ actWord k ∧ (10 : UInt8) ∉ actWord k := by unfold actWord; (repeat' split) <;> decide

theorem joins_say (w : Bs) (ns : List Int) : joins 32 (w :: ns.map itoa) = w ++ sayNums ns := by
  induction ns generalizing w with
  | nil => simp [joins, sayNums]
  | cons n ns ih =>
    rw [List.map_cons, joins_cons _ _ _ (by simp), ih]
    simp [sayNums]

theorem parts_line (w : Bs) (ns : List Int) (hw : (32 : UInt8) ∉ w) : parts 32 (w ++ sayNums ns) = w :: ns.map itoa := by
  rw [← joins_say]
  refine parts_joins 32 _ (by simp) fun x hx => ?_
  rcases List.mem_cons.1 hx with rfl | h
  · exact hw
  · obtain ⟨n, _, rfl⟩ := List.mem_map.1 h
    exact fun e => (itoa_clean n 32 e).1 rfl

theorem canonI_itoa (n : Int) (h0 : -9223372036854775808 ≤ n) (h1 : n ≤ 9223372036854775807) : canonI (itoa n) = some n := (canonI_iff _ _).2 ⟨rfl, h0, h1⟩

theorem parseAct_line (a : ActV) (h : okAct a) : parseAct (actLine a) = some a := by
  obtain ⟨k, who, n, m⟩ := a
  have hall := h
  obtain ⟨a1, a2, a3, a4, a5, a6, a7, a8, a9⟩ := h
  simp only at a1 a2 a3 a4 a7 a8 a9
  unfold timeP at a5 a6
  simp only at a5 a6
  have cw := canonI_itoa who (by omega) (by omega)
  have cn := canonI_itoa n (by omega) (by omega)
  have cm := canonI_itoa m (by omega) (by omega)
  have e : actOf k ((actNums ⟨k, who, n, m⟩).map itoa) = some ⟨k, who, n, m⟩ := by
    unfold actOf actNums
    by_cases k1 : k = 1
    · obtain ⟨rfl, rfl⟩ := a7 k1
      simp [k1, cn]
    · by_cases k2 : k = 2 ∨ k = 4
      · simp [k1, k2, cw, cn, cm]
      · by_cases k3 : k = 3 ∨ k = 5
        · obtain rfl := a8 k3
          simp [k1, k2, k3, cw, cn]
        · obtain ⟨rfl, rfl⟩ := a9 (by omega)
          simp [k1, k2, k3, cw]
  unfold parseAct actLine
  rw [parts_line _ _ (actWord_clean k).1]
  simp only [List.headD_cons, List.tail_cons, kindOf_actWord k a1 a2, e, if_pos hall]

theorem actOf_nums {k : Int} {rest : List Bs} {a : ActV} (h : actOf k rest = some a) : a.kind = k ∧ (actNums a).map itoa = rest := by
  unfold actOf at h
  by_cases k1 : k = 1
  · rw [if_pos k1] at h
    split at h
    · rename_i x
      obtain ⟨n, hn, rfl⟩ := Option.map_eq_some_iff.1 h
      exact ⟨rfl, by simp [actNums, k1, ((canonI_iff _ _).1 hn).1]⟩
    · cases h
  · rw [if_neg k1] at h
    by_cases k2 : k = 2 ∨ k = 4
    · rw [if_pos k2] at h
      split at h
      · rename_i x y z
        obtain ⟨p, hp, h⟩ := Option.bind_eq_some_iff.1 h
        obtain ⟨q, hq, h⟩ := Option.bind_eq_some_iff.1 h
        obtain ⟨r, hr, rfl⟩ := Option.map_eq_some_iff.1 h
        exact ⟨rfl, by simp [actNums, k1, k2, ((canonI_iff _ _).1 hp).1, ((canonI_iff _ _).1 hq).1, ((canonI_iff _ _).1 hr).1]⟩
      · cases h
    · rw [if_neg k2] at h
      by_cases k3 : k = 3 ∨ k = 5
      · rw [if_pos k3] at h
        split at h
        · rename_i x y
          obtain ⟨p, hp, h⟩ := Option.bind_eq_some_iff.1 h
          obtain ⟨q, hq, rfl⟩ := Option.map_eq_some_iff.1 h
          exact ⟨rfl, by simp [actNums, k1, k2, k3, ((canonI_iff _ _).1 hp).1, ((canonI_iff _ _).1 hq).1]⟩
        · cases h
      · rw [if_neg k3] at h
        split at h
        · rename_i x
          obtain ⟨p, hp, rfl⟩ := Option.map_eq_some_iff.1 h
          exact ⟨rfl, by simp [actNums, k1, k2, k3, ((canonI_iff _ _).1 hp).1]⟩
        · cases h

theorem parseAct_iff (l : Bs) (a : ActV) : parseAct l = some a ↔ okAct a ∧ actLine a = l := by
  constructor
  · intro h
    unfold parseAct at h
    split at h
    · rename_i a' ha
      split at h
      · rename_i hok
        simp only [Option.some.injEq] at h
        subst h
        refine ⟨hok, ?_⟩
        obtain ⟨hk, hn⟩ := actOf_nums ha
        have hk1 := hok.1
        have hw : actWord a'.kind = (parts 32 l).headD [] := by rw [hk]; exact kindOf_word _ (by rw [← hk]; omega)
        unfold actLine
        rw [← joins_say, hw, hn, parts_cons, joins_parts]
      · cases h
    · cases h
  · rintro ⟨hok, rfl⟩
    exact parseAct_line a hok

theorem actLine_inj {a b : ActV} (ha : okAct a) (hb : okAct b) (h : actLine a = actLine b) : a = b := by
  have h1 := parseAct_line a ha
  have h2 := parseAct_line b hb
  rw [h, h2] at h1
  exact (Option.some.inj h1).symm

theorem sayNums_clean (ns : List Int) : (10 : UInt8) ∉ sayNums ns := by
  intro h
  unfold sayNums at h
  obtain ⟨x, hx, hm⟩ := List.mem_flatten.1 h
  obtain ⟨n, _, rfl⟩ := List.mem_map.1 hx
  rcases List.mem_cons.1 hm with h1 | h1
  · cases h1
  · exact (itoa_clean n 10 h1).2 rfl

theorem actLine_clean (a : ActV) : (10 : UInt8) ∉ actLine a := by
  unfold actLine
  rw [List.mem_append]
  rintro (h | h)
  · exact (actWord_clean a.kind).2 h
  · exact sayNums_clean _ h

theorem actLine_head (a : ActV) (h : okAct a) : ∃ c r, actLine a = c :: r ∧ c ≠ 35 := by
  obtain ⟨k, who, n, m⟩ := a
  obtain ⟨a1, a2, _⟩ := h
  simp only at a1 a2
  have h : k = 1 ∨ k = 2 ∨ k = 3 ∨ k = 4 ∨ k = 5 ∨ k = 6 ∨ k = 7 := by omega
  rcases h with rfl | rfl | rfl | rfl | rfl | rfl | rfl <;> exact ⟨_, _, rfl, by decide⟩

end Go.Proofs.YtebgaglofabegaaDoor
