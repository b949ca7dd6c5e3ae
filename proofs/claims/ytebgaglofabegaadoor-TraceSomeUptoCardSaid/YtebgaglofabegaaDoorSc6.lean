/-
  script.Get.
-/
import Derived.Test.YtebgaglofabegaaDoorSc5
import Derived.Test.YtebgaglofabegaaDoorIt
import Derived.Maps.AppendAt
namespace Go.Proofs.YtebgaglofabegaaDoor
open Go.RowKit Go.Lib Go.Shelf

attribute [local go_sem] Oper.semAt_some

structure Hid (p : Prop) : Prop where
  mk :: (out : p)

/-- A line that is passed by. -/
def skipL (l : Bs) : Bool := l = [] || l.head? = some 35

/-- What Get does with the pieces of a text. -/
def getGo : List (Bs × Bool) → List ActV → Nat → List ActV × Int × Int
  | [], acc, _ => (acc, 0, 0)
  | (l, wh) :: r, acc, k =>
    if wh = false then ([], k + 1, 8)
    else if skipL l then getGo r acc (k + 1)
    else if parseE l ≠ 0 then ([], k + 1, 8)
    else if acc.length = 4096 then ([], k + 1, 9)
    else getGo r (acc ++ [parseA l]) (k + 1)

/-- Boxes of the results and of the variables: the invariant. -/
structure GetI (w : World) (B : Nat) (k : Int) (acc : List ActV) (v : Value) (W : World) : Prop where
  r2 : Boxed W B 40 (.slice none 0 0)
  r3 : Boxed W (B + 1) 3 (.int .i64 0)
  r4 : Boxed W (B + 1 + 1) 33 (.int .i64 0)
  out : Boxed W (B + 1 + 1 + 1) 40 v
  at_ : Boxed W (B + 1 + 1 + 1 + 1) 3 (.int .i64 k)
  own : W.ownsRow B 32 4 v acc.length (actRows acc)
  few : acc.length ≤ 4096
  below : Below B w W

def GetGo (pre : List (Bs × Bool)) (acc : List ActV) : Prop := ∀ r, getGo (pre ++ r) [] 0 = getGo r acc pre.length

structure GetX (w : World) (B : Nat) (pre : List (Bs × Bool)) (W : World) : Prop where
  x : ∃ e : Int, (∀ r, getGo (pre ++ r) [] 0 = ([], (pre.length : Int), e)) ∧ Boxed W B 40 (.slice none 0 0) ∧ Boxed W (B + 1) 3 (.int .i64 (pre.length : Int)) ∧ Boxed W (B + 1 + 1) 33 (.int .i64 e)
  below : Below B w W

theorem boxed_own {B : Nat} {t : TypeId} {v : Value} {b : Nat} {W W' : World} {row : Option Nat} (h : Boxed W b t v) (hg : W.grownBy W' row) (hr : ∀ r, row = some r → B ≤ r ∧ ∃ o : Obj, W.heap[r]? = some o ∧ o.isCells = false) : Boxed W' b t v :=
  h.kept hg fun e' => by
    obtain ⟨_, o, ho, hc⟩ := hr b e'.symm
    rw [show W.heap[b]? = _ from h] at ho; cases ho; cases hc

theorem owns_own {B b e size n : Nat} {v : Value} {xs : List Value} {W W' : World} {row : Option Nat} (h : W.ownsRow b e size v n xs) (hg : W.grownBy W' row) (hr : ∀ r, row = some r → B ≤ r ∧ ∃ o : Obj, W.heap[r]? = some o ∧ o.isCells = false) : W'.ownsRow b e size v n xs := by
  refine h.kept hg ?_
  rcases h.2 with ⟨rfl, _⟩ | ⟨g, cap, cur, rfl, _, hgb, _⟩
  · exact .inl rfl
  · refine .inr fun e' => ?_
    obtain ⟨_, o, ho, hc⟩ := hr g (by simpa [Value.ownBlock] using e'.symm)
    rw [hgb] at ho; cases ho; cases hc

theorem getI_own (w : World) (B D : Nat) (hB : B = w.heap.size) (hD : B ≤ D) : OwnFrom D (fun (pre : List Pc) W => ∃ acc v, GetGo (plainP pre) acc ∧ GetI w B pre.length acc v W) := by
  rintro pre W W' row ⟨acc, v, hgo, h⟩ hg hr
  exact ⟨acc, v, hgo, boxed_own h.r2 hg hr, boxed_own h.r3 hg hr, boxed_own h.r4 hg hr, boxed_own h.out hg hr, boxed_own h.at_ hg hr, owns_own h.own hg hr, h.few,
    h.below.grown hg (by have := h.below.size; omega) (fun k e => by have := (hr k e).1; omega)⟩

theorem getX_own (w : World) (B D : Nat) (hB : B = w.heap.size) (hD : B ≤ D) : OwnFrom D (fun (pre : List Pc) W => GetX w B (plainP pre) W) := by
  rintro pre W W' row h hg hr
  obtain ⟨e, h0, h1, h2, h3⟩ := h.x
  exact ⟨⟨e, h0, boxed_own h1 hg hr, boxed_own h2 hg hr, boxed_own h3 hg hr⟩,
    h.below.grown hg (by have := h.below.size; omega) (fun k e => by have := (hr k e).1; omega)⟩

theorem keepsFrom_below {B : Nat} {w w' : World} (h : Below w.heap.size w w') : KeepsFrom B w w' :=
  ⟨h.size, fun k o _ hk _ => by rw [h.block k (Array.getElem?_eq_some_iff.1 hk).1]; exact hk⟩

theorem pieces_len (l : Bs) : (pieces l).length ≤ l.length + 1 := by
  have h1 := lns_count l
  have h2 : l.count 10 ≤ l.length := List.count_le_length
  unfold pieces
  rw [List.length_append, List.length_map]
  split <;> simp <;> omega

theorem owns_slice {W : World} {B e size n : Nat} {v : Value} {xs : List Value} (h : W.ownsRow B e size v n xs) : ∃ A c, v = .slice A n c := by
  rcases h.2 with ⟨rfl, h0⟩ | ⟨g, cap, cur, hv, _⟩
  · exact ⟨none, 0, by rw [h0]⟩
  · exact ⟨_, cap, hv⟩

theorem boxed_set {W : World} {b b' i : Nat} {t : TypeId} {v : Value} (u : Value) (h : Boxed W b t v) (hne : b ≠ b') : Boxed (W.setCell ⟨b', i, none⟩ u) b t v :=
  (Below.heap_setCell _ _ _ _ hne).trans h

theorem results_get {a : Array Value} {w : World} {B : Nat} {v k e : Value} (h2 : a[2]?.getD undef = .pointer (some ⟨B, 0, none⟩)) (h3 : a[3]?.getD undef = .pointer (some ⟨B + 1, 0, none⟩)) (h4 : a[4]?.getD undef = .pointer (some ⟨B + 1 + 1, 0, none⟩))
    (b2 : Boxed w B 40 v) (b3 : Boxed w (B + 1) 3 k) (b4 : Boxed w (B + 1 + 1) 33 e) :
    (results Tryd.f22 a).run Tryd.prog w = .ok (.tuple #[v, k, e]) w := by
  have q2 := b2.cell
  have q3 := b3.cell
  have q4 := b4.cell
  simp [results, Tryd.f22, go_sem, h2, h3, h4, q2, q3, q4]

theorem GetI.push {w W w1 : World} {k : Int} {acc : List ActV} {a : ActV} {v v' : Value} {tmp : Obj} (h : GetI w w.heap.size k acc v W) (hf : acc.length ≠ 4096)
    (hown' : w1.ownsRow w.heap.size 32 4 v' (acc.length + 1) (actRows acc ++ actCells a)) (hgrow : (W.alloc tmp).grownBy w1 v.ownBlock) :
    GetI w w.heap.size k (acc ++ [a]) v' (w1.setCell ⟨w.heap.size + 1 + 1 + 1, 0, none⟩ v') := by
  obtain ⟨hv1, hv2, hr2, hk2, hb2⟩ := h.out.appended (by decide) h.own h.below.size (by omega) hown' hgrow
  have hfew := h.few
  have q : ∀ {b : Nat} {t : TypeId} {u : Value}, t ≠ 32 → b ≠ w.heap.size + 1 + 1 + 1 → Boxed W b t u → Boxed (w1.setCell ⟨w.heap.size + 1 + 1 + 1, 0, none⟩ v') b t u := fun hte hne hb =>
    boxed_set (i := 0) _ ((hb.alloc tmp).kept hgrow (hb.not_row hte h.own)) hne
  refine ⟨q (by decide) (by omega) h.r2, q (by decide) (by omega) h.r3, q (by decide) (by omega) h.r4, hv2, q (by decide) (by omega) h.at_, ?_, ?_, h.below.trans hb2⟩
  · have : actRows (acc ++ [a]) = actRows acc ++ actCells a := by simp [actRows]
    rw [this, List.length_append]; exact hr2
  · rw [List.length_append, List.length_singleton]; omega

theorem infoAct : (Tryd.prog.info? 32).map (fun i => (i.zero, i.size, i.bytes)) = some (some (.agg #[.int .u8 0, .int .i64 0, .int .i64 0, .int .i64 0]), 4, 32) := by kernel_rfl

theorem mk_empty (l : Bs) : (mk l).toList.isEmpty = l.isEmpty := by rw [Lib.toList_data, mk_data]

theorem GetI.bump {w W : World} {k : Int} {acc : List ActV} {v : Value} (h : GetI w w.heap.size k acc v W) (k' : Int) : GetI w w.heap.size k' acc v (W.setCell ⟨w.heap.size + 1 + 1 + 1 + 1, 0, none⟩ (.int .i64 k')) :=
  ⟨boxed_set (i := 0) _ h.r2 (by omega), boxed_set (i := 0) _ h.r3 (by omega), boxed_set (i := 0) _ h.r4 (by omega), boxed_set (i := 0) _ h.out (by omega), h.at_.set _,
    h.own.kept (grownBy_setCell' _ _ _) (.inr (h.at_.not_row (by decide) h.own).symm), h.few, below_set h.below (by omega) _⟩

theorem GetI.later {w W W' : World} {B : Nat} {k : Int} {acc : List ActV} {v : Value} (h : GetI w B k acc v W) (hb : Below W.heap.size W W') (hB : B = w.heap.size) : GetI w B k acc v W' := by
  have hg := grownBy_of_below hb
  have hle := h.below.size
  exact ⟨h.r2.kept hg (by simp), h.r3.kept hg (by simp), h.r4.kept hg (by simp), h.out.kept hg (by simp), h.at_.kept hg (by simp), ownsRow_below h.own hb (Nat.le_refl _), h.few, h.below.trans (hb.mono (by omega))⟩

/-- A block with the act that was read. -/
theorem below_act (W : World) (a b c d a' b' c' d' : Value) (t : TypeId) : Below W.heap.size W (((((W.alloc (.cells #[a, b, c, d] t)).setCell ⟨W.heap.size, 0, none⟩ a').setCell ⟨W.heap.size, 1, none⟩ b').setCell ⟨W.heap.size, 2, none⟩ c').setCell ⟨W.heap.size, 3, none⟩ d') :=
  below_set (below_set (below_set (below_set (below_alloc _) (Nat.le_refl _) _) (Nat.le_refl _) _) (Nat.le_refl _) _) (Nat.le_refl _) _

theorem GetGo.stop {pre : List (Bs × Bool)} {acc : List ActV} {x : Bs × Bool} {e : Int} (h : GetGo pre acc) (hx : ∀ r, getGo (x :: r) acc pre.length = ([], (pre.length : Int) + 1, e)) :
    ∀ r, getGo (pre ++ [x] ++ r) [] 0 = ([], ((pre ++ [x]).length : Int), e) := fun r => by
  rw [List.append_assoc, h, List.singleton_append, hx, List.length_append]; simp

theorem GetGo.next {pre : List (Bs × Bool)} {acc acc' : List ActV} {x : Bs × Bool} (h : GetGo pre acc) (hx : ∀ r, getGo (x :: r) acc pre.length = getGo r acc' (pre.length + 1)) : GetGo (pre ++ [x]) acc' := fun r => by
  rw [List.append_assoc, h, List.singleton_append, hx, List.length_append]; rfl

/-- An error is handed back: the three results. -/
theorem getX_of {w W : World} {B : Nat} {pre : List (Bs × Bool)} {k e : Int} {u v x : Value} (b2 : Boxed W B 40 u) (b3 : Boxed W (B + 1) 3 v) (b4 : Boxed W (B + 1 + 1) 33 x) (hb : Below B w W)
    (hk : k = pre.length) (hgo : ∀ r, getGo (pre ++ r) [] 0 = ([], (pre.length : Int), e)) :
    GetX w B pre (((W.setCell ⟨B, 0, none⟩ (.slice none 0 0)).setCell ⟨B + 1, 0, none⟩ (.int .i64 k)).setCell ⟨B + 1 + 1, 0, none⟩ (.int .i64 e)).drew := by
  subst hk
  have x2 : Boxed (((W.setCell ⟨B, 0, none⟩ (.slice none 0 0)).setCell ⟨B + 1, 0, none⟩ (.int .i64 pre.length)).setCell ⟨B + 1 + 1, 0, none⟩ (.int .i64 e)) B 40 (.slice none 0 0) := boxed_set (i := 0) _ (boxed_set (i := 0) _ (b2.set _) (by omega)) (by omega)
  have x3 : Boxed (((W.setCell ⟨B, 0, none⟩ (.slice none 0 0)).setCell ⟨B + 1, 0, none⟩ (.int .i64 pre.length)).setCell ⟨B + 1 + 1, 0, none⟩ (.int .i64 e)) (B + 1) 3 (.int .i64 pre.length) := boxed_set (i := 0) _ ((boxed_set (i := 0) _ b3 (by omega)).set _) (by omega)
  have x4 : Boxed (((W.setCell ⟨B, 0, none⟩ (.slice none 0 0)).setCell ⟨B + 1, 0, none⟩ (.int .i64 pre.length)).setCell ⟨B + 1 + 1, 0, none⟩ (.int .i64 e)) (B + 1 + 1) 33 (.int .i64 e) := (boxed_set (i := 0) _ (boxed_set (i := 0) _ b4 (by omega)) (by omega)).set _
  have xb : Below B w (((W.setCell ⟨B, 0, none⟩ (.slice none 0 0)).setCell ⟨B + 1, 0, none⟩ (.int .i64 pre.length)).setCell ⟨B + 1 + 1, 0, none⟩ (.int .i64 e)) := below_set (below_set (below_set hb (by omega) _) (by omega) _) (by omega) _
  exact ⟨⟨e, hgo, x2, x3, x4⟩, ⟨xb.os, xb.tape, xb.output, xb.size, xb.block⟩⟩

theorem getX_next {w W : World} {B : Nat} {pre : List Pc} {acc : List ActV} {x : Bs × Bool} {k e : Int} {u v z : Value} (b2 : Boxed W B 40 u) (b3 : Boxed W (B + 1) 3 v) (b4 : Boxed W (B + 1 + 1) 33 z) (hb : Below B w W)
    (hk : k = pre.length + 1) (hgo : GetGo (plainP pre) acc) (hxl : x.1.length ≤ 4194304) (hx : ∀ r, getGo (x :: r) acc pre.length = ([], (pre.length : Int) + 1, e)) :
    GetX w B (plainP (pre ++ [⟨x, hxl⟩])) (((W.setCell ⟨B, 0, none⟩ (.slice none 0 0)).setCell ⟨B + 1, 0, none⟩ (.int .i64 k)).setCell ⟨B + 1 + 1, 0, none⟩ (.int .i64 e)).drew := by
  have hp : plainP (pre ++ [⟨x, hxl⟩]) = plainP pre ++ [x] := by simp [plainP]
  rw [hp]
  refine getX_of b2 b3 b4 hb (by rw [hk, List.length_append, plainP, List.length_map]; simp) (hgo.stop (fun r => ?_))
  rw [plainP, List.length_map]
  exact hx r

theorem goNext {pre : List Pc} {acc acc' : List ActV} {x : Bs × Bool} (h : GetGo (plainP pre) acc) (hxl : x.1.length ≤ 4194304) (hx : ∀ r, getGo (x :: r) acc pre.length = getGo r acc' (pre.length + 1)) : GetGo (plainP (pre ++ [⟨x, hxl⟩])) acc' := by
  have hp : plainP (pre ++ [⟨x, hxl⟩]) = plainP pre ++ [x] := by simp [plainP]
  rw [hp]
  refine h.next (fun r => ?_)
  rw [plainP, List.length_map]
  exact hx r

theorem keeps3 {D : Nat} {W : World} {a b c : Addr} {x y z : Value} : KeepsFrom D W (((W.setCell a x).setCell b y).setCell c z).drew :=
  ((((KeepsOthers.setCell W a x).trans (KeepsOthers.setCell _ b y)).trans (KeepsOthers.setCell _ c z)).trans (KeepsOthers.drew _)).from D

set_option maxRecDepth 100000 in
set_option maxHeartbeats 1600000 in
theorem get_in (s : ByteArray) (w : World) (hs : s.size ≤ 4194304) (hE : Env w) (hW : ActWords w) :
    CallsIn Fence.wide 9 Tryd.prog 22 #[.string s] w fun e w' => ∃ v, e = .returned (.tuple #[v, .int .i64 (getGo (pieces s.data.toList) [] 0).2.1, .int .i64 (getGo (pieces s.data.toList) [] 0).2.2]) ∧
      w'.ownsRow w.heap.size 32 4 v (getGo (pieces s.data.toList) [] 0).1.length (actRows (getGo (pieces s.data.toList) [] 0).1) ∧ Below w.heap.size w w' := by
  have hlow := hE.low
  have eV := fun w => each_val 8 s w
  refine callsIn_of_wp_marks Tryd.func22 rfl trivial ?_ rfl
  simp only [Tryd.ntmps22, List.size_toArray, List.length_cons, List.length_nil, Nat.reduceAdd, Nat.reduceSub, Array.replicate_succ, Array.replicate_zero, List.push_toArray, List.append_toArray, List.nil_append, List.cons_append]
  gi_wp2_with (refine ⟨trivial, ?_⟩; refine CallsIn.mono (eV _) ?_; rintro e w' ⟨rfl, rfl⟩)
  -- what lies in the blocks that were laid
  have g2 := Boxed.new w 40 (.slice none 0 0)
  have g3 := Boxed.new (w.alloc (.cells #[.slice none 0 0] 40)) 3 (.int .i64 0)
  have g4 := Boxed.new ((w.alloc (.cells #[.slice none 0 0] 40)).alloc (.cells #[.int .i64 0] 3)) 33 (.int .i64 0)
  have g5 := Boxed.new (((w.alloc (.cells #[.slice none 0 0] 40)).alloc (.cells #[.int .i64 0] 3)).alloc (.cells #[.int .i64 0] 33)) 40 (.slice none 0 0)
  have g6 := Boxed.new ((((w.alloc (.cells #[.slice none 0 0] 40)).alloc (.cells #[.int .i64 0] 3)).alloc (.cells #[.int .i64 0] 33)).alloc (.cells #[.slice none 0 0] 40)) 3 (.int .i64 0)
  have gT := Boxed.new (((((w.alloc (.cells #[.slice none 0 0] 40)).alloc (.cells #[.int .i64 0] 3)).alloc (.cells #[.int .i64 0] 33)).alloc (.cells #[.slice none 0 0] 40)).alloc (.cells #[.int .i64 0] 3)) 9 (.string s)
  simp only [World.size_alloc] at g2 g3 g4 g5 g6 gT
  have p2 := ((((g2.alloc (.cells #[.int .i64 0] 3)).alloc (.cells #[.int .i64 0] 33)).alloc (.cells #[.slice none 0 0] 40)).alloc (.cells #[.int .i64 0] 3)).alloc (.cells #[.string s] 9)
  have p3 := (((g3.alloc (.cells #[.int .i64 0] 33)).alloc (.cells #[.slice none 0 0] 40)).alloc (.cells #[.int .i64 0] 3)).alloc (.cells #[.string s] 9)
  have p4 := ((g4.alloc (.cells #[.slice none 0 0] 40)).alloc (.cells #[.int .i64 0] 3)).alloc (.cells #[.string s] 9)
  have p5 := (g5.alloc (.cells #[.int .i64 0] 3)).alloc (.cells #[.string s] 9)
  have p6 := g6.alloc (.cells #[.string s] 9)
  have hB0 : Below w.heap.size w ((((((w.alloc (.cells #[.slice none 0 0] 40)).alloc (.cells #[.int .i64 0] 3)).alloc (.cells #[.int .i64 0] 33)).alloc (.cells #[.slice none 0 0] 40)).alloc (.cells #[.int .i64 0] 3)).alloc (.cells #[.string s] 9)) :=
    ((((((Below.refl _ w).alloc (Nat.le_refl _) _).alloc (by simp) _).alloc (by simp; omega) _).alloc (by simp; omega) _).alloc (by simp; omega) _).alloc (by simp; omega) _
  generalize hW0 : (((((w.alloc (.cells #[.slice none 0 0] 40)).alloc (.cells #[.int .i64 0] 3)).alloc (.cells #[.int .i64 0] 33)).alloc (.cells #[.slice none 0 0] 40)).alloc (.cells #[.int .i64 0] 3)).alloc (.cells #[.string s] 9) = W0 at p2 p3 p4 p5 p6 gT hB0 ⊢
  have hs0 : W0.heap.size = w.heap.size + 6 := by rw [← hW0]; simp
  clear hW0 g2 g3 g4 g5 g6
  have hE0 : Env W0 := hE.below hB0 hlow
  have hpl := pieces_len s.data.toList
  rw [← size_toList] at hpl
  refine wpIn_rangeFunc_ownG rfl (by decide) (gf := 76) (lb := #[.pointer (some ⟨w.heap.size + 1 + 1 + 1 + 1 + 1, 0, none⟩)]) rfl trivial (enters_of Tryd.func76 (by kernel_rfl) rfl)
    (each_stops 8 (by decide) (w.heap.size + 1 + 1 + 1 + 1 + 1) s.data.toList (by rw [← size_toList]; exact hs) W0 (by omega) hE0 (by rw [mk_of]; exact gT.cell)) belowK_t (belowK_b (by omega)) (Below.refl _ _) (fun _ => rfl)
    (fun (pre : List Pc) W => ∃ acc v, GetGo (plainP pre) acc ∧ GetI w w.heap.size pre.length acc v W)
    (fun c (pre : List Pc) W => c = .ret ∧ GetX w w.heap.size (plainP pre) W)
    (getI_own w _ _ rfl (by omega))
    (fun c => OwnFrom.and (fun _ _ _ _ h _ _ => h) (getX_own w _ _ rfl (by omega)))
    ⟨[], .slice none 0 0, fun r => rfl, p2, p3, p4, p5, p6, World.ownsRow_nil _ _ _ _, by simp, hB0⟩
    (fun x => { tmps := #[.string s, undef, .pointer (some ⟨w.heap.size, 0, none⟩), .pointer (some ⟨w.heap.size + 1, 0, none⟩), .pointer (some ⟨w.heap.size + 1 + 1, 0, none⟩), .pointer (some ⟨w.heap.size + 1 + 1 + 1, 0, none⟩), .pointer (some ⟨w.heap.size + 1 + 1 + 1 + 1, 0, none⟩),
      .string (mk x.1.1), .bool x.1.2, undef, undef, .string s, .func (.func 76) #[] #[.pointer (some ⟨w.heap.size + 1 + 1 + 1 + 1 + 1, 0, none⟩)], .string (mk x.1.1), .bool x.1.2,
      undef, undef, undef, undef, undef, undef, undef, undef, undef, undef, undef, undef, undef, undef, undef, undef, undef, undef, undef, undef, undef, undef, undef, undef, undef, undef, undef, undef, undef, undef, undef, undef], defers := [] }) ?assign ?body ?done ?stop
  case assign =>
    intro l x W K hK
    simp only [encP]
    gi_wp2
    exact hK
  case body =>
    rintro l pre ⟨⟨line, wh⟩, hpcl⟩ W ⟨acc, v, hgo, hI⟩ hlt
    obtain ⟨A, cap, rfl⟩ := owns_slice hI.own
    have c2 := hI.r2.cell
    have c3 := hI.r3.cell
    have c4 := hI.r4.cell
    have c5 := hI.out.cell
    have c6 := hI.at_.cell
    have f2 := hI.r2.frozen
    have f3 := hI.r3.frozen
    have f4 := hI.r4.frozen
    have f5 := hI.out.frozen
    have f6 := hI.at_.frozen
    generalize hpn : (pre.length : Int) = pn at c6 hI
    have hat0 : 0 ≤ pn := by omega
    have hat : pn + 1 ≤ 4194306 := by omega
    simp only [Nat.reduceSub] at *
    cases wh with
    | false =>
      gi_wp2
      gi_region
      all_goals
        gi_wp2
        refine ⟨((KeepsOthers.setCell W _ _).from _).trans keeps3, rfl, ?_⟩
        have hb := hI.bump (pn + 1)
        refine getX_next hb.r2 hb.r3 hb.r4 hb.below (by omega) hgo hpcl (fun r => ?_)
        simp [getGo]
    | true =>
      have hb := hI.bump (pn + 1)
      have hbE : Env (W.setCell ⟨w.heap.size + 1 + 1 + 1 + 1, 0, none⟩ (.int .i64 (pn + 1))) := hE.below hb.below hlow
      have hbW : ActWords (W.setCell ⟨w.heap.size + 1 + 1 + 1 + 1, 0, none⟩ (.int .i64 (pn + 1))) := hW.below hb.below hlow
      have hb' := Hid.mk hb
      clear hb
      cases line with
      | nil =>
        have hem : (mk []).toList.isEmpty = true := by rw [mk_empty]; rfl
        gi_wp2
        exact ⟨(KeepsOthers.setCell W _ _).from _, below_set (Below.refl _ _) (by omega) _, acc, _, goNext hgo hpcl (fun r => by simp [getGo, skipL]), by
          have := hb'.out; rw [List.length_append]; simpa [hpn] using this⟩
      | cons c line =>
        have hem : (mk (c :: line)).toList.isEmpty = false := by rw [mk_empty]; rfl
        have hsz : (mk (c :: line)).size = line.length + 1 := by rw [mk_size]; rfl
        have hix : ∀ h, (mk (c :: line))[0]'h = c := fun _ => rfl
        by_cases hc : c = 35
        · subst hc
          gi_wp2
          exact ⟨(KeepsOthers.setCell W _ _).from _, below_set (Below.refl _ _) (by omega) _, acc, _, goNext hgo hpcl (fun r => by simp [getGo, skipL]), by
            have := hb'.out; rw [List.length_append]; simpa [hpn] using this⟩
        · have hc0 : ((c.toNat : Int) == 35) = false := by
            rw [beq_eq_false_iff_ne]
            intro h
            exact hc (UInt8.toNat_inj.1 (show c.toNat = 35 by omega))
          have hsk : skipL (c :: line) = false := by simp [skipL, hc]
          have hP := parse_any (mk (c :: line)) _ (by rw [mk_size]; exact hpcl) hbE hbW
          rw [mk_data] at hP
          rcases hpa : parseAct (c :: line) with _ | a
          · obtain ⟨e1, e2⟩ := parse_fail hpa
            rw [e1, e2] at hP
            gi_wp2_with (refine ⟨trivial, ?_⟩; refine CallsIn.mono (CallsIn.inRound l (callsIn_wide.2 hP)) ?_; rintro e w' ⟨rfl, hbw⟩; have hI2 := (hb'.out.later hbw rfl).later (below_alloc (.cells #[.int .u8 0, .int .i64 0, .int .i64 0, .int .i64 0] 32)) rfl; have d2 := hI2.r2.cell; have d3 := hI2.r3.cell; have d4 := hI2.r4.cell; have d5 := hI2.out.cell; have d6 := hI2.at_.cell; have g2 := hI2.r2.frozen; have g3 := hI2.r3.frozen; have g4 := hI2.r4.frozen; have hl4 := (hb'.out.later hbw rfl).at_.lt; replace hI2 := Hid.mk hI2)
            gi_region
            all_goals
              gi_wp2
              refine ⟨(((KeepsOthers.setCell W _ _).from _).trans (keepsFrom_below hbw)).trans ((keepsFrom_below (below_alloc _)).trans keeps3), rfl, getX_next hI2.out.r2 hI2.out.r3 hI2.out.r4 hI2.out.below (by omega) hgo hpcl (fun r => ?_)⟩
              simp [getGo, hsk, e2]
          · obtain ⟨e1, e2⟩ := parse_good hpa
            rw [e1, e2] at hP
            have hfew := hI.few
            by_cases hfull : acc.length = 4096
            · have hfi : ((acc.length : Int) == 4096) = true := by rw [hfull]; rfl
              gi_wp2_with (refine ⟨trivial, ?_⟩; refine CallsIn.mono (CallsIn.inRound l (callsIn_wide.2 hP)) ?_; rintro e w' ⟨rfl, hbw⟩; have hI2 := (hb'.out.later hbw rfl).later (below_alloc (.cells #[.int .u8 a.kind, .int .i64 a.who, .int .i64 a.n, .int .i64 a.m] 32)) rfl; have d2 := hI2.r2.cell; have d3 := hI2.r3.cell; have d4 := hI2.r4.cell; have d5 := hI2.out.cell; have d6 := hI2.at_.cell; have g2 := hI2.r2.frozen; have g3 := hI2.r3.frozen; have g4 := hI2.r4.frozen; have hl4 := (hb'.out.later hbw rfl).at_.lt; replace hI2 := Hid.mk hI2)
              gi_region
              all_goals
                gi_wp2
                refine ⟨(((KeepsOthers.setCell W _ _).from _).trans (keepsFrom_below hbw)).trans ((keepsFrom_below (below_alloc _)).trans keeps3), rfl, getX_next hI2.out.r2 hI2.out.r3 hI2.out.r4 hI2.out.below (by omega) hgo hpcl (fun r => ?_)⟩
                simp [getGo, hsk, e2, hfull]
            · have hfi : ((acc.length : Int) == 4096) = false := by rw [beq_eq_false_iff_ne]; omega
              obtain ⟨i0, hi, hz0, hz1, hz2⟩ := info_parts infoAct
              gi_wp2_with (first
                | refine ⟨trivial, ?_⟩; refine CallsIn.mono (CallsIn.inRound l (callsIn_wide.2 hP)) ?_; rintro e w' ⟨rfl, hbw⟩; have hI2 := (hb'.out.later hbw rfl).later (below_alloc (.cells #[.int .u8 a.kind, .int .i64 a.who, .int .i64 a.n, .int .i64 a.m] 32)) rfl; have d2 := hI2.r2.cell; have d3 := hI2.r3.cell; have d4 := hI2.r4.cell; have d5 := hI2.out.cell; have d6 := hI2.at_.cell; have g2 := hI2.r2.frozen; have g3 := hI2.r3.frozen; have g4 := hI2.r4.frozen; have hl4 := (hb'.out.later hbw rfl).at_.lt; replace hI2 := Hid.mk hI2
                | (gi_at_builtin; refine wpListIn_append_own _ rfl _ _ 40 rfl w.heap.size 32 i0 (.agg #[.int .u8 0, .int .i64 0, .int .i64 0, .int .i64 0]) 4 32 Tryd.underlying40 hi hz0 hz1 hz2 rfl (by decide) _ _ _ rfl (hI2.out.own.alloc _) ⟨w'.heap.size + 1, 0, none⟩ 1 1 (actCells a) rfl rfl (World.news_of_block (cs := #[.int .u8 a.kind, .int .i64 a.who, .int .i64 a.n, .int .i64 a.m]) (t := 32) (fr := (0, 0)) (by simpa using World.alloc_heap_new (w'.alloc (.cells #[.int .u8 a.kind, .int .i64 a.who, .int .i64 a.n, .int .i64 a.m] 32)) (.cells #[.int .u8 a.kind, .int .i64 a.who, .int .i64 a.n, .int .i64 a.m] 32))) (by simp [Value.oneCell', actCells]) (by unfold maxLen; omega) (by omega) (by have := hI2.out.below.size; simp at this ⊢; omega) ?_; intro v' w1 hown' hgrow _; obtain ⟨g', cap', rfl⟩ := ownsRow_succ hown'; have hv1 := (hI2.out.out.appended (by decide) hI2.out.own hI2.out.below.size (by omega) hown' hgrow).1; have hc1 := hv1.cell; have hf1 := hv1.frozen))
              have hall := hI2.out.out.appended (by decide) hI2.out.own hI2.out.below.size (by omega) hown' hgrow
              have hp := hI2.out.push hfull hown' hgrow
              have hs1 : w.heap.size ≤ (W.setCell ⟨w.heap.size + 1 + 1 + 1 + 1, 0, none⟩ (.int .i64 (pn + 1))).heap.size := hb'.out.below.size
              have hs2 : w.heap.size ≤ w'.heap.size := Nat.le_trans hs1 hbw.size
              refine ⟨(((KeepsOthers.setCell W _ _).from _).trans (keepsFrom_below hbw)).trans ((keepsFrom_below (below_alloc _)).trans (hall.2.2.2.1.from _)), ?_, acc ++ [a], .slice (some ⟨g', 0, none⟩) (acc.length + 1) cap', goNext hgo hpcl (fun r => by simp [getGo, hsk, e2, e1, hfull]), ?_⟩
              · exact ((below_set (Below.refl 10 W) (by omega) _).trans (hbw.mono (by omega))).trans (((below_alloc _).mono (by omega)).trans (hall.2.2.2.2.mono hlow))
              · rw [List.length_append]; simpa [hpn] using hp
  case done =>
    rintro D ys W hD hys ⟨acc, v, hgo0, hI⟩ hK
    obtain ⟨A, cap, rfl⟩ := owns_slice hI.own
    have c2 := hI.r2.cell
    have c3 := hI.r3.cell
    have c4 := hI.r4.cell
    have c5 := hI.out.cell
    have f2 := hI.r2.frozen
    have f3 := hI.r3.frozen
    have f4 := hI.r4.frozen
    gi_wp2
    have o2 := boxed_set (i := 0) (.int .i64 0) (boxed_set (i := 0) (.int .i64 0) (hI.r2.set (.slice A acc.length cap)) (show w.heap.size ≠ w.heap.size + 1 by omega)) (show w.heap.size ≠ w.heap.size + 1 + 1 by omega)
    have o3 := boxed_set (i := 0) (.int .i64 0) ((boxed_set (i := 0) (.slice A acc.length cap) hI.r3 (show w.heap.size + 1 ≠ w.heap.size by omega)).set (.int .i64 0)) (show w.heap.size + 1 ≠ w.heap.size + 1 + 1 by omega)
    have o4 := (boxed_set (i := 0) (.int .i64 0) (boxed_set (i := 0) (.slice A acc.length cap) hI.r4 (show w.heap.size + 1 + 1 ≠ w.heap.size by omega)) (show w.heap.size + 1 + 1 ≠ w.heap.size + 1 by omega)).set (.int .i64 0)
    have hB3 := below_set (i := 0) (below_set (i := 0) (below_set (i := 0) hI.below (show w.heap.size ≤ w.heap.size by omega) (.slice A acc.length cap)) (show w.heap.size ≤ w.heap.size + 1 by omega) (.int .i64 0)) (show w.heap.size ≤ w.heap.size + 1 + 1 by omega) (.int .i64 0)
    have hown : World.ownsRow (((W.setCell ⟨w.heap.size, 0, none⟩ (.slice A acc.length cap)).setCell ⟨w.heap.size + 1, 0, none⟩ (.int .i64 0)).setCell ⟨w.heap.size + 1 + 1, 0, none⟩ (.int .i64 0)) w.heap.size 32 4 (.slice A acc.length cap) acc.length (actRows acc) := by
      have q2 := hI.r2.not_row (by decide) hI.own
      have q3 := hI.r3.not_row (by decide) hI.own
      have q4 := hI.r4.not_row (by decide) hI.own
      exact ((hI.own.kept (grownBy_setCell' _ _ _) (.inr q2.symm)).kept (grownBy_setCell' _ _ _) (.inr q3.symm)).kept (grownBy_setCell' _ _ _) (.inr q4.symm)
    have hK' : (((W.setCell ⟨w.heap.size, 0, none⟩ (.slice A acc.length cap)).setCell ⟨w.heap.size + 1, 0, none⟩ (.int .i64 0)).setCell ⟨w.heap.size + 1 + 1, 0, none⟩ (.int .i64 0)).heap[D]? = some (.deferred (some [])) :=
      blk_far (blk_far (blk_far hK (by omega) _) (by omega) _) (by omega) _
    have hgo := hgo0 []
    rw [List.append_nil, hys] at hgo
    generalize (((W.setCell ⟨w.heap.size, 0, none⟩ (.slice A acc.length cap)).setCell ⟨w.heap.size + 1, 0, none⟩ (.int .i64 0)).setCell ⟨w.heap.size + 1 + 1, 0, none⟩ (.int .i64 0)) = W3 at *
    refine ⟨by simp, .inl ⟨_, _, rfl, run_takeDeferred hK', ?_⟩⟩
    refine ⟨_, results_get rfl rfl rfl (o2.kept (grownBy_putObj' _ D _) (by simp; omega)) (o3.kept (grownBy_putObj' _ D _) (by simp; omega)) (o4.kept (grownBy_putObj' _ D _) (by simp; omega)), .slice A acc.length cap, ?_, ?_, ?_⟩
    · rw [hgo]; rfl
    · rw [hgo]; exact ownsRow_putObj hown _ hK' rfl
    · exact hB3.trans (belowK_b (w := w) (Nat.le_refl _) W3 D _ _ (by omega) hK' rfl rfl)
  case stop =>
    rintro D c pre W hD ⟨r, hr⟩ ⟨rfl, hX⟩ hK
    obtain ⟨e, hgo, b2, b3, b4⟩ := hX.x
    gi_wp2
    refine ⟨by simp, .inl ⟨_, _, rfl, run_takeDeferred hK, ?_⟩⟩
    refine ⟨_, results_get rfl rfl rfl (b2.kept (grownBy_putObj' _ D _) (by simp; omega)) (b3.kept (grownBy_putObj' _ D _) (by simp; omega)) (b4.kept (grownBy_putObj' _ D _) (by simp; omega)), .slice none 0 0, ?_, ?_, ?_⟩
    · rw [← hr, hgo]
    · rw [← hr, hgo]; exact World.ownsRow_nil _ _ _ _
    · exact hX.below.trans (belowK_b (w := w) (Nat.le_refl _) W D _ _ (by omega) hK rfl rfl)

/-- **script.Get.** -/
theorem get_any (s : ByteArray) (w : World) (hs : s.size ≤ 4194304) (hE : Env w) (hW : ActWords w) :
    Calls Tryd.prog 22 #[.string s] w fun e w' => ∃ v, e = .returned (.tuple #[v, .int .i64 (getGo (pieces s.data.toList) [] 0).2.1, .int .i64 (getGo (pieces s.data.toList) [] 0).2.2]) ∧
      w'.ownsRow w.heap.size 32 4 v (getGo (pieces s.data.toList) [] 0).1.length (actRows (getGo (pieces s.data.toList) [] 0).1) ∧ Below w.heap.size w w' := callsIn_wide.1 (get_in s w hs hE hW)

end Go.Proofs.YtebgaglofabegaaDoor
