/-
  The document's Parse, walked.
-/
import Derived.Test.YtebgaglofabegaaDoorRf6
namespace Go.Proofs.YtebgaglofabegaaDoor
open Go.RowKit Go.Lib

theorem results_parse1 {a : Array Value} {w : World} {g : Nat} {c0 c1 c2 c3 e : Value} {t : TypeId} {fr : Nat × Nat} (h2 : a[2]?.getD undef = .pointer (some ⟨g, 0, none⟩)) (h3 : a[3]?.getD undef = e) (hb : w.heap[g]? = some (.cells #[c0, c1, c2, c3] t fr)) :
    (results Tryd.f16 a).run Tryd.prog w = .ok (.tuple #[.agg #[c0, c1, c2, c3], e]) w := by
  have q0 := cell_of_row w g 0 _ _ _ hb
  have q1 := cell_of_row w g 1 _ _ _ hb
  have q2 := cell_of_row w g 2 _ _ _ hb
  have q3 := cell_of_row w g 3 _ _ _ hb
  simp only [List.getElem?_toArray, List.getElem?_cons_zero, List.getElem?_cons_succ] at q0 q1 q2 q3
  simp [results, Tryd.results16, go_sem, h2, h3, q0, q1, q2, q3]

/-- The boxes: the result; the numbers. -/
structure P1 (w0 : World) (b : Nat) (A : Option Addr) (ws : List Bs) (v0 v1 v2 : Int) (w : World) : Prop where
  res : w.heap[w0.heap.size]? = some (.cells #[.int .u8 0, .int .i64 0, .int .i64 0, .int .i64 0] 32)
  num : w.heap[b]? = some (.cells #[.int .i64 v0, .int .i64 v1, .int .i64 v2] 89)
  ne : w0.heap.size < b
  lt : ∀ a, A = some a → a.block < b
  at_ : At w A (strCells ws)
  below : Below w0.heap.size w0 w

theorem P1.later {w0 w w' : World} {b : Nat} {A : Option Addr} {ws : List Bs} {v0 v1 v2 : Int} (h : P1 w0 b A ws v0 v1 v2 w) (hb : Below w.heap.size w w') : P1 w0 b A ws v0 v1 v2 w' :=
  ⟨(hb.block _ (Array.getElem?_eq_some_iff.1 h.res).1).trans h.res, (hb.block _ (Array.getElem?_eq_some_iff.1 h.num).1).trans h.num, h.ne, h.lt, h.at_.later hb (Nat.le_refl _), h.below.trans (hb.mono h.below.size)⟩

theorem P1.put {w0 w : World} {b i : Nat} {A : Option Addr} {ws : List Bs} {v0 v1 v2 u0 u1 u2 x : Int} (h : P1 w0 b A ws v0 v1 v2 w)
    (hx : (#[.int .i64 v0, .int .i64 v1, .int .i64 v2] : Array Value).setIfInBounds i (.int .i64 x) = #[.int .i64 u0, .int .i64 u1, .int .i64 u2]) : P1 w0 b A ws u0 u1 u2 (w.setCell ⟨b, i, none⟩ (.int .i64 x)) := by
  refine ⟨blk_far h.res (Nat.ne_of_lt h.ne) _, by rw [heap_cells_set h.num, hx], h.ne, h.lt, fun hne => ?_, below_set h.below (Nat.le_of_lt h.ne) _⟩
  obtain ⟨bl, o, hA, hbl, hc⟩ := h.at_ hne
  have := h.lt _ hA
  refine ⟨bl, o, hA, Nat.lt_of_lt_of_le hbl (by simp [World.setCell]), fun j u hu => ?_⟩
  rw [World.cell?_setCell_other _ _ _ _ (by intro e; injection e with e1; simp at this; omega)]
  exact hc j u hu

theorem cells4 {w : World} {g : Nat} {c0 c1 c2 c3 : Value} {t : TypeId} (h : w.heap[g]? = some (.cells #[c0, c1, c2, c3] t)) :
    w.cell? ⟨g, 0, none⟩ = some c0 ∧ w.cell? ⟨g, 1, none⟩ = some c1 ∧ w.cell? ⟨g, 2, none⟩ = some c2 ∧ w.cell? ⟨g, 3, none⟩ = some c3 ∧ ∀ o, w.frozen? ⟨g, o, none⟩ = false := by
  have q0 := cell_of_row w g 0 _ _ _ h
  have q1 := cell_of_row w g 1 _ _ _ h
  have q2 := cell_of_row w g 2 _ _ _ h
  have q3 := cell_of_row w g 3 _ _ _ h
  simp only [List.getElem?_toArray, List.getElem?_cons_zero, List.getElem?_cons_succ] at q0 q1 q2 q3
  exact ⟨q0, q1, q2, q3, fun o => by simp [World.frozen?, h]⟩

theorem cells3 {w : World} {g : Nat} {c0 c1 c2 : Value} {t : TypeId} (h : w.heap[g]? = some (.cells #[c0, c1, c2] t)) :
    w.cell? ⟨g, 0, none⟩ = some c0 ∧ w.cell? ⟨g, 1, none⟩ = some c1 ∧ w.cell? ⟨g, 2, none⟩ = some c2 ∧ ∀ o, w.frozen? ⟨g, o, none⟩ = false := by
  have q0 := cell_of_row w g 0 _ _ _ h
  have q1 := cell_of_row w g 1 _ _ _ h
  have q2 := cell_of_row w g 2 _ _ _ h
  simp only [List.getElem?_toArray, List.getElem?_cons_zero, List.getElem?_cons_succ] at q0 q1 q2
  exact ⟨q0, q1, q2, fun o => by simp [World.frozen?, h]⟩

theorem set4 {w : World} {g : Nat} {c0 c1 c2 c3 : Value} {t : TypeId} {fr : Nat × Nat} (h : w.heap[g]? = some (.cells #[c0, c1, c2, c3] t fr)) (d0 d1 d2 d3 : Value) :
    ((((w.setCell ⟨g, 0, none⟩ d0).setCell ⟨g, 1, none⟩ d1).setCell ⟨g, 2, none⟩ d2).setCell ⟨g, 3, none⟩ d3).heap[g]? = some (.cells #[d0, d1, d2, d3] t fr) :=
  heap_cells_set (heap_cells_set (heap_cells_set (heap_cells_set h _) _) _) _

theorem below4 {B g : Nat} {w0 w : World} (h : Below B w0 w) (hg : B ≤ g) (d0 d1 d2 d3 : Value) : Below B w0 ((((w.setCell ⟨g, 0, none⟩ d0).setCell ⟨g, 1, none⟩ d1).setCell ⟨g, 2, none⟩ d2).setCell ⟨g, 3, none⟩ d3) :=
  below_set (below_set (below_set (below_set h hg _) hg _) hg _) hg _

set_option maxRecDepth 100000 in
set_option maxHeartbeats 4000000 in
theorem parse1_any (s : ByteArray) (w : World) (hs : s.size ≤ 4194304) (hlow : 10 ≤ w.heap.size) :
    Calls Tryd.prog 16 #[.string s] w fun e w' => e = .returned (.tuple #[.agg #[.int .u8 (parseA s.data.toList).kind, .int .i64 (parseA s.data.toList).who, .int .i64 (parseA s.data.toList).n, .int .i64 (parseA s.data.toList).m], .int .i64 (parseE s.data.toList)]) ∧ Below w.heap.size w w' := by
  have Hlen := Lib.hid (size_toList s)
  have hpm : ∀ b ∈ parts 32 s.data.toList, b.length ≤ 4194304 := fun b hb => Nat.le_trans (parts_mem_len 32 _ b hb) (by rw [← size_toList]; exact hs)
  have hpn := parts_length 32 s.data.toList
  have hcn : s.data.toList.count 32 ≤ s.size := by rw [size_toList]; exact List.count_le_length
  go_enter Tryd.func16, Tryd.ntmps16
  go_wp2_with fail
  have ha := below_alloc (w := w) (.cells #[.int .u8 0, .int .i64 0, .int .i64 0, .int .i64 0] 32)
  have hres := World.alloc_heap_new w (.cells #[.int .u8 0, .int .i64 0, .int .i64 0, .int .i64 0] 32)
  generalize w.alloc (.cells #[.int .u8 0, .int .i64 0, .int .i64 0, .int .i64 0] 32) = wa at *
  have hlt := (Array.getElem?_eq_some_iff.1 hres).1
  refine (words_any s hs wa (by omega)).mono ?_
  rintro e w1 ⟨v, rfl, own1, k1⟩
  obtain ⟨A, cap, rfl⟩ := owns_slice own1
  have at1 := At.ofOwn own1
  have hb1 := ha.trans (k1.mono ha.size)
  replace hres := (k1.block _ hlt).trans hres
  clear own1 ha
  have hL : (parts 32 s.data.toList).length ≤ 4194305 := by omega
  clear hpn hcn
  generalize hws : parts 32 s.data.toList = ws at *
  go_wp2_with fail
  have hAlt : ∀ a, A = some a → a.block < w1.heap.size := fun a ha => by
    obtain ⟨bl, o, hA, hbl, _⟩ := at1 (fun h => by have := List.map_eq_nil_iff.1 h; rw [← hws] at this; exact parts_ne 32 _ this)
    rw [ha] at hA
    cases hA
    exact hbl
  have hn5 := World.alloc_heap_new w1 (.cells #[.int .i64 0, .int .i64 0, .int .i64 0] 89)
  have hl1 := k1.size
  have P0 : P1 w w1.heap.size A ws 0 0 0 (w1.alloc (.cells #[.int .i64 0, .int .i64 0, .int .i64 0] 89)) :=
    ⟨((below_alloc _).block _ (by omega)).trans hres, hn5, by omega, hAlt, at1.later (below_alloc _) (Nat.le_refl _), hb1.trans ((below_alloc _).mono hb1.size)⟩
  clear hn5 hres at1 k1
  go_loopw [6] (fun i wr => ∃ (j : Nat) (v0 v1 v2 : Int), i = .int .i64 ((j : Int) + 1) ∧ j ≤ 3 ∧ Nums ws j v0 v1 v2 ∧ P1 w w1.heap.size A ws v0 v1 v2 wr) (fun i _ => 4 - (RowKit.intOf i).toNat)
  case atStart => exact ⟨0, 0, 0, 0, rfl, by omega, ⟨by omega, ⟨fun h => absurd h (by omega), fun _ => rfl⟩, ⟨fun h => absurd h (by omega), fun _ => rfl⟩, ⟨fun h => absurd h (by omega), fun _ => rfl⟩⟩, P0⟩
  case round =>
    obtain ⟨j, v0, v1, v2, rfl, hj3, hN, hP⟩ := hrel
    by_cases hc : j + 1 < ws.length ∧ j + 1 < 4
    · obtain ⟨hc1, hc2⟩ := hc
      have hc1' : (j : Int) + 1 < (ws.length : Int) := by omega
      have hc2' : (j : Int) + 1 < 4 := by omega
      obtain ⟨b, hb⟩ : ∃ b, ws[j + 1]? = some b := ⟨_, List.getElem?_eq_getElem hc1⟩
      obtain ⟨bl, o, rfl, hbl, hcells⟩ := hP.at_ (fun h => by have := List.map_eq_nil_iff.1 h; rw [this] at hc1; simp at hc1)
      have hcell := hcells (j + 1) (.string (mk b)) (by simp [strCells, hb])
      have C := count_any (mk b) 4503599627370496 (by omega) (by omega) (by rw [mk_size]; exact hpm b (List.mem_of_getElem? hb)) wr
      rw [mk_data] at C
      have hP' := Lib.hid hP
      clear hP hcells
      cases hcb : countB b 4503599627370496 with
      | none =>
        have hpa := parse_none_bad (l := s.data.toList) (by rw [hws]; exact hb) hcb
        obtain ⟨z1, z2⟩ := parse_fail hpa
        have Z := Lib.hid (And.intro z1 z2)
        have hcv : countV b 4503599627370496 = 0 := by unfold countV; rw [hcb]; rfl
        rw [hcb, hcv] at C
        clear hpa z1 z2 hcb hcv hws
        go_wp2_with fail
        refine C.mono ?_
        rintro e w2 ⟨rfl, k2⟩
        have hP2 := hP'.out.later k2
        have hr2 := hP2.res
        obtain ⟨q0, q1, q2, q3, qf⟩ := cells4 hr2
        have hB2 := hP2.below
        have HR := Lib.hid hr2
        clear hP2 hr2 k2
        go_wp2_with fail
        refine bodyPost_ret (results_parse1 rfl rfl (set4 HR.out _ _ _ _)) rfl ⟨by rw [Z.out.1, Z.out.2]; rfl, below4 hB2 (Nat.le_refl _) _ _ _ _⟩
      | some x =>
        obtain ⟨x0, x1, x2⟩ := countB_some.1 hcb
        have hcv : countV b 4503599627370496 = x := by unfold countV; rw [hcb]; rfl
        rw [hcb, hcv] at C
        clear hcb hcv
        have hj : j = 0 ∨ j = 1 ∨ j = 2 := by omega
        have HN := Lib.hid hN
        clear hN
        rcases hj with rfl | rfl | rfl
        · go_wp2_with fail
          refine C.mono ?_
          rintro e w2 ⟨rfl, k2⟩
          have hP2 := hP'.out.later k2
          obtain ⟨q0, q1, q2, qf⟩ := cells3 hP2.num
          replace hP2 := Lib.hid hP2
          go_wp2_with fail
          refine ⟨⟨1, x, v1, v2, by go_num, by omega, ⟨by have := HN.out.r; omega, ⟨fun _ => ⟨b, hb, x2⟩, fun h => absurd h (by omega)⟩, ⟨fun h => absurd h (by omega), fun _ => HN.out.a1.2 (by omega)⟩, ⟨fun h => absurd h (by omega), fun _ => HN.out.a2.2 (by omega)⟩⟩, hP2.out.put rfl⟩, by simp [RowKit.intOf]⟩
        · go_wp2_with fail
          refine C.mono ?_
          rintro e w2 ⟨rfl, k2⟩
          have hP2 := hP'.out.later k2
          obtain ⟨q0, q1, q2, qf⟩ := cells3 hP2.num
          replace hP2 := Lib.hid hP2
          go_wp2_with fail
          refine ⟨⟨2, v0, x, v2, by go_num, by omega, ⟨by have := HN.out.r; omega, ⟨fun _ => HN.out.a0.1 (by omega), fun h => absurd h (by omega)⟩, ⟨fun _ => ⟨b, hb, x2⟩, fun h => absurd h (by omega)⟩, ⟨fun h => absurd h (by omega), fun _ => HN.out.a2.2 (by omega)⟩⟩, hP2.out.put rfl⟩, by simp [RowKit.intOf]⟩
        · go_wp2_with fail
          refine C.mono ?_
          rintro e w2 ⟨rfl, k2⟩
          have hP2 := hP'.out.later k2
          obtain ⟨q0, q1, q2, qf⟩ := cells3 hP2.num
          replace hP2 := Lib.hid hP2
          go_wp2_with fail
          refine ⟨⟨3, v0, v1, x, by go_num, by omega, ⟨by have := HN.out.r; omega, ⟨fun _ => HN.out.a0.1 (by omega), fun h => absurd h (by omega)⟩, ⟨fun _ => HN.out.a1.1 (by omega), fun h => absurd h (by omega)⟩, ⟨fun _ => ⟨b, hb, x2⟩, fun h => absurd h (by omega)⟩⟩, hP2.out.put rfl⟩, by simp [RowKit.intOf]⟩
    · -- the candidates
      have hj : ws.length ≤ j + 1 ∨ 3 ≤ j := by omega
      have hP' := Lib.hid hP
      have hN' := Lib.hid hN
      clear hP hN
      by_cases hj1 : ws.length ≤ j + 1
      · have hj1' : (ws.length : Int) ≤ (j : Int) + 1 := by omega
        clear hj1 hc
        go_wp2_with fail
        go_loopw [9] (fun kv wr2 => ∃ k : Nat, kv = .int .u8 k ∧ 1 ≤ k ∧ k ≤ 8 ∧ (∀ q : Int, 1 ≤ q → q < k → ¬ (okAct (cand q v0 v1 v2) ∧ actLine (cand q v0 v1 v2) = s.data.toList)) ∧ P1 w w1.heap.size A ws v0 v1 v2 wr2) (fun kv _ => 8 - (RowKit.intOf kv).toNat)
        case atStart => exact ⟨1, rfl, by omega, by omega, fun q h1 h2 => absurd h2 (by omega), hP'.out⟩
        case round =>
          obtain ⟨k, rfl, hk1, hk8, hno, hP2⟩ := hrel
          by_cases hk : k < 8
          · have hkI : (k : Int) < 8 := by omega
            obtain ⟨q0, q1, q2, qf⟩ := cells3 hP2.num
            have Hno := Lib.hid hno
            by_cases hk1 : k = 1
            · subst hk1
              obtain ⟨p0, p1, p2, pf⟩ := cells3 (hP2.later (below_alloc (.cells #[.int .u8 1, .int .i64 v0, .int .i64 v1, .int .i64 v2] 32))).num
              have HP4 := Lib.hid (hP2.later (below_alloc (.cells #[.int .u8 1, .int .i64 0, .int .i64 v0, .int .i64 0] 32)))
              have HBX := Lib.hid (World.alloc_heap_new wr (.cells #[.int .u8 1, .int .i64 0, .int .i64 v0, .int .i64 0] 32))
              clear hP2 hno
              go_wp2_with fail
              refine (line1_any 1 0 v0 0 _).mono ?_
              rintro e w3 ⟨rfl, k3⟩
              have hP5 := HP4.out.later k3
              have hbx3 := (k3.block _ (Array.getElem?_eq_some_iff.1 HBX.out).1).trans HBX.out
              obtain ⟨x0, x1, x2, x3, _⟩ := cells4 hbx3
              obtain ⟨y0, y1, y2, y3, yf⟩ := cells4 hP5.res
              have HR := Lib.hid hP5.res
              have hB5 := hP5.below
              have HP5 := Lib.hid hP5
              clear hbx3 k3 hP5
              by_cases hhit : okAct ⟨1, 0, v0, 0⟩ ∧ actLine ⟨1, 0, v0, 0⟩ = s.data.toList
              · have f1 : (checkE ⟨1, 0, v0, 0⟩ == 0) = true := by rw [checkE_ok hhit.1]; rfl
                have f2 : ((mk (lineE ⟨1, 0, v0, 0⟩)).toList == s.toList) = true := by rw [str_beq, mk_data, show lineE ⟨1, 0, v0, 0⟩ = s.data.toList from (if_pos hhit.1).trans hhit.2, decide_eq_true rfl]
                have Z := Lib.hid (parse_good ((parseAct_iff s.data.toList _).2 hhit))
                clear hhit
                go_wp2_with fail
                refine bodyPost_ret (results_parse1 rfl rfl (set4 HR.out _ _ _ _)) rfl ⟨by rw [Z.out.1, Z.out.2]; rfl, below4 hB5 (Nat.le_refl _) _ _ _ _⟩
              · have HH := Lib.hid hhit
                have hmiss : ((checkE ⟨1, 0, v0, 0⟩ == 0) = false) ∨ ((checkE ⟨1, 0, v0, 0⟩ == 0) = true ∧ ((mk (lineE ⟨1, 0, v0, 0⟩)).toList == s.toList) = false) := by
                  by_cases hok : okAct ⟨1, 0, v0, 0⟩
                  · right
                    refine ⟨by rw [checkE_ok hok]; rfl, ?_⟩
                    rw [str_beq, mk_data, show lineE ⟨1, 0, v0, 0⟩ = actLine ⟨1, 0, v0, 0⟩ from if_pos hok]
                    exact decide_eq_false (fun h => hhit ⟨hok, h⟩)
                  · left
                    rw [checkE_bad hok]; rfl
                clear hhit
                rcases hmiss with f1 | ⟨f1, f2⟩
                · go_wp2_with fail
                  refine ⟨⟨1 + 1, by go_num, by omega, by omega, ?_, HP5.out⟩, by simp [RowKit.intOf] <;> omega⟩
                  intro q hq1 hq2
                  by_cases hqk : q < 1
                  · exact Hno.out q hq1 (by omega)
                  · obtain rfl : q = 1 := by omega
                    exact HH.out
                · go_wp2_with fail
                  refine ⟨⟨1 + 1, by go_num, by omega, by omega, ?_, HP5.out⟩, by simp [RowKit.intOf] <;> omega⟩
                  intro q hq1 hq2
                  by_cases hqk : q < 1
                  · exact Hno.out q hq1 (by omega)
                  · obtain rfl : q = 1 := by omega
                    exact HH.out
            · have hkn : ((k : Int) == 1) = false := by rw [beq_eq_false_iff_ne]; omega
              have HP4 := Lib.hid (hP2.later (below_alloc (.cells #[.int .u8 k, .int .i64 v0, .int .i64 v1, .int .i64 v2] 32)))
              have HBX := Lib.hid (World.alloc_heap_new wr (.cells #[.int .u8 k, .int .i64 v0, .int .i64 v1, .int .i64 v2] 32))
              have hcd : cand (k : Int) v0 v1 v2 = ⟨k, v0, v1, v2⟩ := if_neg (by omega)
              have HCD := Lib.hid hcd
              clear hP2 hno hcd
              go_wp2_with fail
              refine (line1_any (k : Int) v0 v1 v2 _).mono ?_
              rintro e w3 ⟨rfl, k3⟩
              have hP5 := HP4.out.later k3
              have hbx3 := (k3.block _ (Array.getElem?_eq_some_iff.1 HBX.out).1).trans HBX.out
              obtain ⟨x0, x1, x2, x3, _⟩ := cells4 hbx3
              obtain ⟨y0, y1, y2, y3, yf⟩ := cells4 hP5.res
              have HR := Lib.hid hP5.res
              have hB5 := hP5.below
              have HP5 := Lib.hid hP5
              clear hbx3 k3 hP5
              by_cases hhit : okAct ⟨(k : Int), v0, v1, v2⟩ ∧ actLine ⟨(k : Int), v0, v1, v2⟩ = s.data.toList
              · have f1 : (checkE ⟨(k : Int), v0, v1, v2⟩ == 0) = true := by rw [checkE_ok hhit.1]; rfl
                have f2 : ((mk (lineE ⟨(k : Int), v0, v1, v2⟩)).toList == s.toList) = true := by rw [str_beq, mk_data, show lineE ⟨(k : Int), v0, v1, v2⟩ = s.data.toList from (if_pos hhit.1).trans hhit.2, decide_eq_true rfl]
                have Z := Lib.hid (parse_good ((parseAct_iff s.data.toList _).2 hhit))
                clear hhit
                go_wp2_with fail
                refine bodyPost_ret (results_parse1 rfl rfl (set4 HR.out _ _ _ _)) rfl ⟨by rw [Z.out.1, Z.out.2]; rfl, below4 hB5 (Nat.le_refl _) _ _ _ _⟩
              · have HH := Lib.hid hhit
                have hmiss : ((checkE ⟨(k : Int), v0, v1, v2⟩ == 0) = false) ∨ ((checkE ⟨(k : Int), v0, v1, v2⟩ == 0) = true ∧ ((mk (lineE ⟨(k : Int), v0, v1, v2⟩)).toList == s.toList) = false) := by
                  by_cases hok : okAct ⟨(k : Int), v0, v1, v2⟩
                  · right
                    refine ⟨by rw [checkE_ok hok]; rfl, ?_⟩
                    rw [str_beq, mk_data, show lineE ⟨(k : Int), v0, v1, v2⟩ = actLine ⟨(k : Int), v0, v1, v2⟩ from if_pos hok]
                    exact decide_eq_false (fun h => hhit ⟨hok, h⟩)
                  · left
                    rw [checkE_bad hok]; rfl
                clear hhit
                rcases hmiss with f1 | ⟨f1, f2⟩
                · go_wp2_with fail
                  refine ⟨⟨k + 1, by go_num, by omega, by omega, ?_, HP5.out⟩, by simp [RowKit.intOf] <;> omega⟩
                  intro q hq1 hq2
                  by_cases hqk : q < (k : Int)
                  · exact Hno.out q hq1 (by omega)
                  · obtain rfl : q = (k : Int) := by omega
                    rw [HCD.out]; exact HH.out
                · go_wp2_with fail
                  refine ⟨⟨k + 1, by go_num, by omega, by omega, ?_, HP5.out⟩, by simp [RowKit.intOf] <;> omega⟩
                  intro q hq1 hq2
                  by_cases hqk : q < (k : Int)
                  · exact Hno.out q hq1 (by omega)
                  · obtain rfl : q = (k : Int) := by omega
                    rw [HCD.out]; exact HH.out
          · have hk8' : k = 8 := by omega
            have hge : (8 : Int) ≤ (k : Int) := by omega
            have hpa := parse_none_all (l := s.data.toList) (by rw [hws]; exact hN'.out) (by rw [hws]; exact hj) (fun q h1 h2 => hno q h1 (by omega))
            have Z := Lib.hid (parse_fail hpa)
            obtain ⟨y0, y1, y2, y3, yf⟩ := cells4 hP2.res
            have HR := Lib.hid hP2.res
            have hB5 := hP2.below
            clear hpa hP2 hno hk8'
            go_wp2_with fail
            refine bodyPost_ret (results_parse1 rfl rfl (set4 HR.out _ _ _ _)) rfl ⟨by rw [Z.out.1, Z.out.2]; rfl, below4 hB5 (Nat.le_refl _) _ _ _ _⟩
      · have hj1' : (j : Int) + 1 < (ws.length : Int) := by omega
        have hj2' : (4 : Int) ≤ (j : Int) + 1 := by omega
        clear hj1 hc
        go_wp2_with fail
        go_loopw [9] (fun kv wr2 => ∃ k : Nat, kv = .int .u8 k ∧ 1 ≤ k ∧ k ≤ 8 ∧ (∀ q : Int, 1 ≤ q → q < k → ¬ (okAct (cand q v0 v1 v2) ∧ actLine (cand q v0 v1 v2) = s.data.toList)) ∧ P1 w w1.heap.size A ws v0 v1 v2 wr2) (fun kv _ => 8 - (RowKit.intOf kv).toNat)
        case atStart => exact ⟨1, rfl, by omega, by omega, fun q h1 h2 => absurd h2 (by omega), hP'.out⟩
        case round =>
          obtain ⟨k, rfl, hk1, hk8, hno, hP2⟩ := hrel
          by_cases hk : k < 8
          · have hkI : (k : Int) < 8 := by omega
            obtain ⟨q0, q1, q2, qf⟩ := cells3 hP2.num
            have Hno := Lib.hid hno
            by_cases hk1 : k = 1
            · subst hk1
              obtain ⟨p0, p1, p2, pf⟩ := cells3 (hP2.later (below_alloc (.cells #[.int .u8 1, .int .i64 v0, .int .i64 v1, .int .i64 v2] 32))).num
              have HP4 := Lib.hid (hP2.later (below_alloc (.cells #[.int .u8 1, .int .i64 0, .int .i64 v0, .int .i64 0] 32)))
              have HBX := Lib.hid (World.alloc_heap_new wr (.cells #[.int .u8 1, .int .i64 0, .int .i64 v0, .int .i64 0] 32))
              clear hP2 hno
              go_wp2_with fail
              refine (line1_any 1 0 v0 0 _).mono ?_
              rintro e w3 ⟨rfl, k3⟩
              have hP5 := HP4.out.later k3
              have hbx3 := (k3.block _ (Array.getElem?_eq_some_iff.1 HBX.out).1).trans HBX.out
              obtain ⟨x0, x1, x2, x3, _⟩ := cells4 hbx3
              obtain ⟨y0, y1, y2, y3, yf⟩ := cells4 hP5.res
              have HR := Lib.hid hP5.res
              have hB5 := hP5.below
              have HP5 := Lib.hid hP5
              clear hbx3 k3 hP5
              by_cases hhit : okAct ⟨1, 0, v0, 0⟩ ∧ actLine ⟨1, 0, v0, 0⟩ = s.data.toList
              · have f1 : (checkE ⟨1, 0, v0, 0⟩ == 0) = true := by rw [checkE_ok hhit.1]; rfl
                have f2 : ((mk (lineE ⟨1, 0, v0, 0⟩)).toList == s.toList) = true := by rw [str_beq, mk_data, show lineE ⟨1, 0, v0, 0⟩ = s.data.toList from (if_pos hhit.1).trans hhit.2, decide_eq_true rfl]
                have Z := Lib.hid (parse_good ((parseAct_iff s.data.toList _).2 hhit))
                clear hhit
                go_wp2_with fail
                refine bodyPost_ret (results_parse1 rfl rfl (set4 HR.out _ _ _ _)) rfl ⟨by rw [Z.out.1, Z.out.2]; rfl, below4 hB5 (Nat.le_refl _) _ _ _ _⟩
              · have HH := Lib.hid hhit
                have hmiss : ((checkE ⟨1, 0, v0, 0⟩ == 0) = false) ∨ ((checkE ⟨1, 0, v0, 0⟩ == 0) = true ∧ ((mk (lineE ⟨1, 0, v0, 0⟩)).toList == s.toList) = false) := by
                  by_cases hok : okAct ⟨1, 0, v0, 0⟩
                  · right
                    refine ⟨by rw [checkE_ok hok]; rfl, ?_⟩
                    rw [str_beq, mk_data, show lineE ⟨1, 0, v0, 0⟩ = actLine ⟨1, 0, v0, 0⟩ from if_pos hok]
                    exact decide_eq_false (fun h => hhit ⟨hok, h⟩)
                  · left
                    rw [checkE_bad hok]; rfl
                clear hhit
                rcases hmiss with f1 | ⟨f1, f2⟩
                · go_wp2_with fail
                  refine ⟨⟨1 + 1, by go_num, by omega, by omega, ?_, HP5.out⟩, by simp [RowKit.intOf] <;> omega⟩
                  intro q hq1 hq2
                  by_cases hqk : q < 1
                  · exact Hno.out q hq1 (by omega)
                  · obtain rfl : q = 1 := by omega
                    exact HH.out
                · go_wp2_with fail
                  refine ⟨⟨1 + 1, by go_num, by omega, by omega, ?_, HP5.out⟩, by simp [RowKit.intOf] <;> omega⟩
                  intro q hq1 hq2
                  by_cases hqk : q < 1
                  · exact Hno.out q hq1 (by omega)
                  · obtain rfl : q = 1 := by omega
                    exact HH.out
            · have hkn : ((k : Int) == 1) = false := by rw [beq_eq_false_iff_ne]; omega
              have HP4 := Lib.hid (hP2.later (below_alloc (.cells #[.int .u8 k, .int .i64 v0, .int .i64 v1, .int .i64 v2] 32)))
              have HBX := Lib.hid (World.alloc_heap_new wr (.cells #[.int .u8 k, .int .i64 v0, .int .i64 v1, .int .i64 v2] 32))
              have hcd : cand (k : Int) v0 v1 v2 = ⟨k, v0, v1, v2⟩ := if_neg (by omega)
              have HCD := Lib.hid hcd
              clear hP2 hno hcd
              go_wp2_with fail
              refine (line1_any (k : Int) v0 v1 v2 _).mono ?_
              rintro e w3 ⟨rfl, k3⟩
              have hP5 := HP4.out.later k3
              have hbx3 := (k3.block _ (Array.getElem?_eq_some_iff.1 HBX.out).1).trans HBX.out
              obtain ⟨x0, x1, x2, x3, _⟩ := cells4 hbx3
              obtain ⟨y0, y1, y2, y3, yf⟩ := cells4 hP5.res
              have HR := Lib.hid hP5.res
              have hB5 := hP5.below
              have HP5 := Lib.hid hP5
              clear hbx3 k3 hP5
              by_cases hhit : okAct ⟨(k : Int), v0, v1, v2⟩ ∧ actLine ⟨(k : Int), v0, v1, v2⟩ = s.data.toList
              · have f1 : (checkE ⟨(k : Int), v0, v1, v2⟩ == 0) = true := by rw [checkE_ok hhit.1]; rfl
                have f2 : ((mk (lineE ⟨(k : Int), v0, v1, v2⟩)).toList == s.toList) = true := by rw [str_beq, mk_data, show lineE ⟨(k : Int), v0, v1, v2⟩ = s.data.toList from (if_pos hhit.1).trans hhit.2, decide_eq_true rfl]
                have Z := Lib.hid (parse_good ((parseAct_iff s.data.toList _).2 hhit))
                clear hhit
                go_wp2_with fail
                refine bodyPost_ret (results_parse1 rfl rfl (set4 HR.out _ _ _ _)) rfl ⟨by rw [Z.out.1, Z.out.2]; rfl, below4 hB5 (Nat.le_refl _) _ _ _ _⟩
              · have HH := Lib.hid hhit
                have hmiss : ((checkE ⟨(k : Int), v0, v1, v2⟩ == 0) = false) ∨ ((checkE ⟨(k : Int), v0, v1, v2⟩ == 0) = true ∧ ((mk (lineE ⟨(k : Int), v0, v1, v2⟩)).toList == s.toList) = false) := by
                  by_cases hok : okAct ⟨(k : Int), v0, v1, v2⟩
                  · right
                    refine ⟨by rw [checkE_ok hok]; rfl, ?_⟩
                    rw [str_beq, mk_data, show lineE ⟨(k : Int), v0, v1, v2⟩ = actLine ⟨(k : Int), v0, v1, v2⟩ from if_pos hok]
                    exact decide_eq_false (fun h => hhit ⟨hok, h⟩)
                  · left
                    rw [checkE_bad hok]; rfl
                clear hhit
                rcases hmiss with f1 | ⟨f1, f2⟩
                · go_wp2_with fail
                  refine ⟨⟨k + 1, by go_num, by omega, by omega, ?_, HP5.out⟩, by simp [RowKit.intOf] <;> omega⟩
                  intro q hq1 hq2
                  by_cases hqk : q < (k : Int)
                  · exact Hno.out q hq1 (by omega)
                  · obtain rfl : q = (k : Int) := by omega
                    rw [HCD.out]; exact HH.out
                · go_wp2_with fail
                  refine ⟨⟨k + 1, by go_num, by omega, by omega, ?_, HP5.out⟩, by simp [RowKit.intOf] <;> omega⟩
                  intro q hq1 hq2
                  by_cases hqk : q < (k : Int)
                  · exact Hno.out q hq1 (by omega)
                  · obtain rfl : q = (k : Int) := by omega
                    rw [HCD.out]; exact HH.out
          · have hk8' : k = 8 := by omega
            have hge : (8 : Int) ≤ (k : Int) := by omega
            have hpa := parse_none_all (l := s.data.toList) (by rw [hws]; exact hN'.out) (by rw [hws]; exact hj) (fun q h1 h2 => hno q h1 (by omega))
            have Z := Lib.hid (parse_fail hpa)
            obtain ⟨y0, y1, y2, y3, yf⟩ := cells4 hP2.res
            have HR := Lib.hid hP2.res
            have hB5 := hP2.below
            clear hpa hP2 hno hk8'
            go_wp2_with fail
            refine bodyPost_ret (results_parse1 rfl rfl (set4 HR.out _ _ _ _)) rfl ⟨by rw [Z.out.1, Z.out.2]; rfl, below4 hB5 (Nat.le_refl _) _ _ _ _⟩

end Go.Proofs.YtebgaglofabegaaDoor
