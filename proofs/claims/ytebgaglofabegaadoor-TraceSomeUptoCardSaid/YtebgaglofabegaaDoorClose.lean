/-
  FROM A ROW's CONDITIONS TO THE WALKS: what the listed variables hold; a slice of acts, opened; 'true' is handed back and the arguments read as they did.
-/
import Derived.Test.YtebgaglofabegaaDoorSc9
import Derived.Test.YtebgaglofabegaaDoorCards
import Derived.Test.YtebgaglofabegaaDoorTie
import Derived.WalkKit
import Derived.ProofKit
import Derived.OpenShut
import Derived.MakeChecks
import Derived.Shelf.Vars
import Derived.Deep.DeepHandedRow
import Derived.Deep.DeepWitnessRowRef
import Derived.Deep.Slices
import Derived.Deep.Fields
import Derived.Stop.LaidErr
import Derived.Lib.LaidTab
import Derived.Carry
namespace Go.Proofs.YtebgaglofabegaaDoor
open Go.ChangeShapes Go.WideShapes Go.ChangeAt Go.RowKit Go.Deep

/-- A listed variable, by its place on the list. -/
theorem laid_mem {P : Program} {W : World} {n : String} {d : DataW Unit} : ∀ {laid : List (String × DataW Unit)} {ps : List MemPlace}, DataW.LaidVars P W laid ps → (n, d) ∈ laid →
    ∃ g t cs fuel p, P.globalNamed n = some g ∧ (P.globals[g]?).map (·.type) = some t ∧ W.var? P n = some cs ∧ DataW.trod (fun _ => ()) P W 0 (fun _ => true) false fuel t cs.toList = some (d, p)
  | [], _, _, hm => by cases hm
  | (n', d') :: r, ps, h, hm => by
    obtain ⟨g, t, cs, fuel, p, q, hg, ht, hv, hd, hr, _⟩ := h
    rcases List.mem_cons.1 hm with e | hm
    · cases e; exact ⟨g, t, cs, fuel, p, hg, ht, hv, hd⟩
    · exact laid_mem hr hm

theorem laid_lt {P : Program} {W : World} {n : String} {g : Nat} {cs : Array Value} (hg : P.globalNamed n = some g) (h : W.var? P n = some cs) : g < W.heap.size := by
  simp only [World.var?, hg, Option.bind_some] at h
  rcases Nat.lt_or_ge g W.heap.size with h' | h'
  · exact h'
  · simp [Array.getElem?_eq_none h'] at h

/-- A sentinel's cell holds an interface value. -/
theorem laid_iface {W : World} {laid : List (String × DataW Unit)} {n nm : String} {d : DataW Unit} {g ti : Nat} {ms : Array (String × TypeId)} (h : laidMet Tryd.prog laid W) (hm : (n, .iface nm d) ∈ laid)
    (hg : Tryd.prog.globalNamed n = some g) (ht : (Tryd.prog.globals[g]?).map (·.type) = some ti) (hi : Tryd.prog.underlying ti = some (.interface ms)) : ∃ te pe, W.cell? ⟨g, 0, none⟩ = some (.iface te pe) := by
  obtain ⟨ps, hv, _⟩ := h
  obtain ⟨g', t', cs, fuel, p, hg', ht', hvar, hd⟩ := laid_mem hv hm
  obtain rfl := Option.some.inj (hg.symm.trans hg')
  obtain rfl := Option.some.inj (ht.symm.trans ht')
  obtain ⟨f', u, v, hcs, _⟩ := iface_of_trod hi hd
  refine ⟨u, v, ?_⟩
  rw [World.var?_cell hg hvar 0, ← Array.getElem?_toList, hcs]; rfl

/-- An array of strings that reads as a list holds it, cell for cell. -/
theorem cells_of_words {H : Type} {enc : TypeId × Value → H} {P : Program} {w : World} {base : Nat} {sp : Nat → Bool} {held : Bool} {fuel : Nat} {t e : TypeId} {n : Nat} {cs : List Value} {ws : List Bs} {p : List MemPlace}
    (ht : P.underlying t = some (.array n e)) (he : P.underlying e = some .string) (hce : P.cellsOf e = 1) (hct : P.cellsOf t = n)
    (h : DataW.trod enc P w base sp held fuel t cs = some (.agg (ws.map fun l => .lit (.string l)), p)) (i : Nat) (l : Bs) (hi : ws[i]? = some l) : cs[i]? = some (.string (mk l)) := by
  cases fuel with
  | zero => simp [DataW.trod] at h
  | succ fuel =>
    simp only [DataW.trod, ht, hce, hct, Nat.mul_one] at h
    split at h
    · rename_i hl
      obtain ⟨xs, hm, hx⟩ := Option.map_eq_some_iff.1 h
      have hxs : xs.map (·.1) = ws.map fun l => (DataW.lit (.string l) : DataW H) := by
        have := congrArg Prod.fst hx
        simpa using this
      have h2 : (xs.map (·.1))[i]? = some (DataW.lit (.string l) : DataW H) := by rw [hxs]; simp [hi]
      obtain ⟨⟨b1, b2⟩, hb, hb1⟩ : ∃ b, xs[i]? = some b ∧ b.1 = DataW.lit (.string l) := by
        simp only [List.getElem?_map, Option.map_eq_some_iff] at h2
        exact h2
      have hlt : i < xs.length := (List.getElem?_eq_some_iff.1 hb).1
      have hxl : xs.length = n := by simpa using Lib.mapM_length hm
      obtain ⟨b', hb', hf⟩ := Lib.mapM_at hm i i (List.getElem?_range (by omega))
      rw [hb] at hb'
      cases hb'
      obtain ⟨s, hc, hs, _⟩ := DataW.trod_string he hf
      have h1 : cs[i]? = some (.string s) := by
        have := congrArg (·[0]?) hc
        simpa [List.getElem?_take, List.getElem?_drop] using this
      simp only [Prod.mk.injEq] at hs
      rw [h1]
      rw [hs.1] at hb1
      simp only [DataW.lit.injEq, Lit.string.injEq] at hb1
      rw [← hb1, mk_of]
    · cases h

theorem laid_words {W : World} {laid : List (String × DataW Unit)} {n : String} {ws : List Bs} {g t m : Nat} (h : laidMet Tryd.prog laid W) (hm : (n, .agg (ws.map fun l => .lit (.string l))) ∈ laid)
    (hg : Tryd.prog.globalNamed n = some g) (ht : (Tryd.prog.globals[g]?).map (·.type) = some t) (hu : Tryd.prog.underlying t = some (.array m 9)) (hct : Tryd.prog.cellsOf t = m) (i : Nat) (l : Bs) (hi : ws[i]? = some l) :
    W.cell? ⟨g, i, none⟩ = some (.string (mk l)) := by
  obtain ⟨ps, hv, _⟩ := h
  obtain ⟨g', t', cs, fuel, p, hg', ht', hvar, hd⟩ := laid_mem hv hm
  obtain rfl := Option.some.inj (hg.symm.trans hg')
  obtain rfl := Option.some.inj (ht.symm.trans ht')
  rw [World.var?_cell hg hvar i, ← Array.getElem?_toList]
  exact cells_of_words hu Tryd.underlying9 (by kernel_rfl) hct hd i l hi

theorem maxlen_shaped {W : World} (h : W.ShapedOpen Tryd.prog) : ∃ m : Int, W.cell? ⟨2, 0, none⟩ = some (.int .i64 m) :=
  cell_of_shapedOpen_int (t := 3) (zero := #[.int .i64 0]) h (of_decide_eq_true (by kernel_rfl)) (by kernel_rfl) rfl (by kernel_rfl) (by kernel_rfl) Tryd.underlying3

theorem gRng : Tryd.prog.globalNamed "strconv.ErrRange" = some 4 := by kernel_rfl
theorem gSyn : Tryd.prog.globalNamed "strconv.ErrSyntax" = some 3 := by kernel_rfl
theorem gWords : Tryd.prog.globalNamed "verge/script.words" = some 0 := by kernel_rfl
theorem gTWords : Tryd.prog.globalNamed "verge/trace.words" = some 1 := by kernel_rfl
theorem gBru : Tryd.prog.globalNamed "math/bits.deBruijn64tab" = some 9 := by kernel_rfl

/-- WHAT THE ROW's LIST GIVES. -/
theorem env_of_laid {W : World} {laid : List (String × DataW Unit)} (h : laidMetH Tryd.prog laid W) (hpl : (laid.all fun x => x.2.handleName?.isNone) = true) (hsh : W.ShapedOpen Tryd.prog)
    (m0 : ("math/bits.deBruijn64tab", Rows.laid_math_bits_deBruijn64tab) ∈ laid) (m1 : ("strconv.ErrRange", Rows.laid_strconv_ErrRange) ∈ laid) (m2 : ("strconv.ErrSyntax", Rows.laid_strconv_ErrSyntax) ∈ laid)
    (m3 : ("internal/strconv.uint64pow10", Rows.laid_internal_strconv_uint64pow10) ∈ laid) : Env W := by
  rw [MakeChecks.laidMetH_plain _ _ _ hpl] at h
  refine ⟨?_, maxlen_shaped hsh, ?_, ?_, ?_⟩
  · obtain ⟨ps, hv, _⟩ := h
    obtain ⟨g, t, cs, fuel, p, hg, _, hvar, _⟩ := laid_mem hv m0
    obtain rfl := Option.some.inj (gBru.symm.trans hg)
    exact laid_lt gBru hvar
  · exact laid_iface h m2 gSyn (by kernel_rfl) Tryd.underlying124
  · exact laid_iface h m1 gRng (by kernel_rfl) Tryd.underlying124
  · obtain ⟨ps, hv, _⟩ := h
    obtain ⟨g, t, cs, fuel, p, hg, ht, hvar, hd⟩ := laid_mem hv m3
    obtain rfl := Option.some.inj (gPow.symm.trans hg)
    obtain rfl := Option.some.inj ((show (Tryd.prog.globals[5]?).map (·.type) = some 173 by kernel_rfl).symm.trans ht)
    have e := Lib.cells_of_tab (k := .u64) (zs := Lib.pow10Tab) (t := 173) (e := 144) (n := 20) Tryd.underlying173 Tryd.underlying144 (by kernel_rfl) (by kernel_rfl) hd
    unfold Lib.TabIs
    rw [hvar, ← e]

theorem actWords_of_laid {W : World} {laid : List (String × DataW Unit)} (h : laidMetH Tryd.prog laid W) (hpl : (laid.all fun x => x.2.handleName?.isNone) = true) (m : ("verge/script.words", Rows.laid_verge_script_words) ∈ laid) : ActWords W := by
  rw [MakeChecks.laidMetH_plain _ _ _ hpl] at h
  intro k h0 h1
  have hw := fun i l hi => laid_words (n := "verge/script.words") (ws := [[], actWord 1, actWord 2, actWord 3, actWord 4, actWord 5, actWord 6, actWord 7]) h m gWords (by kernel_rfl) Tryd.underlying120 (by kernel_rfl) i l hi
  have h : k = 0 ∨ k = 1 ∨ k = 2 ∨ k = 3 ∨ k = 4 ∨ k = 5 ∨ k = 6 ∨ k = 7 := by omega
  rcases h with rfl | rfl | rfl | rfl | rfl | rfl | rfl | rfl <;> exact hw _ _ rfl

theorem list_of {α : Type} : ∀ (len : Nat) (P : Nat → α → Prop), (∀ i, i < len → ∃ x, P i x) → ∃ l : List α, l.length = len ∧ ∀ i x, l[i]? = some x → P i x
  | 0, _, _ => ⟨[], rfl, fun i x h => by simp at h⟩
  | n + 1, P, h => by
    obtain ⟨l, hl, hp⟩ := list_of n P (fun i hi => h i (by omega))
    obtain ⟨x, hx⟩ := h n (by omega)
    refine ⟨l ++ [x], by simp [hl], fun i y hy => ?_⟩
    by_cases hi : i < l.length
    · rw [List.getElem?_append_left hi] at hy; exact hp i y hy
    · have hlt : i < (l ++ [x]).length := (List.getElem?_eq_some_iff.1 hy).1
      have hin : i = n := by simp [hl] at hlt; omega
      subst hin
      rw [← hl] at hy
      simp at hy
      rw [← hy]; exact hx

set_option maxRecDepth 100000 in
/-- A slice of acts, opened. -/
theorem open_acts {H : Type} {enc : TypeId × Value → H} {W : World} {base : Nat} {sp : Nat → Bool} {held : Bool} {r : Reach} {b0 : Nat} {v : Value} {d : DataW H} {p : List MemPlace}
    (hv : Value.okWide Tryd.prog W r b0 40 v) (h : DataW.Trod enc Tryd.prog W base sp held 40 v d p) :
    ∃ (A : Option Addr) (l : List ActV) (c : Nat), v = .slice A l.length c ∧ At W A (actRows l) ∧ (∀ a ∈ l, 0 ≤ a.kind) ∧ l.length ≤ maxLen := by
  obtain ⟨a0, len, cap, rfl⟩ := okWide_slice Tryd.underlying40 hv
  obtain ⟨fuel, hf⟩ := h
  rcases open_slice Tryd.underlying40 hf with ⟨hcs, hx⟩ | ⟨a, len', cap', m, n, D, Pl, hcs, _, hl, hm, hmm, hx, hel⟩
  · simp [Value.cells] at hcs
    obtain ⟨rfl, rfl, rfl⟩ := hcs
    exact ⟨none, [], 0, rfl, At.nil _ _, (fun a ha => by cases ha), Nat.zero_le _⟩
  · simp [Value.cells] at hcs
    obtain ⟨rfl, rfl, rfl⟩ := hcs
    have hlm : len ≤ m := by rw [hmm]; split <;> omega
    have hC : Tryd.prog.cellsOf 32 = 4 := by kernel_rfl
    have key : ∀ i, i < len → ∃ x : ActV, 0 ≤ x.kind ∧ W.cell? (a.add (i * 4)) = some (.int .u8 x.kind) ∧ W.cell? (a.add (i * 4 + 1)) = some (.int .i64 x.who) ∧ W.cell? (a.add (i * 4 + 2)) = some (.int .i64 x.n) ∧ W.cell? (a.add (i * 4 + 3)) = some (.int .i64 x.m) := by
      intro i hi
      obtain ⟨cs', hc, ht⟩ := hel i (by omega)
      rw [hC] at hc
      obtain ⟨ys, n', _, hy, hlen4, hyl, hfi⟩ := DataW.trod_struct Tryd.underlying32 ht
      obtain ⟨_, hcl, hat⟩ := World.cells?_some hc
      obtain ⟨c0, c1, c2, c3, rfl⟩ : ∃ c0 c1 c2 c3, cs' = [c0, c1, c2, c3] := by
        match cs', hcl with
        | [c0, c1, c2, c3], _ => exact ⟨c0, c1, c2, c3, rfl⟩
      have f0 := hfi 0 _ rfl
      have f1 := hfi 1 _ rfl
      have f2 := hfi 2 _ rfl
      have f3 := hfi 3 _ rfl
      have hy4 : ys.length = 4 := hyl
      obtain ⟨y0, y1, y2, y3, rfl⟩ : ∃ y0 y1 y2 y3, ys = [y0, y1, y2, y3] := by
        match ys, hy4 with
        | [y0, y1, y2, y3], _ => exact ⟨y0, y1, y2, y3, rfl⟩
      obtain ⟨z0, e0, _, w0⟩ := DataW.trod_int Tryd.underlying30 (show _ = some y0 from f0)
      obtain ⟨z1, e1, _, w1⟩ := DataW.trod_int Tryd.underlying3 (show _ = some y1 from f1)
      obtain ⟨z2, e2, _, w2⟩ := DataW.trod_int Tryd.underlying2 (show _ = some y2 from f2)
      obtain ⟨z3, e3, _, w3⟩ := DataW.trod_int Tryd.underlying2 (show _ = some y3 from f3)
      have k1 : Tryd.prog.cellsOf 30 = 1 := by kernel_rfl
      have k2 : Tryd.prog.cellsOf 3 = 1 := by kernel_rfl
      have k3 : Tryd.prog.cellsOf 2 = 1 := by kernel_rfl
      replace e0 : List.take (Tryd.prog.cellsOf 30) [c0, c1, c2, c3] = _ := e0
      replace e1 : List.take (Tryd.prog.cellsOf 3) [c1, c2, c3] = _ := e1
      replace e2 : List.take (Tryd.prog.cellsOf 2) [c2, c3] = _ := e2
      replace e3 : List.take (Tryd.prog.cellsOf 2) [c3] = _ := e3
      rw [k1] at e0
      rw [k2] at e1
      rw [k3] at e2 e3
      simp only [List.take_succ_cons, List.take_zero, List.cons.injEq, and_true] at e0 e1 e2 e3
      subst e0 e1 e2 e3
      have a0 := hat 0 (by omega)
      have a1 := hat 1 (by omega)
      have a2 := hat 2 (by omega)
      have a3 := hat 3 (by omega)
      rw [Go.Deep.add_add] at a0 a1 a2 a3
      exact ⟨⟨z0, z1, z2, z3⟩, (bounds_u8 w0).1, a0, a1, a2, a3⟩
    obtain ⟨l, hll, hlp⟩ := list_of len _ key
    subst hll
    refine ⟨some a, l, cap, rfl, fun hne => ?_, fun x hx => ?_, by omega⟩
    · have hpos : 0 < l.length := by
        rcases l with _ | ⟨x, r⟩
        · exact absurd rfl hne
        · simp
      obtain ⟨b, off, spot⟩ := a
      obtain ⟨_, g0, _⟩ := hlp 0 l[0] (List.getElem?_eq_getElem hpos)
      have hlt : b < W.heap.size := by
        rcases Nat.lt_or_ge b W.heap.size with h' | h'
        · exact h'
        · rw [show (⟨b, off, spot⟩ : Addr).add (0 * 4) = ⟨b, off, spot⟩ from rfl] at g0
          simp [World.cell?, Array.getElem?_eq_none h'] at g0
      have hspot : spot = none := World.cell?_spot (show W.cell? ⟨b, off, spot⟩ = some _ from g0)
      subst hspot
      refine ⟨b, off, rfl, hlt, fun j u hu => ?_⟩
      have hj : j < l.length * 4 := by rw [← actRows_length]; exact (List.getElem?_eq_some_iff.1 hu).1
      have hji : j / 4 < l.length := by omega
      obtain ⟨_, q0, q1, q2, q3⟩ := hlp (j / 4) l[j / 4] (List.getElem?_eq_getElem hji)
      rw [Addr.add_lit] at q0 q1 q2 q3
      have hd : j = j / 4 * 4 + j % 4 := by omega
      have hget := actRows_get l (j / 4) (j % 4) (by omega)
      rw [← hd, hu, List.getElem?_eq_getElem hji] at hget
      generalize l[j / 4] = x at *
      have h4 : j % 4 = 0 ∨ j % 4 = 1 ∨ j % 4 = 2 ∨ j % 4 = 3 := by omega
      rcases h4 with h4 | h4 | h4 | h4 <;> rw [h4] at hget <;> simp [actCells] at hget <;> rw [hget]
      · rw [show off + j = off + j / 4 * 4 by omega]; exact q0
      · rw [show off + j = off + (j / 4 * 4 + 1) by omega]; exact q1
      · rw [show off + j = off + (j / 4 * 4 + 2) by omega]; exact q2
      · rw [show off + j = off + (j / 4 * 4 + 3) by omega]; exact q3
    · obtain ⟨i, hi, rfl⟩ := List.mem_iff_getElem.1 hx
      exact (hlp i l[i] (List.getElem?_eq_getElem hi)).1

theorem laidOut : laidOutB Tryd.prog = true := by kernel_rfl

/-- Arguments read behind the call as they read before. -/
theorem all_stay {H : Type} {enc : TypeId × Value → H} {W W' : World} {sp' : Nat → Bool} : ∀ {ts : List TypeId} {vs : List Value} {ds : List (DataW H)} {ps : List MemPlace},
    DataW.TrodAll enc Tryd.prog W 0 (fun _ => true) true ts vs ds ps → (∀ t ∈ ts, Tryd.prog.readableRec t = true ∧ t < Tryd.prog.types.size) → (∀ p ∈ ps, W.sameAt W' p) → (∀ p ∈ ps, sp' p.block = true) → DataW.TrodAll enc Tryd.prog W' 0 sp' true ts vs ds ps
  | [], vs, ds, ps, h, _, _, _ => by
    obtain ⟨rfl, rfl, rfl⟩ := trodAll_nil h
    exact trodAll_mk0
  | t :: ts, vs, ds, ps, h, hr, hs, hp => by
    obtain ⟨v, vs1, d, ds1, a, b, rfl, rfl, rfl, h1, h2⟩ := trodAll_cons h
    exact ⟨a, b, WideElems.Trod_stays laidOut (hr t (by simp)).1 (hr t (by simp)).2 h1 (fun x hx => hs x (List.mem_append_left _ hx)) (fun x hx => hp x (List.mem_append_left _ hx)),
      all_stay h2 (fun x hx => hr x (List.mem_cons_of_mem _ hx)) (fun x hx => hs x (List.mem_append_right _ hx)) (fun x hx => hp x (List.mem_append_right _ hx)), rfl⟩

/-- 'True; the input reads as it did.' -/
theorem post_true {H : Type} {enc : TypeId × Value → H} {f : Func} {s : ChangeSpec} {W W' : World} {args : Array Value} {ds gs : List (DataW H)} {before : List MemPlace}
    (hW : DataW.Whole enc Tryd.prog f.params.toList s.vars false W args.toList ds gs before) (hv : s.vars = []) (hs : s.fn H (ds ++ gs) = { results := [.lit (.bool true)], args := ds }) (hr : f.resultTypes = #[4])
    (hp : ∀ t ∈ f.params.toList, Tryd.prog.readableRec t = true ∧ t < Tryd.prog.types.size) (hb : Below W.heap.size W W') : s.post enc Tryd.prog f false true false false W args (.bool true) W' := by
  have hlt : ∀ p ∈ before, p.block < W.heap.size := fun p hp => by simpa using hW.lt p hp
  have hW0 := hW
  obtain ⟨p, q, hA, hV, hpq, hfz, hnd⟩ := hW
  rw [hv] at hV
  obtain ⟨rfl, rfl⟩ := trodVars_none hV
  rw [List.append_nil] at hpq
  subst hpq
  refine ⟨ds, [], before, [], before, [], hW0, ?_, ?_, ?_, hb.frame _, fun h => by cases h⟩
  · rw [hs, hr]
    exact trodAll_cons_mk (shut_bool Tryd.underlying4 _) trodAll_mk0
  · rw [hs]
    exact all_stay hA hp (fun x hx => hb.same (hlt x hx)) (fun x hx => by simpa using hlt x hx)
  · rw [hv, hs]; exact rfl

end Go.Proofs.YtebgaglofabegaaDoor
