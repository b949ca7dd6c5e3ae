/-
  The reader of a text by lines, an iterator: its contract; it serves script and config alike.
-/
import Derived.Test.YtebgaglofabegaaDoorMem
import Derived.RangeFuncNested
import Derived.RangeFuncBound
import Derived.RangeFuncCalls
import Derived.RangeFuncLeaves
import Derived.RangeFuncBox
import Derived.Shelf.Abstract
import Derived.Shelf.RegionOpen
import Derived.OwnWalkIn
import Derived.TacticsInMore
import Derived.LoopNIn
import Derived.LoopIn
namespace Go.Proofs.YtebgaglofabegaaDoor
open Go.RowKit Go.Lib Go.Shelf

attribute [local go_sem] Oper.semAt_some

/-- A piece that a text of at most 4194304 bytes has. -/
abbrev Pc := { x : Bs × Bool // x.1.length ≤ 4194304 }
/-- Pieces, plain. -/
abbrev plainP (l : List Pc) : List (Bs × Bool) := l.map Subtype.val
def encP (x : Pc) : Array Value := #[.string (mk x.1.1), .bool x.1.2]

/-- strings.Cut(s, "\n"). -/
theorem cut_any (s : ByteArray) (w : World) (hs : s.size ≤ 4194304) (hE : Env w) :
    Calls Tryd.prog 70 #[.string s, .string (mk [10])] w fun e w' => e = .returned (.tuple #[.string (mk (cutL 10 s.data.toList).1), .string (mk (cutL 10 s.data.toList).2.1), .bool (cutL 10 s.data.toList).2.2]) ∧ ∃ n, w' = w.drewN n := by
  obtain ⟨mx, hmx⟩ := hE.maxlen
  refine (Tryd.strings_Cut s (mk [10]) mx w (by omega) hmx).mono ?_
  rintro e w' ⟨rfl, hw⟩
  rw [mk_data, cut_cutL]
  exact ⟨rfl, hw⟩

theorem cutL_len (l : Bs) : (cutL 10 l).1.length ≤ l.length ∧ (cutL 10 l).2.1.length ≤ l.length := by
  induction l with
  | nil => exact ⟨Nat.le_refl _, Nat.le_refl _⟩
  | cons x r ih => unfold cutL; split <;> simp only [List.length_cons, List.length_nil] <;> omega

theorem Env.drewN {w : World} (h : Env w) (n : Nat) : Env (w.drewN n) := ⟨h.low, h.maxlen, h.syn, h.rng, h.pow⟩

set_option maxRecDepth 100000 in
set_option maxHeartbeats 1000000 in
theorem each_in (n : Nat) (hn : 2 ≤ n) (l Bn : Nat) (text : Bs) (htl : text.length ≤ 4194304) (J Jx : List Pc → World → Prop)
    (hJd : ∀ pre W k, J pre W → J pre (World.drewN W k))
    (hY : ∀ pre x W, J pre W → pre.length < (pieces text).length → YieldAt Fence.wide (n - 1) Tryd.prog l (encP x) W fun e W' =>
      (e = .returned (.bool true) ∧ J (pre ++ [x]) W' ∧ Below 10 W W') ∨ (e = .returned (.bool false) ∧ Jx (pre ++ [x]) W'))
    (W : World) (hE : Env W) (hBn : W.cell? ⟨Bn, 0, none⟩ = some (.string (mk text))) (h0 : J [] W) :
    CallsIn Fence.wide n Tryd.prog 76 #[.func (.yield l) #[] #[], .pointer (some ⟨Bn, 0, none⟩)] W fun e W' => (∃ v, e = .returned v) ∧
      ((∃ ys, plainP ys = pieces text ∧ J ys W') ∨ (∃ pre, plainP pre <+: pieces text ∧ Jx pre W')) := by
  refine callsIn_of_wp Tryd.func76 rfl trivial ?_ rfl
  simp only [Tryd.ntmps76, List.size_toArray, List.length_cons, List.length_nil, Nat.reduceAdd, Nat.reduceSub, Array.replicate_succ, Array.replicate_zero, List.push_toArray, List.append_toArray, List.nil_append, List.cons_append]
  gi_wp2
  gi_loopw [3] (fun p wr => ∃ (pre : List Pc) (rest : Bs), p = .string (mk rest) ∧ pieces text = plainP pre ++ pieces rest ∧ rest.length ≤ 4194304 ∧ Env wr ∧ J pre wr)
    (fun p _ => match p with | .string s => s.size | _ => 0)
  case atStart => exact ⟨[], text, rfl, rfl, htl, hE, h0⟩
  case round =>
    obtain ⟨pre, rest, rfl, hx, hrl, hEr, hJs⟩ := hrel
    by_cases hre : rest = []
    · subst hre
      have hemp : (mk []).toList.isEmpty = true := by rw [Lib.toList_data]; rfl
      gi_wp2_with fail
      go_end0
      refine ⟨⟨_, rfl⟩, .inl ⟨pre, ?_, hJs⟩⟩
      rw [hx, pieces_nil, List.append_nil]
    · have hne : (mk rest).toList.isEmpty = false := by
        rw [Lib.toList_data]
        cases rest with
        | nil => exact absurd rfl hre
        | cons => rfl
      have hpc := pieces_cut rest hre
      obtain ⟨hc1, hc2⟩ := cutL_len rest
      have hcut := cut_any (mk rest) wr (by simpa [mk, ByteArray.size] using hrl) hEr
      rw [mk_data] at hcut
      generalize hz1 : (cutL 10 rest).1 = z1 at hcut hpc hc1
      generalize hz2 : (cutL 10 rest).2.1 = z2 at hcut hpc hc2
      generalize hz3 : (cutL 10 rest).2.2 = z3 at hcut hpc
      gi_wp2_with (refine ⟨trivial, fun _ => by omega, ?_⟩; refine CallsIn.mono (callsIn_wide.2 hcut) ?_; rintro e w' ⟨rfl, k, rfl⟩)
      obtain ⟨fn, tmps, assign, body, hy, hR⟩ := hY pre ⟨(z1, z3), Nat.le_trans hc1 hrl⟩ (wr.drewN k) (hJd _ _ _ hJs) (by rw [hx, hpc]; simp)
      simp only [encP] at hy
      gi_wp2
      rw [hy]
      gi_wp2
      refine ⟨fun _ => by omega, RoundIn.mono hR ?_⟩
      rintro e W3 (⟨rfl, hJ3, hk3⟩ | ⟨rfl, hJx3⟩)
      · have hE3 : Env W3 := (hEr.drewN k).below hk3 (Nat.le_refl _)
        gi_wp2
        go_roundw
        case rel => exact ⟨pre ++ [⟨(z1, z3), Nat.le_trans hc1 hrl⟩], z2, rfl, by simp [hx, hpc, plainP], by omega, hE3, hJ3⟩
        case measure =>
          have : z2.length < rest.length := by rw [← hz2]; exact cutL_length 10 rest hre
          simpa [mk, ByteArray.size] using this
      · gi_wp2
        refine bodyPost_ret (results_none rfl _ _ _) rfl ?_
        exact ⟨⟨_, rfl⟩, .inr ⟨pre ++ [⟨(z1, z3), Nat.le_trans hc1 hrl⟩], ⟨pieces z2, by simp [hx, hpc, plainP]⟩, hJx3⟩⟩

set_option maxHeartbeats 1000000 in
/-- each: the text is boxed. -/
theorem each_val (n : Nat) (s : ByteArray) (w : World) :
    CallsIn Fence.wide n Tryd.prog 53 #[.string s] w fun e w' => e = .returned (.func (.func 76) #[] #[.pointer (some ⟨w.heap.size, 0, none⟩)]) ∧ w' = w.alloc (.cells #[.string s] 9) := by
  refine callsIn_of_wp Tryd.func53 rfl trivial ?_ rfl
  simp only [Tryd.ntmps53, List.size_toArray, List.length_cons, List.length_nil, Nat.reduceAdd, Nat.reduceSub, Array.replicate_succ, Array.replicate_zero, List.push_toArray, List.append_toArray, List.nil_append, List.cons_append]
  gi_wp2
  go_ret
  exact ⟨rfl, rfl⟩

theorem each_stops (n : Nat) (hn : 2 ≤ n) (Bn : Nat) (text : Bs) (htl : text.length ≤ 4194304) (w : World) (hBl : Bn < w.heap.size) (hE : Env w) (hc : w.cell? ⟨Bn, 0, none⟩ = some (.string (mk text))) :
    SeqStopsK Fence.wide n Tryd.prog 76 #[.pointer (some ⟨Bn, 0, none⟩)] encP (Below 10) (fun ys => plainP ys = pieces text) (fun pre => plainP pre <+: pieces text) (pieces text).length w := by
  intro l J Jx W hW h1 h2 hY h0
  exact each_in n hn l Bn text htl J Jx (fun pre W' k h => h1 _ _ _ none h ⟨rfl, rfl, rfl, Nat.le_refl _, fun _ _ _ => rfl⟩ (fun r e => by cases e)) hY W (hE.below (hW.mono hE.low) (Nat.le_refl _)) ((hW.cell (p := ⟨Bn, 0, none⟩) hBl).trans hc) h0

end Go.Proofs.YtebgaglofabegaaDoor
