/-
graph's next: the nodes that edges lead to from a node, yielded one by one: the iterator's contract.
-/
import Derived.Test.YtbldlmolbdkabaaCcC
import Derived.RangeFuncNested
import Derived.RangeFuncBound
import Derived.RangeFuncCalls
import Derived.RangeFuncLeaves
import Derived.Shelf.Abstract
import Derived.Shelf.RegionOpen
import Derived.OwnWalkIn
import Derived.TacticsInMore
import Derived.LoopNIn
import Derived.LoopIn
import Derived.Sort.QuietIn
set_option linter.unusedVariables false
set_option linter.unusedSimpArgs false
namespace Go.Proofs.Ytbldlmolbdkabaa.HP
open Go.RowKit Go.Proofs.YtbldlmolbdkabaaW.PrintWords Go.Proofs.YtbldlmolbdkabaaW.PrintLast Go.Proofs.YtbldlmolbdkabaaW.PrintMore
theorem wide_fn (f : FuncId) : Fence.wide.fn f = True := rfl
theorem wide_depth : Fence.wide.depth = none := rfl
attribute [local go_sem] Oper.semAt_some wide_fn wide_depth
def toN (es : List EdgeP) (i : Nat) : Nat := (es.getD i noEdge).2.toNat
/-- Where edges lead from a node. -/
def outL (es : List EdgeP) (v : Nat) : List Nat := (pick (fromB es v) es.length).map (fun i => toN es i.toNat)
abbrev OutT (es : List EdgeP) (v : Nat) := {x : Nat // x ∈ outL es v}
def outA (es : List EdgeP) (v : Nat) : List (OutT es v) := (outL es v).attach
theorem outA_len (es : List EdgeP) (v : Nat) : (outA es v).length = (outL es v).length := by unfold outA; simp
theorem outA_succ (es : List EdgeP) (v k : Nat) (h : k < (outL es v).length) : (outA es v).take (k + 1) = (outA es v).take k ++ [⟨(outL es v)[k], List.getElem_mem h⟩] := by
  rw [List.take_succ_eq_append_getElem (by rw [outA_len]; exact h)]
  congr 1
  simp [outA]
theorem outA_all (es : List EdgeP) (v k : Nat) (h : k = (outL es v).length) : (outA es v).take k = outA es v := List.take_of_length_le (by rw [outA_len, h]; exact Nat.le_refl _)
theorem outL_len (es : List EdgeP) (v : Nat) : (outL es v).length = (pick (fromB es v) es.length).length := by unfold outL; simp
theorem out_at {es : List EdgeP} {v k : Nat} (h : k < (pick (fromB es v) es.length).length) : ∃ (i : Nat) (p : EdgeP), (pick (fromB es v) es.length).getD k 0 = (i : Int) ∧ i < es.length ∧ es[i]? = some p ∧ p.1 = (v : Int) ∧ (outL es v)[k]'(by rw [outL_len]; exact h) = p.2.toNat := by
  have hm : (pick (fromB es v) es.length)[k] ∈ pick (fromB es v) es.length := List.getElem_mem h
  obtain ⟨i, hi, hlt, hq⟩ := mem_pick hm
  have he : es[i]? = some es[i] := List.getElem?_eq_getElem hlt
  have hd : es.getD i noEdge = es[i] := by rw [List.getD_eq_getElem?_getD, he]; rfl
  refine ⟨i, es[i], ?_, hlt, he, ?_, ?_⟩
  · rw [List.getD_eq_getElem?_getD, List.getElem?_eq_getElem h]; exact hi
  · have := of_decide_eq_true hq
    rw [hd] at this
    exact this
  · simp only [outL, List.getElem_map, toN, hi, Int.toNat_natCast, hd]
set_option maxHeartbeats 1000000 in
/-- next: both are boxed; the function value captures the boxes. -/
theorem next_in (F : Fence) (n : Nat) (hf : F.fn 32) (hro : F.round = none) (g : Option Addr) (v : Int) (w : World) :
    CallsIn F n Try.prog 32 #[.pointer g, .int .i64 v] w fun e w' => e = .returned (.func (.func 43) #[] #[.pointer (some ⟨w.heap.size, 0, none⟩), .pointer (some ⟨w.heap.size + 1, 0, none⟩)]) ∧
      w' = (w.alloc (.cells #[.pointer g] 33)).alloc (.cells #[.int .i64 v] 3) := by
  refine callsIn_of_wp Try.func32 rfl hf ?_ hro
  simp only [Try.ntmps32, List.size_toArray, List.length_cons, List.length_nil, Nat.reduceAdd, Nat.reduceSub, Array.replicate_succ, Array.replicate_zero, List.push_toArray, List.append_toArray, List.nil_append, List.cons_append]
  have hmf : ∀ (fn : Fn) (first cap : Array Value) (w : World), (Instr.makeFunc fn first cap).run Try.prog w = .ok (.func fn first cap) w := fun _ _ _ _ => rfl
  gi_wp2
  go_ret
  exact ⟨rfl, rfl⟩
/-- What a round that goes on keeps: all that lay when the call began, and the two boxes. -/
def KpC (n₀ b1 b2 : Nat) (W W' : World) : Prop := Below n₀ W W' ∧ W'.heap[b1]? = W.heap[b1]? ∧ W'.heap[b2]? = W.heap[b2]?
theorem kpc_t {n₀ b1 b2 : Nat} {A B C : World} (h : KpC n₀ b1 b2 A B) (k : KpC n₀ b1 b2 B C) : KpC n₀ b1 b2 A C :=
  ⟨h.1.trans k.1, k.2.1.trans h.2.1, k.2.2.trans h.2.2⟩
theorem heap_putObj (W : World) (l : Nat) (o : Obj) {b : Nat} (hb : b ≠ l) : (W.putObj l o).heap[b]? = W.heap[b]? := by
  simp [World.putObj, Array.getElem?_setIfInBounds, Ne.symm hb]
theorem kpc_b {n₀ b1 b2 : Nat} {w : World} (hn : n₀ ≤ w.heap.size) (h1 : b1 < w.heap.size) (h2 : b2 < w.heap.size) (W : World) (l : Nat) (o o' : Obj) (hl : w.heap.size ≤ l) (h : W.heap[l]? = some o) (hc : o.isCells = false) (hw : o.isWalk = false) : KpC n₀ b1 b2 W (W.putObj l o') :=
  ⟨belowK_b (w := w) hn W l o o' hl h hc hw, heap_putObj W l o' (by omega), heap_putObj W l o' (by omega)⟩
theorem grown_drewNc (w : World) (n : Nat) (row : Option Nat) : w.grownBy (w.drewN n) row := ⟨rfl, rfl, rfl, Nat.le_refl _, fun _ _ _ => rfl⟩
theorem below_drewNc {B : Nat} {w w1 : World} (h : Below B w w1) (n : Nat) : Below B w (w1.drewN n) := ⟨h.os, h.tape, h.output, h.size, h.block⟩
set_option maxHeartbeats 4000000 in
set_option maxRecDepth 100000 in
theorem next1_in (m : Nat) (hm : 2 ≤ m) (l b1 b2 G n v : Nat) (es : List EdgeP) (hv : v < n) (w0 : World) (hI : IsGraph w0 G n es) (hG : okG (n : Int) es) (hlen : es.length ≤ 30) (J Jx : List (OutT es v) → World → Prop)
    (W : World) (hJ : AbidesFrom W.heap.size J)
    (hY : ∀ pre x W, J pre W → pre.length < (outL es v).length → YieldAt Fence.wide (m - 1) Try.prog l #[.int .i64 ((x.1 : Nat) : Int)] W fun e W' =>
      (e = .returned (.bool true) ∧ J (pre ++ [x]) W' ∧ KpC w0.heap.size b1 b2 W W') ∨ (e = .returned (.bool false) ∧ Jx (pre ++ [x]) W'))
    (hb1 : W.heap[b1]? = some (.cells #[.pointer (some ⟨G, 0, none⟩)] 33 (0, 0))) (hb2 : W.heap[b2]? = some (.cells #[.int .i64 (v : Int)] 3 (0, 0))) (hW : Below w0.heap.size w0 W) (h0 : J [] W) :
    CallsIn Fence.wide m Try.prog 43 #[.func (.yield l) #[] #[], .pointer (some ⟨b1, 0, none⟩), .pointer (some ⟨b2, 0, none⟩)] W fun e W' => (∃ v, e = .returned v) ∧
      ((∃ ys, ys = outA es v ∧ J ys W') ∨ (∃ pre, pre <+: outA es v ∧ Jx pre W')) := by
  have HI := Lib.hid hI
  have HG := Lib.hid hG
  have hc1 : W.cell? ⟨b1, 0, none⟩ = some (.pointer (some ⟨G, 0, none⟩)) := (blk_cell hb1 0).trans rfl
  have hc2 : W.cell? ⟨b2, 0, none⟩ = some (.int .i64 (v : Int)) := (blk_cell hb2 0).trans rfl
  obtain ⟨AE, cE, Ob, Ib, M, i1, i2, i3, _⟩ := hI.below hW
  have HBL := Lib.hid (blk_lt i1)
  obtain ⟨Bv, cv, r1, r2, r3⟩ := i3.2 v hv
  have g1 : W.cell? ⟨G, 1, none⟩ = some (.slice (some ⟨Ob, 0, none⟩) n n) := by rw [blk_cell i1]; rfl
  have hv1 : (v : Int) < (n : Int) := by omega
  have hv0 : (0 : Int) ≤ (v : Int) := by omega
  obtain ⟨row, hrow⟩ : ∃ row, row = pick (fromB es v) es.length := ⟨_, rfl⟩
  dsimp only at r1 r2 r3
  rw [← hrow] at r1 r2 r3
  have hrl : row.length ≤ 30 := by rw [hrow]; exact Nat.le_trans (pick_len _ _) hlen
  have HRL := Lib.hid hrl
  have HROW := Lib.hid hrow
  have HIR := Lib.hid r3
  have HER := Lib.hid i2
  have HWB : Hid (∀ wr, Below w0.heap.size W wr → IRow wr Bv row) := fun wr hb => by
    obtain ⟨AE0, cE0, Ob0, Ib0, M0, j1, j2, j3, _⟩ := HI.out
    obtain ⟨Bv0, cv0, s1, s2, s3⟩ := j3.2 v hv
    have hcell := hW.cell (p := ⟨G, 1, none⟩) (blk_lt j1)
    have e1 : w0.cell? ⟨G, 1, none⟩ = some (.slice (some ⟨Ob0, 0, none⟩) n n) := by rw [blk_cell j1]; rfl
    have e2 := g1
    rw [hcell, e1] at e2
    have hO : Ob0 = Ob := by simpa using e2
    subst hO
    have hc2' := hW.cell (p := ⟨Ob0, v, none⟩) j3.1
    rw [hc2', s1] at r1
    have hB0 : Bv0 = Bv := by simp at r1; exact r1.1
    subst hB0
    rw [hrow]
    exact s3.below (hW.trans hb)
  have HG0 := Lib.hid i1
  clear i1 i2 i3 r2 r3 hrow hG hI hrl
  refine callsIn_of_wp Try.func43 rfl trivial ?_ rfl
  simp only [Try.ntmps43, List.size_toArray, List.length_cons, List.length_nil, Nat.reduceAdd, Nat.reduceSub, Array.replicate_succ, Array.replicate_zero, List.push_toArray, List.append_toArray, List.nil_append, List.cons_append]
  gi_wp2
  refine wpIn_wide.2 ?_
  go_quiet (fail)
  clear hc1 hc2 r1 g1 hv1 hv0
  have HS : Hid (J ((outA es v).take 0) (W.drewN nq) ∧ Below w0.heap.size w0 (W.drewN nq) ∧ Below W.heap.size W (W.drewN nq) ∧ (W.drewN nq).heap[b1]? = some (.cells #[.pointer (some ⟨G, 0, none⟩)] 33 (0, 0)) ∧ (W.drewN nq).heap[b2]? = some (.cells #[.int .i64 (v : Int)] 3 (0, 0))) :=
    ⟨hJ [] W (W.drewN nq) none h0 (grown_drewNc W nq none) (fun r e => by cases e), below_drewNc hW nq, below_drewNc (Below.refl _ _) nq, hb1, hb2⟩
  clear h0 hW hb1 hb2
  gi_wp2
  gi_loopw [14] (fun x wr => ∃ k : Nat, k ≤ row.length ∧ x = .int .i64 k ∧ Hid (J ((outA es v).take k) wr ∧ Below w0.heap.size w0 wr ∧ Below w0.heap.size W wr ∧ wr.heap[b1]? = some (.cells #[.pointer (some ⟨G, 0, none⟩)] 33 (0, 0)) ∧ wr.heap[b2]? = some (.cells #[.int .i64 (v : Int)] 3 (0, 0)))) (fun x _ => row.length - (intOf x).toNat)
  case atStart => exact ⟨0, Nat.zero_le _, rfl, HS.out.1, HS.out.2.1, below_drewNc (Below.refl _ _) nq, HS.out.2.2.2⟩
  case round =>
    clear HS
    obtain ⟨k, hk, rfl, hR⟩ := hrel
    by_cases hlt : k < row.length
    · have hkl : k < (outL es v).length := by rw [outL_len, ← HROW.out]; exact hlt
      obtain ⟨i, p, hri, hilt, hep, hp1, hto⟩ := out_at (es := es) (v := v) (k := k) (by rw [← HROW.out]; exact hlt)
      rw [← HROW.out] at hri
      obtain ⟨AE, cE, Ob', Ib', M', i1, i2, _, _⟩ := HI.out.below hR.out.2.1
      obtain ⟨g, o, hA, hg, c0⟩ := HWB.out wr hR.out.2.2.1 k hlt
      subst hA
      rw [hri] at c0
      obtain ⟨g2, o2, hA2, hg2, _, e1⟩ := i2 i p hep
      subst hA2
      have x0 : wr.cell? ⟨G, 0, none⟩ = some (.slice (some ⟨g2, o2, none⟩) es.length cE) := by rw [blk_cell i1]; rfl
      have x1 : wr.cell? ⟨b1, 0, none⟩ = some (.pointer (some ⟨G, 0, none⟩)) := (blk_cell hR.out.2.2.2.1 0).trans rfl
      have hin := HG.out.2.2 p (List.mem_of_getElem? hep)
      obtain ⟨xo, hxv, HSU⟩ : ∃ xo : OutT es v, ((xo.1 : Nat) : Int) = p.2 ∧ Hid ((outA es v).take (k + 1) = (outA es v).take k ++ [xo]) := ⟨⟨(outL es v)[k]'hkl, List.getElem_mem hkl⟩, by dsimp only; rw [hto]; omega, outA_succ es v k hkl⟩
      have q1 : (k : Int) < (row.length : Int) := by omega
      have q0 : (0 : Int) ≤ (k : Int) := by omega
      have qd : decide ((k : Int) < (row.length : Int)) = true := decide_eq_true q1
      have hw2 : IntKind.i64.wrap ((k : Int) + 1) = ((k + 1 : Nat) : Int) := by have := HRL.out; rw [IntWalk.i64_in _ (by omega)]; omega
      have z1 : (i : Int) < (es.length : Int) := by omega
      have z0 : (0 : Int) ≤ (i : Int) := by omega
      have hpl : ((outA es v).take k).length < (outL es v).length := by rw [List.length_take]; omega
      obtain ⟨tv, htv⟩ : ∃ tv, tv = p.2 := ⟨_, rfl⟩
      rw [← htv] at e1 hxv
      clear hto hin hep hp1 htv hri i1 i2 hkl
      have HPL := Lib.hid hpl
      clear hpl
      obtain ⟨fn, tmps, assign, body, hy, hY1⟩ := hY _ xo wr hR.out.1 HPL.out
      rw [hxv] at hy
      clear hxv
      gi_wp2
      refine hY1.mono ?_
      rintro e W3 (⟨rfl, hJ4, hk4⟩ | ⟨rfl, hJx⟩)
      · have HN : Hid (J ((outA es v).take (k + 1)) W3 ∧ Below w0.heap.size w0 W3 ∧ Below w0.heap.size W W3 ∧ W3.heap[b1]? = some (.cells #[.pointer (some ⟨G, 0, none⟩)] 33 (0, 0)) ∧ W3.heap[b2]? = some (.cells #[.int .i64 (v : Int)] 3 (0, 0))) :=
          ⟨by rw [HSU.out]; exact hJ4, hR.out.2.1.trans hk4.1, hR.out.2.2.1.trans hk4.1, hk4.2.1.trans hR.out.2.2.2.1, hk4.2.2.trans hR.out.2.2.2.2⟩
        clear hJ4 hk4 hY1 hy hR
        gi_wp2
        go_roundw
        case measure => simp [intOf]; omega
        case rel => exact ⟨k + 1, by omega, by go_num, HN⟩
      · have hJ5 := Lib.hid hJx
        clear hJx hY1 hy
        gi_wp2
        refine bodyPost_ret (results_none rfl _ _ _) rfl ?_
        refine ⟨⟨_, rfl⟩, .inr ⟨(outA es v).take (k + 1), List.take_prefix _ _, ?_⟩⟩
        rw [HSU.out]
        exact hJ5.out
    · obtain rfl : k = row.length := by omega
      have qd : decide ((row.length : Int) < (row.length : Int)) = false := decide_eq_false (by omega)
      have HE : Hid (J (outA es v) wr) := by
        have := hR.out.1
        rwa [outA_all es v row.length (by rw [outL_len, ← HROW.out])] at this
      gi_wp2
      go_end0
      exact ⟨⟨_, rfl⟩, .inl ⟨_, rfl, HE.out⟩⟩
theorem next_stops (m : Nat) (hm : 2 ≤ m) (b1 b2 G n v : Nat) (es : List EdgeP) (hv : v < n) (w0 w : World) (hI : IsGraph w0 G n es) (hG : okG (n : Int) es)
    (hb1 : w.heap[b1]? = some (.cells #[.pointer (some ⟨G, 0, none⟩)] 33 (0, 0))) (hb2 : w.heap[b2]? = some (.cells #[.int .i64 (v : Int)] 3 (0, 0))) (hw : Below w0.heap.size w0 w) :
    SeqStopsK Fence.wide m Try.prog 43 #[.pointer (some ⟨b1, 0, none⟩), .pointer (some ⟨b2, 0, none⟩)] (fun x : OutT es v => #[Value.int .i64 ((x.1 : Nat) : Int)]) (KpC w0.heap.size b1 b2) (fun ys => ys = outA es v) (fun pre => pre <+: outA es v) (outL es v).length w :=
  fun l J Jx W hW hJ _ hY h0 => next1_in m hm l b1 b2 G n v es hv w0 hI hG hG.2.1 J Jx W hJ hY (blk_below hb1 hW) (blk_below hb2 hW) (below_then hw hw.size hW) h0
end Go.Proofs.Ytbldlmolbdkabaa.HP
