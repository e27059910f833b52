/-
The deferred function of tree.Parse: what it does with a panic that it takes, and without.
-/
import Derived.Test.YtiojfdgagdofiaaTrB
import Derived.WalkLawsBesides
import Derived.Defers
import Derived.Recover
import Derived.StillTailTactics
import Derived.BigRegion
set_option linter.unusedVariables false
set_option linter.unusedSimpArgs false
namespace Go.Proofs.Ytiojfdgagdofiaa.HP
open Go.RowKit Go.Proofs.Ytiojfdgagdofiaa.HK Go.Proofs.YtiojfdgagdofiaaW.PrintWords Go.Proofs.YtiojfdgagdofiaaW.PrintLast Go.Proofs.YtiojfdgagdofiaaW.PrintMore
/-- The four result cells. -/
def ResCells (w : World) (g : Nat) (v0 v1 : Value) (a b : Int) : Prop :=
  w.heap[g]? = some (.cells #[v0] 23 (0, 0)) ∧ w.heap[g + 1]? = some (.cells #[v1] 24 (0, 0)) ∧ w.heap[g + 2]? = some (.cells #[.int .i64 a] 3 (0, 0)) ∧ w.heap[g + 3]? = some (.cells #[.int .i64 b] 25 (0, 0))
theorem catch_idle (p0 p1 p2 p3 : Addr) (w : World) :
    CallsD Try.prog 41 #[.pointer (some p0), .pointer (some p1), .pointer (some p2), .pointer (some p3)] .returning w fun e u' w' => e = .returned (.tuple #[]) ∧ u' = .returning ∧ w' = w := by
  refine callsD_of_wpS Try.func41 rfl fun c₀ cs hu => ?_
  apply wpS_seq
  apply wpS_region
  simp [wpOpsS, go_sem, recoverD, hu, Try.ntmps41, Exit.thenS]
  apply wpS_seq
  apply wpS_region
  simp [wpOpsS, go_sem, Exit.thenS]
  refine wpS_cond (t := false) (by simp [Act.eval, Array.replicate]) ?_
  simp only [Bool.false_eq_true, if_false]
  refine wpS_of_wp (wp_skip ?_)
  cases c₀
  simp_all [bodyPostS, results, Try.results41]
theorem assert66 (v : Value) (W : World) : (Instr.typeAssert (.iface 66 v) 20 66 true).run Try.prog W = .ok (.tuple #[v, .bool true]) W := by kernel_rfl
set_option maxHeartbeats 4000000 in
set_option maxRecDepth 100000 in
theorem catch_panicking (g : Nat) (a why x2 x3 : Int) (v0 v1 : Value) (w : World) (hg : ResCells w g v0 v1 x2 x3) (hs : g + 3 < w.heap.size) :
    CallsD Try.prog 41 #[.pointer (some ⟨g, 0, none⟩), .pointer (some ⟨g + 1, 0, none⟩), .pointer (some ⟨g + 2, 0, none⟩), .pointer (some ⟨g + 3, 0, none⟩)] (.panicking [{ v := .iface 66 (.agg #[.int .i64 a, .int .i64 why]), recovered := false }]) w fun e u' w' =>
      e = .returned (.tuple #[]) ∧ u' = .panicking [{ v := .iface 66 (.agg #[.int .i64 a, .int .i64 why]), recovered := true }] ∧ ResCells w' g (.slice none 0 0) (.slice none 0 0) a why ∧ Below g w w' := by
  refine callsD_of_wpS Try.func41 rfl fun c₀ cs hu => ?_
  apply wpS_seq
  apply wpS_region
  simp [wpOpsS, go_sem, recoverD, hu, Try.ntmps41, Exit.thenS]
  apply wpS_seq
  apply wpS_region
  simp [wpOpsS, go_sem, Exit.thenS]
  refine wpS_cond (t := true) (by simp [Act.eval, Array.replicate]) ?_
  simp only [if_true]
  refine wpS_of_wp ?_
  have hA : ∀ W, (Instr.typeAssert (Value.iface 66 (.agg #[.int .i64 a, .int .i64 why])) 20 66 true).run Try.prog W = .ok (.tuple #[.agg #[.int .i64 a, .int .i64 why], .bool true]) W := fun W => assert66 _ W
  refine Eq.mp (congrArg (fun tm => Code.wp Try.prog _ _ { tmps := tm, defers := [] } w) (?_ : #[Value.pointer (some ⟨g, 0, none⟩), .pointer (some ⟨g + 1, 0, none⟩), .pointer (some ⟨g + 2, 0, none⟩), .pointer (some ⟨g + 3, 0, none⟩), (Value.iface 66 (.agg #[.int .i64 a, .int .i64 why])), undef, undef, (Value.iface 66 (.agg #[.int .i64 a, .int .i64 why])), (Value.iface 66 (.agg #[.int .i64 a, .int .i64 why])), .bool true, undef, undef, undef, undef, undef, undef, undef, undef, undef, undef, undef, undef] = _)) ?_
  · rfl
  obtain ⟨g0, g1, g2, g3⟩ := hg
  have HG0 := Lib.hid g0
  have HG1 := Lib.hid g1
  have HG2 := Lib.hid g2
  have HG3 := Lib.hid g3
  have HS := Lib.hid hs
  clear g0 g1 g2 g3 hs
  go_wp2_with (fail)
  obtain ⟨wr, hwr⟩ : ∃ wr, wr = w.alloc (.cells #[.int .i64 a, .int .i64 why] 66) := ⟨_, rfl⟩
  rw [← hwr]
  have HBr : Hid (Below w.heap.size w wr) := by rw [hwr]; exact (Below.refl _ w).alloc (Nat.le_refl _) _
  have HN : Hid (wr.heap[w.heap.size]? = some (.cells #[.int .i64 a, .int .i64 why] 66 (0, 0))) := by rw [hwr]; exact heap_alloc_new w _
  clear hwr
  have R0 := Lib.hid (blk_below HG0.out HBr.out)
  have R1 := Lib.hid (blk_below HG1.out HBr.out)
  have R2 := Lib.hid (blk_below HG2.out HBr.out)
  have R3 := Lib.hid (blk_below HG3.out HBr.out)
  obtain ⟨m, hm⟩ : ∃ m, m = w.heap.size := ⟨_, rfl⟩
  have HM := Lib.hid hm
  rw [← hm] at HN ⊢
  clear hm
  have n0 : wr.cell? ⟨m, 0, none⟩ = some (.int .i64 a) := by rw [blk_cell HN.out]; rfl
  have n1 : wr.cell? ⟨m, 1, none⟩ = some (.int .i64 why) := by rw [blk_cell HN.out]; rfl
  have c0 : wr.cell? ⟨g, 0, none⟩ = some v0 := by rw [blk_cell R0.out]; rfl
  have c1 : wr.cell? ⟨g + 1, 0, none⟩ = some v1 := by rw [blk_cell R1.out]; rfl
  have c2 : wr.cell? ⟨g + 2, 0, none⟩ = some (.int .i64 x2) := by rw [blk_cell R2.out]; rfl
  have c3 : wr.cell? ⟨g + 3, 0, none⟩ = some (.int .i64 x3) := by rw [blk_cell R3.out]; rfl
  have f0 : wr.frozen? ⟨g, 0, none⟩ = false := blk_frozen R0.out 0
  have f1 : wr.frozen? ⟨g + 1, 0, none⟩ = false := blk_frozen R1.out 0
  have f2 : wr.frozen? ⟨g + 2, 0, none⟩ = false := blk_frozen R2.out 0
  have f3 : wr.frozen? ⟨g + 3, 0, none⟩ = false := blk_frozen R3.out 0
  have e0 : m ≠ g := by have := HS.out; have := HM.out; omega
  have e1 : m ≠ g + 1 := by have := HS.out; have := HM.out; omega
  have e2 : m ≠ g + 2 := by have := HS.out; have := HM.out; omega
  have e3 : m ≠ g + 3 := by have := HS.out; have := HM.out; omega
  have e0' : g ≠ m := e0.symm
  have e1' : g + 1 ≠ m := e1.symm
  have e2' : g + 2 ≠ m := e2.symm
  have e3' : g + 3 ≠ m := e3.symm
  go_region
  obtain ⟨wz, hwz⟩ : ∃ wz, wz = ((((wr.setCell ⟨g, 0, none⟩ (.slice none 0 0)).setCell ⟨g + 1, 0, none⟩ (.slice none 0 0)).setCell ⟨g + 2, 0, none⟩ (.int .i64 a)).setCell ⟨g + 3, 0, none⟩ (.int .i64 why)).drew := ⟨_, rfl⟩
  rw [← hwz]
  have hne : ∀ (W : World) (p : Addr) (x : Value) (k : Nat), k ≠ p.block → (W.setCell p x).heap[k]? = W.heap[k]? := fun W p x k h => Below.heap_setCell W p x k h
  have hz : ResCells wz g (.slice none 0 0) (.slice none 0 0) a why := by
    rw [hwz]
    refine ⟨?_, ?_, ?_, ?_⟩
    · show (((((wr.setCell ⟨g, 0, none⟩ (.slice none 0 0)).setCell ⟨g + 1, 0, none⟩ (.slice none 0 0)).setCell ⟨g + 2, 0, none⟩ (.int .i64 a)).setCell ⟨g + 3, 0, none⟩ (.int .i64 why))).heap[g]? = _
      rw [hne _ _ _ _ (by show g ≠ g + 3; omega), hne _ _ _ _ (by show g ≠ g + 2; omega), hne _ _ _ _ (by show g ≠ g + 1; omega)]
      exact blk_set R0.out 0 _
    · show (((((wr.setCell ⟨g, 0, none⟩ (.slice none 0 0)).setCell ⟨g + 1, 0, none⟩ (.slice none 0 0)).setCell ⟨g + 2, 0, none⟩ (.int .i64 a)).setCell ⟨g + 3, 0, none⟩ (.int .i64 why))).heap[g + 1]? = _
      rw [hne _ _ _ _ (by show g + 1 ≠ g + 3; omega), hne _ _ _ _ (by show g + 1 ≠ g + 2; omega)]
      exact blk_set ((hne _ _ _ _ (by show g + 1 ≠ g; omega)).trans R1.out) 0 _
    · show (((((wr.setCell ⟨g, 0, none⟩ (.slice none 0 0)).setCell ⟨g + 1, 0, none⟩ (.slice none 0 0)).setCell ⟨g + 2, 0, none⟩ (.int .i64 a)).setCell ⟨g + 3, 0, none⟩ (.int .i64 why))).heap[g + 2]? = _
      rw [hne _ _ _ _ (by show g + 2 ≠ g + 3; omega)]
      exact blk_set ((hne _ _ _ _ (by show g + 2 ≠ g + 1; omega)).trans ((hne _ _ _ _ (by show g + 2 ≠ g; omega)).trans R2.out)) 0 _
    · exact blk_set ((hne _ _ _ _ (by show g + 3 ≠ g + 2; omega)).trans ((hne _ _ _ _ (by show g + 3 ≠ g + 1; omega)).trans ((hne _ _ _ _ (by show g + 3 ≠ g; omega)).trans R3.out))) 0 _
  have hzb : Below g w wz := by
    rw [hwz]
    have h0 : Below g w wr := HBr.out.mono (by have := HS.out; omega)
    exact below_drew ((((h0.setCell (p := ⟨g, 0, none⟩) (Nat.le_refl _) _).setCell (p := ⟨g + 1, 0, none⟩) (by show g ≤ g + 1; omega) _).setCell (p := ⟨g + 2, 0, none⟩) (by show g ≤ g + 2; omega) _).setCell (p := ⟨g + 3, 0, none⟩) (by show g ≤ g + 3; omega) _)
  clear hwz n0 n1 c0 c1 c2 c3 f0 f1 f2 f3 e0 e1 e2 e3 e0' e1' e2' e3'
  go_wp2
  cases c₀
  simp [bodyPostS, results, Try.results41]
  exact ⟨hz, hzb⟩
end Go.Proofs.Ytiojfdgagdofiaa.HP
