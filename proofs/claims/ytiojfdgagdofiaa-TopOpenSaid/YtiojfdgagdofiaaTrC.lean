/-
The contracts of tree.need and parser.take, over the translation.
-/
import Derived.Test.YtiojfdgagdofiaaTrB
import Derived.WalkLawsBesides
set_option linter.unusedVariables false
set_option linter.unusedSimpArgs false
namespace Go.Proofs.Ytiojfdgagdofiaa.HP
open Go.RowKit Go.Proofs.Ytiojfdgagdofiaa.HK Go.Proofs.YtiojfdgagdofiaaW.PrintWords Go.Proofs.YtiojfdgagdofiaaW.PrintLast Go.Proofs.YtiojfdgagdofiaaW.PrintMore

theorem need_ok (a why : Int) (w : World) : Calls Try.prog 43 #[.bool true, .int .i64 a, .int .i64 why] w fun e w' => e = .returned (.tuple #[]) ∧ w' = w := by
  go_enter Try.func43, Try.ntmps43
  go_wp2
  go_end0
  exact ⟨rfl, rfl⟩
/-- What gives up. -/
def gaveUp (a why : Int) : Ending := .panicked [{ v := .iface 66 (.agg #[.int .i64 a, .int .i64 why]), recovered := false }]
theorem need_no (a why : Int) (w : World) : Calls Try.prog 43 #[.bool false, .int .i64 a, .int .i64 why] w fun e w' => e = .panicked [{ v := .iface 66 (.agg #[.int .i64 a, .int .i64 why]), recovered := false }] ∧ w' = w := by
  go_enter Try.func43, Try.ntmps43
  go_wp2
  exact ⟨rfl, rfl, rfl⟩
variable {w0 w : World} {fs : List FormP} {fv : Value} {vs : Nat → Value} {ls : Nat → List Int}
theorem heap_two' (w : World) (o o' : Obj) : ((w.alloc o).alloc o').heap[w.heap.size]? = some o ∧ ((w.alloc o).alloc o').heap[w.heap.size + 1]? = some o' := HK.heap_two w o o'
/-- A closing bracket. -/
def closeLs (ls : Nat → List Int) : Nat → List Int := upd ls 1 ((ls 1).take ((ls 1).length - 1))
theorem IsParser.closed (h : IsParser w0 w fs fv vs ls) {A : Option Addr} {c m : Nat} (hv : vs 1 = .slice A (ls 1).length c) (hm : m ≤ (ls 1).length) : IsParser w0 (w.setCell ⟨w0.heap.size, 2, none⟩ (.slice A m c)) fs fv (upd vs 1 (.slice A m c)) (upd ls 1 ((ls 1).take m)) := by
  obtain ⟨h1, h2, h3, h4⟩ := h
  refine ⟨?_, ?_, (h3.cutBack (by omega) hv hm).far h1 (by decide) 2 _, h4.setCell (p := ⟨w0.heap.size, 2, none⟩) (Nat.le_refl _) _⟩
  · rw [blk_set h1 2 (.slice A m c)]; rfl
  · rw [fcells_congr fs 2 (upd vs 1 (.slice A m c)) vs (fun j h1 h2 => upd_other _ _ (by omega))]
    exact own_setCell h2 (own_ne h2 h1 (by decide)) _
end Go.Proofs.Ytiojfdgagdofiaa.HP
