import Derived.Test.YtiojfdgagdofiaaTrC
import Derived.StillTailTactics
import Derived.BigRegion
import Derived.Deep.RegionHeld3
import Derived.Deep.AppendLies
set_option linter.unusedVariables false
set_option linter.unusedSimpArgs false
namespace Go.Proofs.Ytiojfdgagdofiaa.HP
open Go.RowKit Go.Proofs.Ytiojfdgagdofiaa.HK Go.Proofs.YtiojfdgagdofiaaW.PrintWords Go.Proofs.YtiojfdgagdofiaaW.PrintLast Go.Proofs.YtiojfdgagdofiaaW.PrintMore
variable {w0 w : World} {fs : List FormP} {fv : Value} {vs : Nat → Value} {ls : Nat → List Int}
set_option maxHeartbeats 4000000 in
set_option maxRecDepth 100000 in
theorem take_other (h : IsParser w0 w fs fv vs ls) (k : Int) (t : ByteArray) (n a : Int) (h1 : k ≠ 1) (h2 : k ≠ 2) (h3 : k ≠ 3) (h4 : k ≠ 4) :
    Calls Try.prog 42 #[.pointer (some ⟨w0.heap.size, 0, none⟩), .agg #[.int .u8 k, .string t, .int .i64 n, .int .i64 a]] w fun e w' => e = .returned (.tuple #[]) ∧ IsParser w0 w' fs fv vs ls := by
  have HH := Lib.hid h
  have e1 : (k == 1) = false := by simpa using h1
  have e2 : (k == 2) = false := by simpa using h2
  have e3 : (k == 3) = false := by simpa using h3
  have e4 : (k == 4) = false := by simpa using h4
  clear h h1 h2 h3 h4
  go_enter Try.func42, Try.ntmps42
  go_upto_block 0 with (fail)
  obtain ⟨wb, hwb⟩ : ∃ wb, wb = (w.alloc (.cells #[.int .u8 k, .string t, .int .i64 n, .int .i64 a] 37)).alloc (.cells #[.int .u8 k, .string ⟨#[]⟩, .int .i64 0, .slice none 0 0, .int .i64 a] 40) := ⟨_, rfl⟩
  rw [← hwb]
  have hbb : Below w.heap.size w wb := by rw [hwb]; exact ((Below.refl _ w).alloc (Nat.le_refl _) _).alloc (by simp) _
  have HP := Lib.hid (HH.out.moved hbb)
  have HT : Hid (wb.heap[w.heap.size]? = some (.cells #[.int .u8 k, .string t, .int .i64 n, .int .i64 a] 37 (0, 0))) := by rw [hwb]; exact (heap_two' w _ _).1
  have HF : Hid (wb.heap[w.heap.size + 1]? = some (.cells #[.int .u8 k, .string ⟨#[]⟩, .int .i64 0, .slice none 0 0, .int .i64 a] 40 (0, 0))) := by rw [hwb]; exact (heap_two' w _ _).2
  have HBB := Lib.hid hbb
  clear hwb hbb
  obtain ⟨t0, t1, t2, t3, _, _, _, _⟩ := tok_cells HT.out
  go_wp2_with (fail)
  exact bodyPost_ret (v := .tuple #[]) (by simp [results, Try.results42, go_sem]) rfl ⟨rfl, HP.out⟩
end Go.Proofs.Ytiojfdgagdofiaa.HP
