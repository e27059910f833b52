import Derived.Test.YtiojfdgagdofiaaTrC
import Derived.StillTailTactics
import Derived.BigRegion
import Derived.Deep.RegionHeld3
import Derived.Deep.AppendLies
set_option linter.unusedVariables false
set_option linter.unusedSimpArgs false
namespace Go.Proofs.Ytiojfdgagdofiaa.HP
open Go.RowKit Go.Proofs.Ytiojfdgagdofiaa.HK Go.Proofs.YtiojfdgagdofiaaW.PrintWords Go.Proofs.YtiojfdgagdofiaaW.PrintLast Go.Proofs.YtiojfdgagdofiaaW.PrintMore
variable {w0 w : World} {fs : List FormP} {fv : Value} {vs : Nat → Value} {ls : Nat → List Int}
set_option maxHeartbeats 4000000 in
set_option maxRecDepth 100000 in
theorem take_close_no (h : IsParser w0 w fs fv vs ls) (t : ByteArray) (n a : Int) (h0 : (ls 1).length = 0) :
    Calls Try.prog 42 #[.pointer (some ⟨w0.heap.size, 0, none⟩), .agg #[.int .u8 2, .string t, .int .i64 n, .int .i64 a]] w fun e w' => e = gaveUp a 8 ∧ Below w0.heap.size w0 w' := by
  have HH := Lib.hid h
  have H0 := Lib.hid h0
  clear h h0
  go_enter Try.func42, Try.ntmps42
  go_upto_block 0 with (fail)
  obtain ⟨wb, hwb⟩ : ∃ wb, wb = (w.alloc (.cells #[.int .u8 2, .string t, .int .i64 n, .int .i64 a] 37)).alloc (.cells #[.int .u8 2, .string ⟨#[]⟩, .int .i64 0, .slice none 0 0, .int .i64 a] 40) := ⟨_, rfl⟩
  rw [← hwb]
  have hbb : Below w.heap.size w wb := by rw [hwb]; exact ((Below.refl _ w).alloc (Nat.le_refl _) _).alloc (by simp) _
  have HP := Lib.hid (HH.out.moved hbb)
  have HT : Hid (wb.heap[w.heap.size]? = some (.cells #[.int .u8 2, .string t, .int .i64 n, .int .i64 a] 37 (0, 0))) := by rw [hwb]; exact (heap_two' w _ _).1
  have HF : Hid (wb.heap[w.heap.size + 1]? = some (.cells #[.int .u8 2, .string ⟨#[]⟩, .int .i64 0, .slice none 0 0, .int .i64 a] 40 (0, 0))) := by rw [hwb]; exact (heap_two' w _ _).2
  clear hwb hbb
  obtain ⟨t0, t1, t2, t3, _, _, _, _⟩ := tok_cells HT.out
  obtain ⟨A1, c1, hv1⟩ := HP.out.slice 1 (by omega)
  have d2 := HP.out.c2
  rw [hv1] at d2
  have HV1 := Lib.hid hv1
  clear hv1
  rw [H0.out] at d2
  go_wp2_with (fail)
  go_still_tail 8, (by kernel_rfl)
  change wpList _ _ _ _ _ wb.drew
  obtain ⟨wd, hwd⟩ : ∃ wd, wd = wb.drew := ⟨_, rfl⟩
  rw [← hwd]
  have hbd : Below w0.heap.size w0 wd := by rw [hwd]; exact (HP.out.drewN 1).2.2.2
  clear hwd
  go_wp2_with (fail)
  go_at_call 43
  refine (need_no _ _ _).mono ?_
  rintro e w' ⟨rfl, rfl⟩
  exact ⟨rfl, rfl, hbd⟩
end Go.Proofs.Ytiojfdgagdofiaa.HP
