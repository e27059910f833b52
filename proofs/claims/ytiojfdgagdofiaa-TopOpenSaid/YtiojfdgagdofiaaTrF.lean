import Derived.Test.YtiojfdgagdofiaaTrC
import Derived.StillTailTactics
import Derived.BigRegion
import Derived.Deep.RegionHeld3
import Derived.Deep.AppendLies
set_option linter.unusedVariables false
set_option linter.unusedSimpArgs false
namespace Go.Proofs.Ytiojfdgagdofiaa.HP
open Go.RowKit Go.Proofs.Ytiojfdgagdofiaa.HK Go.Proofs.YtiojfdgagdofiaaW.PrintWords Go.Proofs.YtiojfdgagdofiaaW.PrintLast Go.Proofs.YtiojfdgagdofiaaW.PrintMore
variable {w0 w : World} {fs : List FormP} {fv : Value} {vs : Nat → Value} {ls : Nat → List Int}
set_option maxHeartbeats 4000000 in
set_option maxRecDepth 100000 in
theorem take_open_deep (h : IsParser w0 w fs fv vs ls) (t : ByteArray) (n a : Int) (h0 : ¬ (ls 1).length < 12) :
    Calls Try.prog 42 #[.pointer (some ⟨w0.heap.size, 0, none⟩), .agg #[.int .u8 1, .string t, .int .i64 n, .int .i64 a]] w fun e w' => e = gaveUp a 4 ∧ Below w0.heap.size w0 w' := by
  have HH := Lib.hid h
  have HH0 := Lib.hid h0
  clear h h0
  go_enter Try.func42, Try.ntmps42
  go_upto_block 0 with (fail)
  obtain ⟨wb, hwb⟩ : ∃ wb, wb = (w.alloc (.cells #[.int .u8 1, .string t, .int .i64 n, .int .i64 a] 37)).alloc (.cells #[.int .u8 1, .string ⟨#[]⟩, .int .i64 0, .slice none 0 0, .int .i64 a] 40) := ⟨_, rfl⟩
  rw [← hwb]
  have hbb : Below w.heap.size w wb := by rw [hwb]; exact ((Below.refl _ w).alloc (Nat.le_refl _) _).alloc (by simp) _
  have HP := Lib.hid (HH.out.moved hbb)
  have HT : Hid (wb.heap[w.heap.size]? = some (.cells #[.int .u8 1, .string t, .int .i64 n, .int .i64 a] 37 (0, 0))) := by rw [hwb]; exact (heap_two' w _ _).1
  have HF : Hid (wb.heap[w.heap.size + 1]? = some (.cells #[.int .u8 1, .string ⟨#[]⟩, .int .i64 0, .slice none 0 0, .int .i64 a] 40 (0, 0))) := by rw [hwb]; exact (heap_two' w _ _).2
  have HBB := Lib.hid hbb
  clear hwb hbb
  obtain ⟨t0, t1, t2, t3, _, _, _, _⟩ := tok_cells HT.out
  obtain ⟨A1, c1, hv1⟩ := HP.out.slice 1 (by omega)
  have d2 := HP.out.c2
  rw [hv1] at d2
  have HV1 := Lib.hid hv1
  clear hv1
  have e0 : decide (((ls 1).length : Int) < 12) = false := decide_eq_false (by have := HH0.out; omega)
  go_wp2_with (fail)
  go_still_tail 8, (by kernel_rfl)
  change wpList _ _ _ _ _ wb.drew
  obtain ⟨wd, hwd⟩ : ∃ wd, wd = wb.drew := ⟨_, rfl⟩
  rw [← hwd]
  have hbd : Below w0.heap.size w0 wd := by rw [hwd]; exact (HP.out.drewN 1).2.2.2
  clear hwd
  go_wp2_with (fail)
  go_at_call 43
  refine (need_no _ _ _).mono ?_
  rintro e w' ⟨rfl, rfl⟩
  exact ⟨rfl, rfl, hbd⟩
set_option maxHeartbeats 4000000 in
set_option maxRecDepth 100000 in
theorem take_open_add (h : IsParser w0 w fs fv vs ls) (t : ByteArray) (n a : Int) (h0 : (ls 1).length < 12) (hn : fs.length ≤ 399) (hlen : ∀ i, (ls i).length ≤ 400) (hopen : ∀ x ∈ ls 1, ∃ b : Nat, x = (b : Int) ∧ b < fs.length) :
    Calls Try.prog 42 #[.pointer (some ⟨w0.heap.size, 0, none⟩), .agg #[.int .u8 1, .string t, .int .i64 n, .int .i64 a]] w fun e w' => e = .returned (.tuple #[]) ∧ ∃ fv' vs', IsParser w0 w' (fs ++ [⟨1, ⟨#[]⟩, 0, a⟩]) fv' vs' (addLs fs.length 1 ls) := by
  have HH := Lib.hid h
  have HH0 := Lib.hid h0
  have HHN := Lib.hid hn
  have HHLEN := Lib.hid hlen
  have HHOPEN := Lib.hid hopen
  clear h h0 hn hlen hopen
  go_enter Try.func42, Try.ntmps42
  go_upto_block 0 with (fail)
  obtain ⟨wb, hwb⟩ : ∃ wb, wb = (w.alloc (.cells #[.int .u8 1, .string t, .int .i64 n, .int .i64 a] 37)).alloc (.cells #[.int .u8 1, .string ⟨#[]⟩, .int .i64 0, .slice none 0 0, .int .i64 a] 40) := ⟨_, rfl⟩
  rw [← hwb]
  have hbb : Below w.heap.size w wb := by rw [hwb]; exact ((Below.refl _ w).alloc (Nat.le_refl _) _).alloc (by simp) _
  have HP := Lib.hid (HH.out.moved hbb)
  have HT : Hid (wb.heap[w.heap.size]? = some (.cells #[.int .u8 1, .string t, .int .i64 n, .int .i64 a] 37 (0, 0))) := by rw [hwb]; exact (heap_two' w _ _).1
  have HF : Hid (wb.heap[w.heap.size + 1]? = some (.cells #[.int .u8 1, .string ⟨#[]⟩, .int .i64 0, .slice none 0 0, .int .i64 a] 40 (0, 0))) := by rw [hwb]; exact (heap_two' w _ _).2
  have HBB := Lib.hid hbb
  clear hwb hbb
  obtain ⟨t0, t1, t2, t3, _, _, _, _⟩ := tok_cells HT.out
  obtain ⟨A1, c1, hv1⟩ := HP.out.slice 1 (by omega)
  have d2 := HP.out.c2
  rw [hv1] at d2
  have HV1 := Lib.hid hv1
  clear hv1
  have e0 : decide (((ls 1).length : Int) < 12) = true := decide_eq_true (by have := HH0.out; omega)
  go_wp2_with (fail)
  go_quiet ((go_at_call 43; with_reducible exact Calls.quiet_of_same (need_ok _ _ _)))
  obtain ⟨wc, hwc⟩ : ∃ wc, wc = wb.drewN nq := ⟨_, rfl⟩
  rw [← hwc]
  have hPc : Hid (IsParser w0 wc fs fv vs ls) := by rw [hwc]; exact HP.out.drewN nq
  have hTc : Hid (wc.heap[w.heap.size]? = some (.cells #[.int .u8 1, .string t, .int .i64 n, .int .i64 a] 37 (0, 0))) := by rw [hwc]; exact HT.out
  have hFc : Hid (wc.heap[w.heap.size + 1]? = some (.cells #[.int .u8 1, .string ⟨#[]⟩, .int .i64 0, .slice none 0 0, .int .i64 a] 40 (0, 0))) := by rw [hwc]; exact HF.out
  clear hwc
  clear d2 e0 t0 t1 t2 t3
  obtain ⟨A0, c0, hv0⟩ := own_slice hPc.out.2.1
  have d0 := hPc.out.c0
  rw [hv0] at d0
  obtain ⟨u0, u1, u2, u3, _, _, _, _⟩ := tok_cells hTc.out
  have e1 : decide ((fs.length : Int) < 400) = true := decide_eq_true (by have := HHN.out; omega)
  go_wp2_with (fail)
  go_quiet ((go_at_call 43; with_reducible exact Calls.quiet_of_same (need_ok _ _ _)))
  obtain ⟨wd, hwd⟩ : ∃ wd, wd = wc.drewN nq := ⟨_, rfl⟩
  rw [← hwd]
  have hPd : Hid (IsParser w0 wd fs fv vs ls) := by rw [hwd]; exact hPc.out.drewN nq
  have hTd : Hid (wd.heap[w.heap.size]? = some (.cells #[.int .u8 1, .string t, .int .i64 n, .int .i64 a] 37 (0, 0))) := by rw [hwd]; exact hTc.out
  have hFd : Hid (wd.heap[w.heap.size + 1]? = some (.cells #[.int .u8 1, .string ⟨#[]⟩, .int .i64 0, .slice none 0 0, .int .i64 a] 40 (0, 0))) := by rw [hwd]; exact hFc.out
  clear hwd
  clear d0 u0 u1 u2 u3 e1
  obtain ⟨a0, a1, a2, a3, a4, _, _, _, _, _⟩ := form_cells hFd.out
  go_wp2_with (fail)
  go_at_call 69
  refine (add_calls hPd.out ⟨1, ⟨#[]⟩, 0, a⟩ HHN.out HHLEN.out HHOPEN.out).mono ?_
  rintro e w' ⟨rfl, fv', vs', hq⟩
  go_wp2
  first
    | go_end0
    | skip
  exact ⟨rfl, _, _, hq⟩
set_option maxHeartbeats 4000000 in
set_option maxRecDepth 100000 in
theorem take_open_full (h : IsParser w0 w fs fv vs ls) (t : ByteArray) (n a : Int) (h0 : (ls 1).length < 12) (hn : ¬ fs.length < 400) :
    Calls Try.prog 42 #[.pointer (some ⟨w0.heap.size, 0, none⟩), .agg #[.int .u8 1, .string t, .int .i64 n, .int .i64 a]] w fun e w' => e = gaveUp a 4 ∧ Below w0.heap.size w0 w' := by
  have HH := Lib.hid h
  have HH0 := Lib.hid h0
  have HHN := Lib.hid hn
  clear h h0 hn
  go_enter Try.func42, Try.ntmps42
  go_upto_block 0 with (fail)
  obtain ⟨wb, hwb⟩ : ∃ wb, wb = (w.alloc (.cells #[.int .u8 1, .string t, .int .i64 n, .int .i64 a] 37)).alloc (.cells #[.int .u8 1, .string ⟨#[]⟩, .int .i64 0, .slice none 0 0, .int .i64 a] 40) := ⟨_, rfl⟩
  rw [← hwb]
  have hbb : Below w.heap.size w wb := by rw [hwb]; exact ((Below.refl _ w).alloc (Nat.le_refl _) _).alloc (by simp) _
  have HP := Lib.hid (HH.out.moved hbb)
  have HT : Hid (wb.heap[w.heap.size]? = some (.cells #[.int .u8 1, .string t, .int .i64 n, .int .i64 a] 37 (0, 0))) := by rw [hwb]; exact (heap_two' w _ _).1
  have HF : Hid (wb.heap[w.heap.size + 1]? = some (.cells #[.int .u8 1, .string ⟨#[]⟩, .int .i64 0, .slice none 0 0, .int .i64 a] 40 (0, 0))) := by rw [hwb]; exact (heap_two' w _ _).2
  have HBB := Lib.hid hbb
  clear hwb hbb
  obtain ⟨t0, t1, t2, t3, _, _, _, _⟩ := tok_cells HT.out
  obtain ⟨A1, c1, hv1⟩ := HP.out.slice 1 (by omega)
  have d2 := HP.out.c2
  rw [hv1] at d2
  have HV1 := Lib.hid hv1
  clear hv1
  have e0 : decide (((ls 1).length : Int) < 12) = true := decide_eq_true (by have := HH0.out; omega)
  go_wp2_with (fail)
  go_quiet ((go_at_call 43; with_reducible exact Calls.quiet_of_same (need_ok _ _ _)))
  obtain ⟨wc, hwc⟩ : ∃ wc, wc = wb.drewN nq := ⟨_, rfl⟩
  rw [← hwc]
  have hPc : Hid (IsParser w0 wc fs fv vs ls) := by rw [hwc]; exact HP.out.drewN nq
  have hTc : Hid (wc.heap[w.heap.size]? = some (.cells #[.int .u8 1, .string t, .int .i64 n, .int .i64 a] 37 (0, 0))) := by rw [hwc]; exact HT.out
  have hFc : Hid (wc.heap[w.heap.size + 1]? = some (.cells #[.int .u8 1, .string ⟨#[]⟩, .int .i64 0, .slice none 0 0, .int .i64 a] 40 (0, 0))) := by rw [hwc]; exact HF.out
  clear hwc
  clear d2 e0 t0 t1 t2 t3
  obtain ⟨A0, c0, hv0⟩ := own_slice hPc.out.2.1
  have d0 := hPc.out.c0
  rw [hv0] at d0
  obtain ⟨u0, u1, u2, u3, _, _, _, _⟩ := tok_cells hTc.out
  have e1 : decide ((fs.length : Int) < 400) = false := decide_eq_false (by have := HHN.out; omega)
  go_wp2_with (fail)
  go_still_tail 8, (by kernel_rfl)
  change wpList _ _ _ _ _ wc.drew
  obtain ⟨wd, hwd⟩ : ∃ wd, wd = wc.drew := ⟨_, rfl⟩
  rw [← hwd]
  have hbd : Below w0.heap.size w0 wd := by rw [hwd]; exact (hPc.out.drewN 1).2.2.2
  clear hwd
  go_wp2_with (fail)
  go_at_call 43
  refine (need_no _ _ _).mono ?_
  rintro e w' ⟨rfl, rfl⟩
  exact ⟨rfl, rfl, hbd⟩
end Go.Proofs.Ytiojfdgagdofiaa.HP
