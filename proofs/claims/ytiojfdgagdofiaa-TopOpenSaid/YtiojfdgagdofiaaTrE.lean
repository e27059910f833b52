import Derived.Test.YtiojfdgagdofiaaTrC
import Derived.StillTailTactics
import Derived.BigRegion
import Derived.Deep.RegionHeld3
import Derived.Deep.AppendLies
set_option linter.unusedVariables false
set_option linter.unusedSimpArgs false
namespace Go.Proofs.Ytiojfdgagdofiaa.HP
open Go.RowKit Go.Proofs.Ytiojfdgagdofiaa.HK Go.Proofs.YtiojfdgagdofiaaW.PrintWords Go.Proofs.YtiojfdgagdofiaaW.PrintLast Go.Proofs.YtiojfdgagdofiaaW.PrintMore
variable {w0 w : World} {fs : List FormP} {fv : Value} {vs : Nat → Value} {ls : Nat → List Int}
set_option maxHeartbeats 4000000 in
set_option maxRecDepth 100000 in
theorem take_close_ok (h : IsParser w0 w fs fv vs ls) (t : ByteArray) (n a : Int) (h0 : 0 < (ls 1).length) (hlen : (ls 1).length ≤ 400) :
    Calls Try.prog 42 #[.pointer (some ⟨w0.heap.size, 0, none⟩), .agg #[.int .u8 2, .string t, .int .i64 n, .int .i64 a]] w fun e w' => e = .returned (.tuple #[]) ∧ ∃ vs', IsParser w0 w' fs fv vs' (closeLs ls) := by
  have HH := Lib.hid h
  have H0 := Lib.hid h0
  have HLEN := Lib.hid hlen
  clear h h0 hlen
  go_enter Try.func42, Try.ntmps42
  go_upto_block 0 with (fail)
  obtain ⟨wb, hwb⟩ : ∃ wb, wb = (w.alloc (.cells #[.int .u8 2, .string t, .int .i64 n, .int .i64 a] 37)).alloc (.cells #[.int .u8 2, .string ⟨#[]⟩, .int .i64 0, .slice none 0 0, .int .i64 a] 40) := ⟨_, rfl⟩
  rw [← hwb]
  have hbb : Below w.heap.size w wb := by rw [hwb]; exact ((Below.refl _ w).alloc (Nat.le_refl _) _).alloc (by simp) _
  have HP := Lib.hid (HH.out.moved hbb)
  have HT : Hid (wb.heap[w.heap.size]? = some (.cells #[.int .u8 2, .string t, .int .i64 n, .int .i64 a] 37 (0, 0))) := by rw [hwb]; exact (heap_two' w _ _).1
  have HF : Hid (wb.heap[w.heap.size + 1]? = some (.cells #[.int .u8 2, .string ⟨#[]⟩, .int .i64 0, .slice none 0 0, .int .i64 a] 40 (0, 0))) := by rw [hwb]; exact (heap_two' w _ _).2
  clear hwb hbb
  obtain ⟨t0, t1, t2, t3, _, _, _, _⟩ := tok_cells HT.out
  obtain ⟨A1, c1, hv1⟩ := HP.out.slice 1 (by omega)
  have d2 := HP.out.c2
  rw [hv1] at d2
  have HV1 := Lib.hid hv1
  clear hv1
  obtain ⟨m, hm⟩ : ∃ m, (ls 1).length = m + 1 := ⟨(ls 1).length - 1, by have := H0.out; omega⟩
  rw [hm] at d2
  have HM := Lib.hid hm
  clear hm
  have e0 : decide ((0 : Int) < ((m + 1 : Nat) : Int)) = true := decide_eq_true (by omega)
  have e0' : decide ((0 : Int) < (m : Int) + 1) = true := decide_eq_true (by omega)
  go_wp2_with (fail)
  go_quiet ((go_at_call 43; with_reducible exact Calls.quiet_of_same (need_ok _ _ _)))
  obtain ⟨wc, hwc⟩ : ∃ wc, wc = wb.drewN nq := ⟨_, rfl⟩
  rw [← hwc]
  have hPc : Hid (IsParser w0 wc fs fv vs ls) := by rw [hwc]; exact HP.out.drewN nq
  clear hwc d2 e0 e0'
  obtain ⟨g4, hgc, hA1⟩ : ∃ g4, m ≤ c1 ∧ A1 = some ⟨g4, 0, none⟩ := by
    have hO := hPc.out.2.2.1.1 1 (by omega)
    rw [HV1.out, HM.out] at hO
    rcases hO.2 with ⟨_, h0⟩ | ⟨g4, cap4, cur, e1, _, _, e2, _⟩
    · omega
    · injection e1 with e3 _ e5
      exact ⟨g4, by omega, e3⟩
  have HC := Lib.hid hgc
  have HV2 : Hid (vs 1 = .slice A1 (ls 1).length c1) := HV1
  rw [hA1] at HV2
  have d2 := hPc.out.c2
  have df2 := blk_frozen hPc.out.1 2
  rw [HV1.out, HM.out] at d2
  have hsl : ∀ W, (Instr.slice 24 (.slice A1 (m + 1) c1) none (some (.int .i64 (m : Int))) none).run Try.prog W = .ok (.slice A1 m c1) W := by
    intro W
    rw [hA1, run_slice_h (P := Try.prog) W 24 (some ⟨g4, 0, none⟩) (m + 1) c1 Try.underlying24 .i64 (m : Int) (by omega) (by have := HC.out; omega)]
    rw [show (sizeOf (Try.prog.elem 24)).run Try.prog W = .ok 1 W by simp [go_sem]]
    simp [go_sem, sliced, Result.andThen, Addr.add]
  have hws : IntKind.i64.wrap ((m : Int) + 1 - 1) = (m : Int) := by rw [show (m : Int) + 1 - 1 = (m : Int) by omega]; exact IntWalk.i64_in _ (by have := HLEN.out; have := HM.out; omega)
  have hws2 : IntKind.i64.wrap (m : Int) = (m : Int) := IntWalk.i64_in _ (by have := HLEN.out; have := HM.out; omega)
  go_wp2_with (fail)
  go_still_tail 14, (by kernel_rfl)
  change wpList _ _ _ _ _ wc.drew
  obtain ⟨wd, hwd⟩ : ∃ wd, wd = wc.drew := ⟨_, rfl⟩
  rw [← hwd]
  have hPd : Hid (IsParser w0 wd fs fv vs ls) := by rw [hwd]; exact hPc.out.drewN 1
  clear hwd d2 df2
  have d2 := hPd.out.c2
  have df2 := blk_frozen hPd.out.1 2
  go_wp2
  first
    | go_end0
    | skip
  have hm1 : m ≤ (ls 1).length := by rw [HM.out]; omega
  have hcl := IsParser.closed hPd.out (A := A1) (c := c1) (m := m) HV1.out hm1
  rw [hA1] at hcl
  have hcl' : IsParser w0 (wd.setCell ⟨w0.heap.size, 2, none⟩ (.slice (some ⟨g4, 0, none⟩) m c1)) fs fv (upd vs 1 (.slice (some ⟨g4, 0, none⟩) m c1)) (closeLs ls) := by
    unfold closeLs
    rw [HM.out, show m + 1 - 1 = m by omega]
    exact hcl
  exact bodyPost_ret (v := .tuple #[]) (by simp [results, Try.results42, go_sem]) rfl ⟨rfl, _, hcl'⟩
end Go.Proofs.Ytiojfdgagdofiaa.HP
