/-
Plain laws of orders, toward the statements: 'live', and that From and Number take one another back. No memory here.
-/
import Derived.Test.YtnhhfmmbanimlaaQc
set_option linter.unusedVariables false
set_option linter.unusedSimpArgs false
namespace Go.Proofs.Ytnhhfmmbanimlaa.HQ
open Go.RowKit Go.Proofs.Ytnhhfmmbanimlaa.HK Go.Proofs.Ytnhhfmmbanimlaa.HA Go.Proofs.YtnhhfmmbanimlaaW.PrintWords Go.Proofs.YtnhhfmmbanimlaaW.PrintLast

theorem live_ev : Ev (fun k => reticulelaw02_live.f k) true := by
  refine Ev.of (fun k => reticulelaw02_live.mono k) (k := 10) ?_
  decide +kernel
/-- The order of a number is an order, of so many things, and its number is the number. -/
theorem from_number (n K : Nat) (hn : n ≤ 16) (hK : K < fac n) : rightOf (fromOf n (upTo n) (fac n) K) = true ∧ (fromOf n (upTo n) (fac n) K).length = n ∧ numberOf (fromOf n (upTo n) (fac n) K) 0 = K := by
  have hp := fromOf_perm n (upTo n) K (upTo_len n) hK
  have hl : (fromOf n (upTo n) (fac n) K).length = n := by rw [hp.length_eq, upTo_len]
  refine ⟨?_, hl, ?_⟩
  · rw [right_iff, hl]
    exact ⟨hn, hp⟩
  · rw [numberOf_from n (upTo n) K 0 (upTo_len n) (pairwise_upTo n) hK, Nat.zero_mul, Nat.zero_add]
theorem wf_u8 {x : Int} (h : (Lit.int .u8 x).wf = true) : 0 ≤ x ∧ x ≤ 255 := by
  simpa [Lit.wf, IntKind.min, IntKind.max, IntKind.bits, IntKind.signed] using h
theorem wf_u64 {x : Int} (h : (Lit.int .u64 x).wf = true) : 0 ≤ x ∧ x ≤ 18446744073709551615 := by
  simpa [Lit.wf, IntKind.min, IntKind.max, IntKind.bits, IntKind.signed] using h
end Go.Proofs.Ytnhhfmmbanimlaa.HQ
