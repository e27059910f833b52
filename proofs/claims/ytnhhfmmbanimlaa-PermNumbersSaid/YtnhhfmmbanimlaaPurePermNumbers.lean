/-
PermNumbers: the order of a number, an order's number, whether numbers are an order, and how many orders there are: just what the document's own functions say.
For every number of things, every number, and every row.
-/
import Derived.Test.YtnhhfmmbanimlaaHAx4
import Derived.Test.YtnhhfmmbanimlaaQd
set_option linter.unusedVariables false
namespace Go.Proofs.Ytnhhfmmbanimlaa.Pure
open Go.RowKit Go.Proofs.Ytnhhfmmbanimlaa.HK Go.Proofs.Ytnhhfmmbanimlaa.HQ Go.Proofs.Ytnhhfmmbanimlaa.HA Go.Proofs.YtnhhfmmbanimlaaW.PrintWords Go.Proofs.YtnhhfmmbanimlaaW.PrintLast

theorem from_len {a0 a1 : Int} {r : List Int × Int} (h : perm_From.f a0 a1 = some r) : r.1.length ≤ 16 := by
  unfold perm_From.f at h
  split at h
  case isFalse => cases h
  case isTrue h1 =>
    split at h
    case isFalse => 
      obtain rfl := Option.some.inj h
      exact Nat.zero_le _
    case isTrue h2 =>
      obtain rfl := Option.some.inj h
      obtain ⟨n, rfl⟩ := Int.eq_ofNat_of_zero_le h2.1
      have := (from_number n (a1.toNat % fac n) (by omega) (Nat.mod_lt _ (fac_pos n))).2.1
      show (fromOf n (upTo n) (fac n) (a1.toNat % fac n)).length ≤ 16
      omega
theorem PermNumbers : reticulelaw02_PermNumbers.Pure := by
  intro a0 a1 l h0 h1 _ _ _
  obtain ⟨h1a, h1b⟩ := wf_u64 h1
  obtain ⟨r, hf, hrf⟩ := refFrom_ev a0 a1 h1a h1b
  obtain ⟨q, hN, hrN⟩ := refNumber_ev (l.take 80)
  have hlen := from_len hf
  have hR : perm_Right.f (l.take 80) = some (rightOf (l.take 80)) := rfl
  have hM : perm_Many.f a0 = some (manyOf a0) := rfl
  apply Ev.rounds
  unfold reticulelaw02_PermNumbers.f
  simp only [hf, hN, few_is, hR, hM, Option.bind_some]
  refine Ev.bind hrf ?_
  refine Ev.bind hrN ?_
  refine Ev.bind live_ev ?_
  simp only [if_true]
  refine Ev.bind (same_ev r.1 (by omega)) ?_
  simp only [if_true]
  refine Ev.bind (refRight_ev _) ?_
  simp only [beq_self_eq_true, if_true]
  refine Ev.bind (refMany_ev a0) ?_
  simp only [beq_self_eq_true]
  exact Ev.now true

end Go.Proofs.Ytnhhfmmbanimlaa.Pure
