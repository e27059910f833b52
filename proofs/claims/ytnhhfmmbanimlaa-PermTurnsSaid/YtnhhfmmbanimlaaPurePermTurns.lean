/-
PermTurns: things in an order, the order that takes one back, one behind another one, rows: just what the document's own functions say.
For every two rows (the first 80 of each), and every cuts.
-/
import Derived.Test.YtnhhfmmbanimlaaHAx7
import Derived.Test.YtnhhfmmbanimlaaQf
set_option linter.unusedVariables false
namespace Go.Proofs.Ytnhhfmmbanimlaa.Pure
open Go.RowKit Go.Proofs.Ytnhhfmmbanimlaa.HK Go.Proofs.Ytnhhfmmbanimlaa.HQ Go.Proofs.Ytnhhfmmbanimlaa.HA Go.Proofs.YtnhhfmmbanimlaaW.PrintWords Go.Proofs.YtnhhfmmbanimlaaW.PrintLast

theorem PermTurns : reticulelaw02_PermTurns.Pure := by
  intro l0 l1 a2 _ _ _ _ _ _ h1
  obtain ⟨h1a, h1b⟩ := wf_u64 h1
  obtain ⟨c, rfl⟩ := Int.eq_ofNat_of_zero_le h1a
  have hl : (l1.take 80).length ≤ 80 := List.length_take_le _ _
  apply Ev.rounds
  unfold reticulelaw02_PermTurns.f
  simp only [few_is, Option.bind_some]
  generalize l0.take 80 = p at *
  generalize l1.take 80 = q at *
  have h1 := turnOf_len p q
  have h2 := backOf_len p
  have h3 := thenOf_len p q
  obtain ⟨hj, hne, hn⟩ := rowsOf_join q c
  refine Ev.bind (turn_ev p q) ?_
  refine Ev.bind (refTurn_ev p q) ?_
  refine Ev.bind (back_ev p) ?_
  refine Ev.bind (refBack_ev p) ?_
  refine Ev.bind (then_ev p q) ?_
  refine Ev.bind (refThen_ev p q) ?_
  refine Ev.bind live_ev ?_
  simp only [if_true]
  refine Ev.bind (same_ev _ (by omega)) ?_
  simp only [if_true]
  refine Ev.bind (same_ev _ (by omega)) ?_
  simp only [if_true]
  refine Ev.bind (same_ev _ (by omega)) ?_
  simp only [if_true]
  refine Ev.bind (groups_ev q c hl (by omega)) ?_
  refine Ev.bind (refGroups_ev q c hl (by omega)) ?_
  refine Ev.bind (sameRows_ev _ (by omega) (fun r hr => ?_)) (Ev.now true)
  have hs : r.length ≤ (rowsOf q c).flatten.length := by
    obtain ⟨s, t, e⟩ := List.append_of_mem hr
    rw [e, List.flatten_append, List.flatten_cons, List.length_append, List.length_append]
    omega
  rw [hj] at hs
  omega

end Go.Proofs.Ytnhhfmmbanimlaa.Pure
