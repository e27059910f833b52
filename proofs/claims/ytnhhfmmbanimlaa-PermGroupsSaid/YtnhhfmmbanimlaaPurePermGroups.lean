/-
PermGroups: rows, one behind the other, are the things; none is empty.
For every row of things (the first 80 of them), and every cuts.
-/
import Derived.Test.YtnhhfmmbanimlaaHAx5
import Derived.Test.YtnhhfmmbanimlaaQf
set_option linter.unusedVariables false
namespace Go.Proofs.Ytnhhfmmbanimlaa.Pure
open Go.RowKit Go.Proofs.Ytnhhfmmbanimlaa.HK Go.Proofs.Ytnhhfmmbanimlaa.HQ Go.Proofs.Ytnhhfmmbanimlaa.HA Go.Proofs.YtnhhfmmbanimlaaW.PrintWords Go.Proofs.YtnhhfmmbanimlaaW.PrintLast

theorem groups_law (l : List Int) (hl : l.length ≤ 80) (rows : List (List Int)) (hj : rows.flatten = l) (hne : ∀ r ∈ rows, r ≠ []) (hn : rows.length ≤ l.length) : ∀ (d i : Nat), i + d = rows.length →
    Ev (fun k => reticulelaw02_PermGroups.l0 k l (rows.take i).flatten rows i) true := by
  intro d
  induction d with
  | zero =>
    intro i hi
    have ht : rows.take i = rows := List.take_of_length_le (by omega)
    rw [ht, hj]
    refine Ev.step (f := fun k => (reticulelaw02_live.f k).bind fun t => if t = true then ((reticuleref01_SameInts.f k l l).bind fun u => if u = true then (if (l.length : Int) > 0 then some true else some ((rows.length : Int) == 0)) else some false) else some false) (fun k => ?_) ?_
    · simp only [reticulelaw02_PermGroups.l0]
      rw [if_neg (by omega)]
    · refine Ev.bind live_ev ?_
      simp only [if_true]
      refine Ev.bind (same_ev l (by omega)) ?_
      simp only [if_true]
      by_cases h0 : (l.length : Int) > 0
      · rw [if_pos h0]
        exact Ev.now true
      · rw [if_neg h0]
        have e : ((rows.length : Int) == 0) = true := beq_iff_eq.2 (by omega)
        rw [e]
        exact Ev.now true
  | succ d ih =>
    intro i hi
    have hm : rows.getD i [] ∈ rows := by rw [List.getD_eq_getElem?_getD, List.getElem?_eq_getElem (by omega)]; exact List.getElem_mem _
    have hr := hne _ hm
    have hr0 : 0 < (rows.getD i []).length := List.length_pos_iff.2 hr
    have hsn : rows.take (i + 1) = rows.take i ++ [rows.getD i []] := by
      rw [List.take_succ_eq_append_getElem (by omega), List.getD_eq_getElem?_getD, List.getElem?_eq_getElem (by omega)]
      rfl
    have hfl : (rows.take i).flatten ++ rows.getD i [] = (rows.take (i + 1)).flatten := by rw [hsn, List.flatten_append]; simp
    have hle : (rows.take (i + 1)).flatten.length ≤ 80 := by
      have e : (rows.take (i + 1)).flatten ++ (rows.drop (i + 1)).flatten = l := by rw [← List.flatten_append, List.take_append_drop, hj]
      have := congrArg List.length e
      rw [List.length_append] at this
      omega
    refine Ev.step (fun k => ?_) (ih (i + 1) (by omega))
    simp only [reticulelaw02_PermGroups.l0]
    rw [if_pos (by omega), if_pos (by omega), rd_rows, if_neg (show ¬ (((rows.getD i []).length : Int) = 0) by omega), hfl, if_pos (show (rows.take i).flatten.length + (rows.getD i []).length < 17592186044416 by rw [← List.length_append, hfl]; omega), w1 (by omega) (by omega)]
    rfl
theorem PermGroups : reticulelaw02_PermGroups.Pure := by
  intro l0 a1 _ _ _ h1
  obtain ⟨h1a, h1b⟩ := wf_u64 h1
  obtain ⟨c, rfl⟩ := Int.eq_ofNat_of_zero_le h1a
  have hl : (l0.take 80).length ≤ 80 := List.length_take_le _ _
  obtain ⟨hj, hne, hn⟩ := rowsOf_join (l0.take 80) c
  apply Ev.rounds
  unfold reticulelaw02_PermGroups.f
  simp only [few_is, Option.bind_some]
  refine Ev.bind (groups_ev (l0.take 80) c hl (by omega)) ?_
  exact groups_law _ hl _ hj hne hn _ 0 (Nat.zero_add _)

end Go.Proofs.Ytnhhfmmbanimlaa.Pure
