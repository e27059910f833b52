/-
Plain laws of orders: Turn by Back takes Turn back; one behind another one is both. No memory here.
-/
import Derived.Test.YtnhhfmmbanimlaaQe
set_option linter.unusedVariables false
set_option linter.unusedSimpArgs false
namespace Go.Proofs.Ytnhhfmmbanimlaa.HQ
open Go.RowKit Go.Proofs.Ytnhhfmmbanimlaa.HK Go.Proofs.Ytnhhfmmbanimlaa.HA Go.Proofs.YtnhhfmmbanimlaaW.PrintWords Go.Proofs.YtnhhfmmbanimlaaW.PrintLast

theorem backStep_at (p : List Int) (hr : rightOf p = true) : ∀ (d i : Nat) (out : List Int), i + d = p.length → out.length = p.length → (∀ j : Nat, j < i → out.getD (rd p (j : Int)).toNat 0 = (j : Int)) →
    ∀ j : Nat, j < p.length → (backStep p i d out).getD (rd p (j : Int)).toNat 0 = (j : Int) := by
  obtain ⟨_, hin, hnd⟩ := rightOf_ok hr
  intro d
  induction d with
  | zero => intro i out hi ho hall j hj; exact hall j (by omega)
  | succ d ih =>
    intro i out hi ho hall
    rw [backStep]
    refine ih (i + 1) _ (by omega) (by rw [List.length_set]; exact ho) (fun j hj => ?_)
    obtain ⟨hb0, hb1⟩ := right_rd hr (i := i) (by omega)
    rw [List.getD_eq_getElem?_getD, List.getElem?_set]
    by_cases e : i = j
    · subst e
      rw [if_pos rfl, if_pos (by omega)]
      rfl
    · have hne : (rd p (i : Int)).toNat ≠ (rd p (j : Int)).toNat := by
        obtain ⟨hc0, hc1⟩ := right_rd hr (i := j) (by omega)
        intro h
        have h2 : rd p (i : Int) = rd p (j : Int) := by omega
        rw [rd_nat, rd_nat, List.getD_eq_getElem?_getD, List.getD_eq_getElem?_getD, List.getElem?_eq_getElem (show i < p.length by omega), List.getElem?_eq_getElem (show j < p.length by omega)] at h2
        have hj' : j < i := by omega
        exact (List.pairwise_iff_getElem.1 hnd) j i (by omega) (by omega) hj' h2.symm
      rw [if_neg hne]
      have := hall j (by omega)
      rwa [List.getD_eq_getElem?_getD] at this
theorem back_facts (p : List Int) (hr : rightOf p = true) : (backOf p).1.length = p.length ∧ rightOf (backOf p).1 = true ∧ ∀ j : Nat, j < p.length → (backOf p).1.getD (rd p (j : Int)).toNat 0 = (j : Int) := by
  have h16 := (rightOf_ok hr).1
  have hl : (backOf p).1.length = p.length := by unfold backOf; rw [if_pos hr]; show (backStep p 0 p.length (List.replicate p.length 0)).length = _; rw [backStep_len, List.length_replicate]
  have ha : ∀ j : Nat, j < p.length → (backOf p).1.getD (rd p (j : Int)).toNat 0 = (j : Int) := by
    unfold backOf
    rw [if_pos hr]
    exact backStep_at p hr p.length 0 _ (by omega) (by simp) (fun j hj => by omega)
  refine ⟨hl, right_of_all (by omega) (fun i hi => ?_), ha⟩
  rw [← ha i (by omega)]
  obtain ⟨hb0, hb1⟩ := right_rd hr (i := i) (by omega)
  rw [List.getD_eq_getElem?_getD, List.getElem?_eq_getElem (by omega)]
  exact List.getElem_mem _
theorem turned_len (p l : List Int) : (turned p l).length = p.length := by rw [turned, List.length_map]
theorem rd_turned {p l : List Int} {i : Nat} (h : i < p.length) : rd (turned p l) (i : Int) = rd l (rd p (i : Int)) := by
  rw [rd_nat, rd_nat, turned, List.getD_eq_getElem?_getD, List.getElem?_map, List.getElem?_eq_getElem h, List.getD_eq_getElem?_getD, List.getElem?_eq_getElem h]
  rfl
theorem ext_rd {a b : List Int} (hl : a.length = b.length) (h : ∀ i : Nat, i < a.length → rd a (i : Int) = rd b (i : Int)) : a = b := by
  apply List.ext_getElem hl
  intro i h1 h2
  have := h i h1
  rwa [rd_nat, rd_nat, List.getD_eq_getElem?_getD, List.getD_eq_getElem?_getD, List.getElem?_eq_getElem h1, List.getElem?_eq_getElem h2] at this
/-- Turn by Back takes Turn back. -/
theorem turn_undone (p l : List Int) (hr : rightOf p = true) (hl : l.length = p.length) : turned (backOf p).1 (turned p l) = l := by
  obtain ⟨hbl, hbr, hb⟩ := back_facts p hr
  refine ext_rd (by rw [turned_len, hbl, hl]) (fun j hj => ?_)
  rw [turned_len, hbl] at hj
  -- the place i at which p has j
  have hmem := all_of_right hr hj
  obtain ⟨i, hi, e⟩ := List.mem_iff_getElem.1 hmem
  have er : rd p (i : Int) = (j : Int) := by rw [rd_nat, List.getD_eq_getElem?_getD, List.getElem?_eq_getElem hi]; exact e
  have := hb i hi
  rw [er, Int.toNat_natCast] at this
  rw [rd_turned (by omega), rd_nat (backOf p).1, this, rd_turned hi, er]
/-- One behind another one is both. -/
theorem then_both (p q l : List Int) (hp : rightOf p = true) (hq : rightOf q = true) (hl : q.length = p.length) : turned (turned q p) l = turned q (turned p l) := by
  refine ext_rd (by rw [turned_len, turned_len, turned_len]) (fun i hi => ?_)
  rw [turned_len, turned_len] at hi
  obtain ⟨hb0, hb1⟩ := right_rd hq (i := i) hi
  obtain ⟨m, hm⟩ := Int.eq_ofNat_of_zero_le hb0
  rw [rd_turned (by rw [turned_len]; exact hi), rd_turned hi, rd_turned hi, hm, rd_turned (by omega)]
theorem then_right (p q : List Int) (hp : rightOf p = true) (hq : rightOf q = true) (hl : q.length = p.length) : rightOf (turned q p) = true := by
  have h16 := (rightOf_ok hq).1
  refine right_of_all (by rw [turned_len]; exact h16) (fun i hi => ?_)
  rw [turned_len] at hi
  have hmem := all_of_right hp (i := i) (by omega)
  obtain ⟨j, hj, e⟩ := List.mem_iff_getElem.1 hmem
  have hmem2 := all_of_right hq (i := j) (by omega)
  rw [turned, List.mem_map]
  refine ⟨(j : Int), hmem2, ?_⟩
  rw [rd_nat, List.getD_eq_getElem?_getD, List.getElem?_eq_getElem hj]
  exact e
end Go.Proofs.Ytnhhfmmbanimlaa.HQ
