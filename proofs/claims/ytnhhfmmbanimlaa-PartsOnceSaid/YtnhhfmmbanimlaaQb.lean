/-
Plain laws of the printed functions of layer perm: they come to what the plain functions say. No memory here.
-/
import Derived.Test.YtnhhfmmbanimlaaHAx3
import Derived.Test.YtnhhfmmbanimlaaQa
set_option linter.unusedVariables false
set_option linter.unusedSimpArgs false
namespace Go.Proofs.Ytnhhfmmbanimlaa.HQ
open Go.RowKit Go.Proofs.Ytnhhfmmbanimlaa.HK Go.Proofs.Ytnhhfmmbanimlaa.HA Go.Proofs.YtnhhfmmbanimlaaW.PrintWords Go.Proofs.YtnhhfmmbanimlaaW.PrintLast

theorem w1 {i : Int} (h0 : -9223372036854775808 ≤ i) (h : i < 9223372036854775807) : wrap64 (i + 1) = i + 1 := by unfold wrap64; omega
theorem w64 {i : Int} (h0 : -9223372036854775808 ≤ i) (h : i ≤ 9223372036854775807) : wrap64 i = i := by unfold wrap64; omega
theorem u64w {i : Int} (h0 : 0 ≤ i) (h : i ≤ 18446744073709551615) : IntKind.u64.wrap i = i := IntWalk.u64_in i ⟨h0, h⟩
theorem rd_nat (l : List Int) (i : Nat) : rd l (i : Int) = l.getD i 0 := by simp [rd]

/-! ### few, and how many orders -/
theorem few_is (l : List Int) : reticulelaw02_few.f l = some (l.take 80) := by
  unfold reticulelaw02_few.f
  by_cases h : (l.length : Int) > 80
  · rw [if_pos h, if_pos (by omega)]
  · rw [if_neg h, List.take_of_length_le (by omega)]
theorem refMany_loop (n : Nat) (hn : n ≤ 16) : ∀ (d i k : Nat), i + d = n → d < k → reticuleref02_Many.l0 k n (fac i : Nat) ((i : Int) + 1) = some ((fac n : Nat) : Int) := by
  intro d
  induction d with
  | zero =>
    intro i k hi hk
    obtain ⟨k, rfl⟩ : ∃ m, k = m + 1 := ⟨k - 1, by omega⟩
    obtain rfl : i = n := by omega
    simp only [reticuleref02_Many.l0]
    rw [if_neg (by omega)]
  | succ d ih =>
    intro i k hi hk
    obtain ⟨k, rfl⟩ : ∃ m, k = m + 1 := ⟨k - 1, by omega⟩
    simp only [reticuleref02_Many.l0]
    rw [if_pos (by omega), u64w (i := (i : Int) + 1) (by omega) (by omega), w1 (by omega) (by omega)]
    have e : (fac i : Int) * ((i : Int) + 1) = ((fac (i + 1) : Nat) : Int) := by simp [fac]
    have hb := fac_le (n := i + 1) (by omega)
    rw [e, u64w (by omega) (by omega)]
    exact ih (i + 1) k (by omega) (by omega)
theorem refMany_ev (a0 : Int) : Ev (fun k => reticuleref02_Many.f k a0) (manyOf a0) := by
  unfold manyOf
  by_cases h : 0 ≤ a0 ∧ a0 ≤ 16
  · rw [if_pos h]
    obtain ⟨n, rfl⟩ := Int.eq_ofNat_of_zero_le h.1
    refine Ev.congr (f := fun k => reticuleref02_Many.j0 k n false) (fun k => ?_) (Ev.step (f := fun k => reticuleref02_Many.l0 k n 1 2) (fun k => ?_) ?_)
    · unfold reticuleref02_Many.f
      rw [if_neg (by omega), decide_eq_false (by omega)]
    · simp only [reticuleref02_Many.j0]
      rw [if_neg (by decide)]
    · refine ⟨n + 2, fun k hk => ?_⟩
      rw [Int.toNat_natCast]
      rcases Nat.eq_zero_or_pos n with h0 | h0
      · subst h0
        obtain ⟨k, rfl⟩ : ∃ m, k = m + 1 := ⟨k - 1, by omega⟩
        simp only [reticuleref02_Many.l0]
        rw [if_neg (by omega)]
        rfl
      · exact refMany_loop n (by omega) (n - 1) 1 k (by omega) (by omega)
  · rw [if_neg h]
    refine Ev.congr (f := fun k => reticuleref02_Many.j0 k a0 true) (fun k => ?_) (Ev.step (f := fun k => some 0) (fun k => ?_) (Ev.now 0))
    · unfold reticuleref02_Many.f
      by_cases h0 : a0 < 0
      · rw [if_pos h0]
      · rw [if_neg h0, decide_eq_true (by omega)]
    · simp only [reticuleref02_Many.j0]
      rw [if_pos trivial]

/-! ### is it an order? -/
/-- The inner round: is the number among those from j on (or was it among those before)? -/
theorem refRight_inner (l : List Int) (hl : l.length ≤ 16) (i : Nat) (R : Bool) (hnext : l.contains (i : Int) = true → Ev (fun k => reticuleref02_Right.l0 k l (wrap64 ((i : Int) + 1))) R) (hno : l.contains (i : Int) = false → R = false) :
    ∀ (d j : Nat), j + d = l.length → Ev (fun k => reticuleref02_Right.l1 k l i ((l.take j).contains (i : Int)) j) R := by
  intro d
  induction d with
  | zero =>
    intro j hj
    have ht : l.take j = l := List.take_of_length_le (by omega)
    rw [ht]
    cases hc : l.contains (i : Int) with
    | true =>
      refine Ev.step (fun k => ?_) (hnext hc)
      simp only [reticuleref02_Right.l1]
      rw [if_neg (by omega), if_pos trivial]
    | false =>
      rw [hno hc]
      refine Ev.step (fun k => ?_) (Ev.now false)
      simp only [reticuleref02_Right.l1]
      rw [if_neg (by omega), if_neg (by decide)]
  | succ d ih =>
    intro j hj
    have hs := ih (j + 1) (by omega)
    refine Ev.step (fun k => ?_) hs
    simp only [reticuleref02_Right.l1]
    have ht : (l.take (j + 1)).contains (i : Int) = ((l.take j).contains (i : Int) || (l.getD j 0 == (i : Int))) := by
      rw [take_snoc (by omega), List.contains_eq_any_beq, List.contains_eq_any_beq, List.any_append]
      simp [Bool.beq_comm]
    rw [if_pos (by omega), ht, w1 (by omega) (by omega)]
    cases hc : (l.take j).contains (i : Int) with
    | true =>
      rw [if_pos rfl, Bool.true_or]
      rfl
    | false =>
      rw [if_neg (by decide), if_pos (by omega), rd_nat, Bool.false_or]
      rfl
theorem refRight_outer (l : List Int) (hl : l.length ≤ 16) (hbelow : ∀ i : Nat, i < l.length → l.contains (i : Int) = false → rightOf l = false) : ∀ (d i : Nat), i + d = l.length → (∀ j : Nat, j < i → l.contains (j : Int) = true) → Ev (fun k => reticuleref02_Right.l0 k l i) (rightOf l) := by
  intro d
  induction d with
  | zero =>
    intro i hi hall
    have hr : rightOf l = true := right_of_all hl (fun j hj => by have := hall j (by omega); simpa using this)
    rw [hr]
    refine Ev.step (fun k => ?_) (Ev.now true)
    simp only [reticuleref02_Right.l0]
    rw [if_neg (by omega)]
  | succ d ih =>
    intro i hi hall
    have hin := refRight_inner l hl i (rightOf l) (fun hc => by
      rw [w1 (by omega) (by omega)]
      exact ih (i + 1) (by omega) (fun j hj => by
        rcases Nat.lt_or_ge j i with h | h
        · exact hall j h
        · obtain rfl : j = i := by omega
          exact hc)) (fun hc => hbelow i (by omega) hc) l.length 0 (by omega)
    refine Ev.step (fun k => ?_) hin
    simp only [reticuleref02_Right.l0]
    rw [if_pos (by omega)]
    rfl
theorem refRight_ev (l : List Int) : Ev (fun k => reticuleref02_Right.f k l) (rightOf l) := by
  by_cases h : (l.length : Int) > 16
  · rw [rightOf_long (by omega)]
    refine Ev.congr (fun k => ?_) (Ev.now false)
    unfold reticuleref02_Right.f
    rw [if_pos h]
  · refine Ev.congr (fun k => ?_) (refRight_outer l (by omega) (fun i hi hc => ?_) l.length 0 (by omega) (fun j hj => by omega))
    · unfold reticuleref02_Right.f
      rw [if_neg h]
      rfl
    · cases hr : rightOf l with
      | false => rfl
      | true =>
        have := all_of_right hr hi
        simp [this] at hc
end Go.Proofs.Ytnhhfmmbanimlaa.HQ
