/-
Plain laws of the document's own functions for orders: the order of a number, an order's number. No memory here.
-/
import Derived.Test.YtnhhfmmbanimlaaQb
import Derived.Test.YtnhhfmmbanimlaaHAx4
set_option linter.unusedVariables false
set_option linter.unusedSimpArgs false
namespace Go.Proofs.Ytnhhfmmbanimlaa.HQ
open Go.RowKit Go.Proofs.Ytnhhfmmbanimlaa.HK Go.Proofs.Ytnhhfmmbanimlaa.HA Go.Proofs.YtnhhfmmbanimlaaW.PrintWords Go.Proofs.YtnhhfmmbanimlaaW.PrintLast

theorem refFrom_l1 : ∀ (r : Nat) (left out : List Int) (K : Nat), left.length = r → r ≤ 16 → K < fac r → out.length + r ≤ 16 → ∀ k, r < k → reticuleref02_From.l1 k K (fac r : Nat) left out = some (out ++ fromOf r left (fac r) K, 0) := by
  intro r
  induction r with
  | zero =>
    intro left out K hl hr hK ho k hk
    obtain ⟨k, rfl⟩ : ∃ m, k = m + 1 := ⟨k - 1, by omega⟩
    simp only [reticuleref02_From.l1]
    rw [if_neg (by omega), fromOf, List.append_nil]
  | succ r ih =>
    intro left out K hl hr hK ho k hk
    obtain ⟨k, rfl⟩ : ∃ m, k = m + 1 := ⟨k - 1, by omega⟩
    simp only [reticuleref02_From.l1]
    have hp := fac_pos r
    have hi := pick_lt hK
    have hfl := fac_le (n := r + 1) hr
    have hfr := fac_le (n := r) (by omega)
    have e1 : IntKind.u64.wrap (left.length : Int) = ((r + 1 : Nat) : Int) := by rw [hl]; exact u64w (by omega) (by omega)
    have e2 : IntKind.u64.wrap (Int.tdiv ((fac (r + 1) : Nat) : Int) ((r + 1 : Nat) : Int)) = ((fac r : Nat) : Int) := by
      rw [show Int.tdiv ((fac (r + 1) : Nat) : Int) ((r + 1 : Nat) : Int) = ((fac (r + 1) / (r + 1) : Nat) : Int) from rfl, fac_quot]
      exact u64w (by omega) (by omega)
    have e3 : IntKind.u64.wrap (Int.tdiv (K : Int) ((fac r : Nat) : Int)) = ((K / fac r : Nat) : Int) := by
      rw [show Int.tdiv (K : Int) ((fac r : Nat) : Int) = ((K / fac r : Nat) : Int) from rfl]
      exact u64w (Int.natCast_nonneg _) (Int.le_trans (Int.ofNat_le.2 (Nat.div_le_self K (fac r))) (by omega))
    have e4 : Int.tmod (K : Int) ((fac r : Nat) : Int) = ((K % fac r : Nat) : Int) := rfl
    rw [e1, e2, e3]
    generalize hI : K / fac r = I at *
    rw [if_pos (by omega), if_neg (by omega), if_neg (by omega), if_pos (by omega), if_pos (by omega), if_pos (by omega)]
    simp only [Option.bind_some]
    rw [if_pos (by omega)]
    have e5 : IntKind.u64.wrap ((I : Int) + 1) = ((I + 1 : Nat) : Int) := u64w (by omega) (by omega)
    simp only [Option.bind_some, Int.toNat_natCast, List.nil_append, e5]
    have ht : (left.take I).length ≤ 16 := by rw [List.length_take]; omega
    have hd : (left.drop (I + 1)).length ≤ 16 := by rw [List.length_drop]; omega
    rw [if_pos (by rw [List.length_nil]; omega), if_pos (by omega), if_pos (by omega), if_pos (by omega), e4, rd_nat]
    rw [← List.eraseIdx_eq_take_drop_succ]
    rw [ih (left.eraseIdx I) (out ++ [left.getD I 0]) (K % fac r) (by rw [List.length_eraseIdx, if_pos (by omega)]; omega) (by omega) (Nat.mod_lt _ hp) (by rw [List.length_append, List.length_singleton]; omega) k (by omega)]
    rw [fromOf_step, hI]
    simp
theorem refFrom_l0 (n K : Nat) (hn : n ≤ 16) (hK : K < fac n) : ∀ (d i : Nat), i + d = n → ∀ k, d + n + 2 ≤ k → reticuleref02_From.l0 k n K (fac n : Nat) (upTo i) i = some (fromOf n (upTo n) (fac n) K, 0) := by
  intro d
  induction d with
  | zero =>
    intro i hi k hk
    obtain ⟨k, rfl⟩ : ∃ m, k = m + 1 := ⟨k - 1, by omega⟩
    obtain rfl : i = n := by omega
    simp only [reticuleref02_From.l0]
    rw [if_neg (by omega), refFrom_l1 i (upTo i) [] K (upTo_len i) hn hK (by simp; omega) k (by omega)]
    rfl
  | succ d ih =>
    intro i hi k hk
    obtain ⟨k, rfl⟩ : ∃ m, k = m + 1 := ⟨k - 1, by omega⟩
    simp only [reticuleref02_From.l0]
    rw [if_pos (by omega), if_pos (by rw [upTo_len]; omega), w1 (by omega) (by omega)]
    rw [show upTo i ++ [(i : Int)] = upTo (i + 1) by simp [upTo, List.range_succ]]
    exact ih (i + 1) (by omega) k (by omega)
/-- Both tell the order of a number alike. -/
theorem refFrom_ev (a0 a1 : Int) (h0 : 0 ≤ a1) (h1 : a1 ≤ 18446744073709551615) : ∃ r : List Int × Int, perm_From.f a0 a1 = some r ∧ Ev (fun k => reticuleref02_From.f k a0 a1) r := by
  unfold perm_From.f
  rw [if_pos ⟨h0, h1⟩]
  by_cases h : 0 ≤ a0 ∧ a0 ≤ 16
  · rw [if_pos h]
    refine ⟨_, rfl, ?_⟩
    obtain ⟨n, rfl⟩ := Int.eq_ofNat_of_zero_le h.1
    obtain ⟨K, rfl⟩ := Int.eq_ofNat_of_zero_le h0
    have hp := fac_pos n
    have hm : manyOf (n : Int) = ((fac n : Nat) : Int) := by unfold manyOf; rw [if_pos h]; rfl
    refine Ev.bind (refMany_ev n) ?_
    rw [hm]
    refine Ev.congr (f := fun k => reticuleref02_From.l0 k n ((K % fac n : Nat) : Int) (fac n : Nat) (upTo 0) 0) (fun k => ?_) ⟨n + n + 2, fun k hk => refFrom_l0 n (K % fac n) (by omega) (Nat.mod_lt _ hp) n 0 (by omega) k hk⟩
    rw [if_neg (by omega)]
    rfl
  · rw [if_neg h]
    refine ⟨_, rfl, ?_⟩
    have hm : manyOf a0 = 0 := by unfold manyOf; rw [if_neg h]
    refine Ev.bind (refMany_ev a0) ?_
    rw [hm]
    exact Ev.congr (fun k => by rw [if_pos rfl]) (Ev.now _)

/-! ### an order's number -/
/-- How many of the numbers from place j on stand below x. -/
def belowIn (x : Int) (l : List Int) : Nat := (l.filter (fun y => decide (y < x))).length
theorem belowIn_le (x : Int) (l : List Int) : belowIn x l ≤ l.length := List.length_filter_le _ _
theorem belowIn_cons (x y : Int) (l : List Int) : belowIn x (y :: l) = (if y < x then 1 else 0) + belowIn x l := by
  unfold belowIn
  rw [List.filter_cons]
  by_cases h : y < x
  · rw [if_pos (by simpa using h), if_pos h, List.length_cons, Nat.add_comm]
  · rw [if_neg (by simpa using h), if_neg h, Nat.zero_add]
theorem drop_cons {l : List Int} {k : Nat} (hk : k < l.length) : l.drop k = l.getD k 0 :: l.drop (k + 1) := by
  rw [List.drop_eq_getElem_cons hk, List.getD_eq_getElem?_getD, List.getElem?_eq_getElem hk]
  rfl
theorem refNumber_inner (l : List Int) (hl : l.length ≤ 16) (i n : Nat) (hi : i < l.length) (R : Int × Int) (hR : Ev (fun k => (reticuleref02_Many.f k (wrap64 ((wrap64 ((l.length : Int) - 1)) - (i : Int)))).bind fun t => reticuleref02_Number.l0 k l (IntKind.u64.wrap ((n : Int) + (IntKind.u64.wrap ((IntKind.u64.wrap ((belowIn (l.getD i 0) (l.drop (i + 1)) : Nat) : Int)) * t)))) (wrap64 ((i : Int) + 1))) R) :
    ∀ (d j c : Nat), j + d = l.length → i < j → c + belowIn (l.getD i 0) (l.drop j) = belowIn (l.getD i 0) (l.drop (i + 1)) → Ev (fun k => reticuleref02_Number.l1 k l n i c j) R := by
  intro d
  induction d with
  | zero =>
    intro j c hj hij hc
    refine Ev.step (fun k => ?_) hR
    simp only [reticuleref02_Number.l1]
    rw [List.drop_of_length_le (by omega)] at hc
    rw [if_neg (by omega), ← hc]
    rfl
  | succ d ih =>
    intro j c hj hij hc
    rw [drop_cons (by omega), belowIn_cons] at hc
    have hb := belowIn_le (l.getD i 0) (l.drop (i + 1))
    rw [List.length_drop] at hb
    by_cases hlt : l.getD j 0 < l.getD i 0
    · rw [if_pos hlt] at hc
      refine Ev.step (fun k => ?_) (ih (j + 1) (c + 1) (by omega) (by omega) (by omega))
      simp only [reticuleref02_Number.l1]
      rw [if_pos (by omega), if_pos (by omega), if_pos (by omega), if_pos (by omega), rd_nat, rd_nat, if_pos hlt, w1 (by omega) (by omega), w1 (by omega) (by omega)]
      rfl
    · rw [if_neg hlt] at hc
      refine Ev.step (fun k => ?_) (ih (j + 1) c (by omega) (by omega) (by omega))
      simp only [reticuleref02_Number.l1]
      rw [if_pos (by omega), if_pos (by omega), if_pos (by omega), if_pos (by omega), rd_nat, rd_nat, if_neg hlt, w1 (by omega) (by omega)]
      rfl
theorem sumOf_drop {l : List Int} {i : Nat} (hi : i < l.length) : sumOf (l.drop i) = belowIn (l.getD i 0) (l.drop (i + 1)) * fac (l.length - (i + 1)) + sumOf (l.drop (i + 1)) := by
  rw [drop_cons hi, sumOf, List.length_drop]
  rfl
theorem refNumber_outer (l : List Int) (hl : l.length ≤ 16) : ∀ (d i n : Nat), i + d = l.length → n + sumOf (l.drop i) = sumOf l → Ev (fun k => reticuleref02_Number.l0 k l n i) ((sumOf l : Nat), 0) := by
  intro d
  induction d with
  | zero =>
    intro i n hi hn
    rw [List.drop_of_length_le (by omega)] at hn
    refine Ev.step (fun k => ?_) (Ev.now (((sumOf l : Nat) : Int), (0 : Int)))
    simp only [reticuleref02_Number.l0]
    rw [if_neg (by omega), ← hn]
    rfl
  | succ d ih =>
    intro i n hi hn
    have hs := sumOf_drop (l := l) (i := i) (by omega)
    have hlt := sumOf_lt l
    have hf := fac_le hl
    have hb := belowIn_le (l.getD i 0) (l.drop (i + 1))
    rw [List.length_drop] at hb
    refine Ev.step (fun k => ?_) (refNumber_inner l hl i n (by omega) ((sumOf l : Nat), 0) ?_ (l.length - (i + 1)) (i + 1) 0 (by omega) (by omega) (by omega))
    · simp only [reticuleref02_Number.l0]
      rw [if_pos (by omega), w1 (by omega) (by omega)]
      rfl
    · have e0 : wrap64 ((wrap64 ((l.length : Int) - 1)) - (i : Int)) = ((l.length - (i + 1) : Nat) : Int) := by unfold wrap64; omega
      rw [e0]
      refine Ev.bind (refMany_ev _) ?_
      have hm : manyOf ((l.length - (i + 1) : Nat) : Int) = ((fac (l.length - (i + 1)) : Nat) : Int) := by unfold manyOf; rw [if_pos (by omega)]; rfl
      rw [hm]
      have hfr := fac_le (n := l.length - (i + 1)) (by omega)
      generalize belowIn (l.getD i 0) (l.drop (i + 1)) = c at *
      generalize fac (l.length - (i + 1)) = F at *
      have e1 : IntKind.u64.wrap (c : Int) = (c : Int) := u64w (by omega) (by omega)
      have e2 : IntKind.u64.wrap ((c : Int) * (F : Int)) = ((c * F : Nat) : Int) := by
        rw [← Int.natCast_mul]
        exact u64w (by omega) (by omega)
      have e3 : IntKind.u64.wrap ((n : Int) + ((c * F : Nat) : Int)) = ((n + c * F : Nat) : Int) := by
        rw [← Int.natCast_add]
        exact u64w (by omega) (by omega)
      rw [e1, e2, e3, w1 (by omega) (by omega)]
      exact ih (i + 1) (n + c * F) (by omega) (by omega)
theorem refNumber_ev (l : List Int) : ∃ r : Int × Int, perm_Number.f l = some r ∧ Ev (fun k => reticuleref02_Number.f k l) r := by
  unfold perm_Number.f
  cases hr : rightOf l with
  | false =>
    refine ⟨_, if_neg (by simp), ?_⟩
    refine Ev.bind (refRight_ev l) ?_
    rw [hr]
    exact Ev.congr (fun k => by rw [if_neg (by decide)]) (Ev.now _)
  | true =>
    obtain ⟨h1, h2, h3⟩ := rightOf_ok hr
    refine ⟨_, if_pos rfl, ?_⟩
    refine Ev.bind (refRight_ev l) ?_
    rw [hr]
    have := numberOf_sum l 0 h3
    rw [Nat.zero_mul, Nat.zero_add] at this
    rw [this]
    exact Ev.congr (fun k => by rw [if_pos rfl]; rfl) (refNumber_outer l h1 l.length 0 0 (by omega) (by simp))

/-! ### are numbers the same? -/
theorem same_loop (l : List Int) (hl : l.length ≤ 9223372036854775807) : ∀ (d i : Nat), i + d = l.length → Ev (fun k => reticuleref01_SameInts.l0 k l l i) true := by
  intro d
  induction d with
  | zero =>
    intro i hi
    refine Ev.step (fun k => ?_) (Ev.now true)
    simp only [reticuleref01_SameInts.l0]
    rw [if_neg (by omega)]
  | succ d ih =>
    intro i hi
    refine Ev.step (fun k => ?_) (ih (i + 1) (by omega))
    simp only [reticuleref01_SameInts.l0]
    rw [if_pos (by omega), if_pos (by omega), if_pos (by omega), if_pos trivial, w1 (by omega) (by omega)]
    rfl
theorem same_ev (l : List Int) (hl : l.length ≤ 9223372036854775807) : Ev (fun k => reticuleref01_SameInts.f k l l) true :=
  Ev.congr (fun k => by unfold reticuleref01_SameInts.f; rw [if_pos rfl]; rfl) (same_loop l hl l.length 0 (by omega))
end Go.Proofs.Ytnhhfmmbanimlaa.HQ
