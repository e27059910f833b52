/-
Plain functions for layer perm: how many orders, the order of a number, an order's number, what is an order. No program here.
-/
set_option linter.unusedVariables false
set_option linter.unusedSimpArgs false
namespace Go.Proofs.Ytnhhfmmbanimlaa.HK

def fac : Nat → Nat
  | 0 => 1
  | n + 1 => fac n * (n + 1)
def manyOf (n : Int) : Int := if 0 ≤ n ∧ n ≤ 16 then (fac n.toNat : Int) else 0
theorem fac_pos : ∀ n, 0 < fac n
  | 0 => Nat.one_pos
  | n + 1 => Nat.mul_pos (fac_pos n) (Nat.succ_pos n)
theorem fac_mono {a : Nat} : ∀ {b : Nat}, a ≤ b → fac a ≤ fac b := by
  intro b h
  induction h with
  | refl => exact Nat.le_refl _
  | step _ ih => exact Nat.le_trans ih (Nat.le_mul_of_pos_right _ (Nat.succ_pos _))
theorem fac_le {n : Nat} (h : n ≤ 16) : fac n ≤ 20922789888000 := Nat.le_trans (fac_mono h) (by decide)
def rightOf (l : List Int) : Bool := decide (l.length ≤ 16) && l.all (fun x => decide (0 ≤ x) && decide (x < l.length)) && decide l.Nodup
/-- The order of a number: what is left, how many orders what is left has, the number. -/
def fromOf : Nat → List Int → Nat → Nat → List Int
  | 0, _, _, _ => []
  | r + 1, left, many, k => left.getD (k / (many / (r + 1))) 0 :: fromOf r (left.eraseIdx (k / (many / (r + 1)))) (many / (r + 1)) (k % (many / (r + 1)))
def upTo (n : Nat) : List Int := (List.range n).map (fun i : Nat => (i : Int))
def lessIn (x : Int) (l : List Int) : Nat := (l.filter (fun y => decide (y ≤ x))).length
/-- An order's number, by Horner. -/
def numberOf : List Int → Nat → Nat
  | [], n => n
  | x :: l, n => numberOf l (n * (l.length + 1) + lessIn x l)

/-! ### what is an order, step by step -/
theorem rightOf_long {l : List Int} (h : 16 < l.length) : rightOf l = false := by
  unfold rightOf
  rw [decide_eq_false (by omega)]
  rfl
theorem rightOf_false_range {l : List Int} {k : Nat} (hk : k < l.length) (h : ¬ (0 ≤ l.getD k 0 ∧ l.getD k 0 < l.length)) : rightOf l = false := by
  unfold rightOf
  have hm : l.getD k 0 ∈ l := by rw [List.getD_eq_getElem?_getD, List.getElem?_eq_getElem hk]; exact List.getElem_mem hk
  have : l.all (fun x => decide (0 ≤ x) && decide (x < l.length)) = false := by
    rw [List.all_eq_false]
    refine ⟨_, hm, ?_⟩
    simp only [Bool.and_eq_true, decide_eq_true_eq]
    exact h
  rw [this]
  simp
theorem rightOf_false_twice {l : List Int} {k : Nat} (hk : k < l.length) (h : l.getD k 0 ∈ l.take k) : rightOf l = false := by
  unfold rightOf
  have : ¬ l.Nodup := by
    intro hn
    obtain ⟨i, hi, e⟩ := List.mem_iff_getElem.1 h
    rw [List.getD_eq_getElem?_getD, List.getElem?_eq_getElem hk] at e
    simp only [List.getElem_take, Option.getD_some] at e
    have hi' : i < k := by rw [List.length_take] at hi; omega
    exact (List.pairwise_iff_getElem.1 hn) i k (by omega) hk hi' e
  rw [decide_eq_false this]
  simp
theorem take_snoc {l : List Int} {k : Nat} (hk : k < l.length) : l.take (k + 1) = l.take k ++ [l.getD k 0] := by
  rw [List.take_succ_eq_append_getElem hk, List.getD_eq_getElem?_getD, List.getElem?_eq_getElem hk]
  rfl
def okSo (n : Nat) (p : List Int) : Prop := (∀ x ∈ p, 0 ≤ x ∧ x < n) ∧ p.Nodup
theorem okSo_nil (n : Nat) : okSo n [] := ⟨by simp, List.nodup_nil⟩
theorem okSo_snoc {n : Nat} {p : List Int} {x : Int} (h : okSo n p) (h0 : 0 ≤ x) (h1 : x < n) (hx : x ∉ p) : okSo n (p ++ [x]) := by
  refine ⟨fun y hy => ?_, ?_⟩
  · rcases List.mem_append.1 hy with hy | hy
    · exact h.1 y hy
    · rw [List.mem_singleton.1 hy]; exact ⟨h0, h1⟩
  · rw [List.nodup_append]
    refine ⟨h.2, by simp, fun a ha b hb e => ?_⟩
    rw [List.mem_singleton.1 hb] at e
    exact hx (e ▸ ha)
theorem rightOf_true {l : List Int} (hl : l.length ≤ 16) (h : okSo l.length l) : rightOf l = true := by
  unfold rightOf
  rw [decide_eq_true hl, decide_eq_true h.2]
  simp only [Bool.true_and, Bool.and_true, List.all_eq_true, Bool.and_eq_true, decide_eq_true_eq]
  exact h.1
theorem rightOf_ok {l : List Int} (h : rightOf l = true) : l.length ≤ 16 ∧ okSo l.length l := by
  unfold rightOf at h
  simp only [Bool.and_eq_true, List.all_eq_true, decide_eq_true_eq] at h
  exact ⟨h.1.1, h.1.2, h.2⟩

theorem fac_quot (r : Nat) : fac (r + 1) / (r + 1) = fac r := Nat.mul_div_cancel _ (Nat.succ_pos r)
theorem fromOf_step (r : Nat) (left : List Int) (K : Nat) : fromOf (r + 1) left (fac (r + 1)) K = left.getD (K / fac r) 0 :: fromOf r (left.eraseIdx (K / fac r)) (fac r) (K % fac r) := by
  rw [fromOf, fac_quot]
theorem pick_lt {r K : Nat} (h : K < fac (r + 1)) : K / fac r < r + 1 := by
  rw [Nat.div_lt_iff_lt_mul (fac_pos r)]
  rw [Nat.mul_comm]
  exact h
theorem lessIn_le (x : Int) (l : List Int) : lessIn x l ≤ l.length := List.length_filter_le _ _
theorem lessIn_snoc (x y : Int) (l : List Int) : lessIn x (l ++ [y]) = lessIn x l + (if y ≤ x then 1 else 0) := by
  unfold lessIn
  rw [List.filter_append, List.length_append]
  by_cases h : y ≤ x <;> simp [h]
/-- Nothing goes round while an order's number is told. -/
theorem number_bound {L k m c : Nat} (hk : k < L) (hb : (m + 1) * fac (L - k) ≤ fac L) (hc : c ≤ L - (k + 1)) : (m * (L - k) + c + 1) * fac (L - (k + 1)) ≤ fac L := by
  obtain ⟨d, hd⟩ : ∃ d, L - k = d + 1 := ⟨L - k - 1, by omega⟩
  have hd2 : L - (k + 1) = d := by omega
  rw [hd] at hb ⊢
  rw [hd2] at hc ⊢
  have e : (m + 1) * fac (d + 1) = (m + 1) * (d + 1) * fac d := by
    rw [fac, Nat.mul_comm (fac d), Nat.mul_assoc]
  rw [e] at hb
  refine Nat.le_trans (Nat.mul_le_mul_right _ ?_) hb
  have e2 : (m + 1) * (d + 1) = m * (d + 1) + (d + 1) := by rw [Nat.add_mul, Nat.one_mul]
  omega
theorem number_small {L k m : Nat} (hL : L ≤ 16) (hb : (m + 1) * fac (L - k) ≤ fac L) : m + 1 ≤ 20922789888000 :=
  Nat.le_trans (Nat.le_trans (Nat.le_mul_of_pos_right _ (fac_pos _)) hb) (fac_le hL)
theorem numberOf_step {l : List Int} {k m : Nat} (hk : k < l.length) : numberOf (l.drop k) m = numberOf (l.drop (k + 1)) (m * (l.length - k) + lessIn (l.getD k 0) (l.drop (k + 1))) := by
  have hd : l.drop k = l.getD k 0 :: l.drop (k + 1) := by
    rw [List.drop_eq_getElem_cons hk, List.getD_eq_getElem?_getD, List.getElem?_eq_getElem hk]
    rfl
  rw [hd, numberOf, List.length_drop, show l.length - (k + 1) + 1 = l.length - k by omega]
end Go.Proofs.Ytnhhfmmbanimlaa.HK
