/-
Plain laws of orders: an order is a row of the numbers from 0 on; an order's number is the number that the order was made of. No program here.
-/
import Derived.Test.YtnhhfmmbanimlaaHk0
set_option linter.unusedVariables false
set_option linter.unusedSimpArgs false
namespace Go.Proofs.Ytnhhfmmbanimlaa.HK

/-! ### rows without twins -/
theorem perm_of_sub : ∀ {l m : List Int}, l.Nodup → (∀ x ∈ l, x ∈ m) → m.length ≤ l.length → l.Perm m
  | [], m, _, _, h => by
    have : m = [] := List.eq_nil_of_length_eq_zero (by simpa using h)
    rw [this]
  | x :: l, m, hn, hs, h => by
    have hx : x ∈ m := hs x List.mem_cons_self
    rw [List.nodup_cons] at hn
    have ih : l.Perm (m.erase x) := by
      refine perm_of_sub hn.2 (fun y hy => ?_) ?_
      · have hne : y ≠ x := fun e => hn.1 (e ▸ hy)
        exact (List.mem_erase_of_ne hne).2 (hs y (List.mem_cons_of_mem _ hy))
      · rw [List.length_erase_of_mem hx]
        rw [List.length_cons] at h
        omega
    exact (ih.cons x).trans (List.perm_cons_erase hx).symm
theorem mem_upTo {n : Nat} {x : Int} : x ∈ upTo n ↔ 0 ≤ x ∧ x < n := by
  unfold upTo
  rw [List.mem_map]
  constructor
  · rintro ⟨i, hi, rfl⟩
    rw [List.mem_range] at hi
    omega
  · rintro ⟨h0, h1⟩
    exact ⟨x.toNat, by rw [List.mem_range]; omega, by omega⟩
theorem upTo_len (n : Nat) : (upTo n).length = n := by simp [upTo]
theorem pairwise_upTo (n : Nat) : (upTo n).Pairwise (· < ·) := by
  unfold upTo
  rw [List.pairwise_map]
  exact List.pairwise_lt_range.imp (fun h => by omega)
theorem nodup_upTo (n : Nat) : (upTo n).Nodup := (pairwise_upTo n).imp (fun h => by omega)
theorem right_iff (l : List Int) : rightOf l = true ↔ l.length ≤ 16 ∧ l.Perm (upTo l.length) := by
  constructor
  · intro h
    obtain ⟨h1, h2, h3⟩ := rightOf_ok h
    exact ⟨h1, perm_of_sub h3 (fun x hx => mem_upTo.2 (h2 x hx)) (by rw [upTo_len]; exact Nat.le_refl _)⟩
  · rintro ⟨h1, h2⟩
    exact rightOf_true h1 ⟨fun x hx => mem_upTo.1 (h2.mem_iff.1 hx), h2.nodup_iff.2 (nodup_upTo _)⟩
/-- Rows that have each number are orders. -/
theorem right_of_all {l : List Int} (h : l.length ≤ 16) (ha : ∀ i : Nat, i < l.length → (i : Int) ∈ l) : rightOf l = true := by
  rw [right_iff]
  refine ⟨h, List.Perm.symm (perm_of_sub (nodup_upTo _) (fun x hx => ?_) (by rw [upTo_len]; exact Nat.le_refl _))⟩
  obtain ⟨h0, h1⟩ := mem_upTo.1 hx
  have := ha x.toNat (by omega)
  rwa [Int.toNat_of_nonneg h0] at this
theorem all_of_right {l : List Int} (h : rightOf l = true) {i : Nat} (hi : i < l.length) : (i : Int) ∈ l :=
  ((right_iff l).1 h).2.mem_iff.2 (mem_upTo.2 ⟨by omega, by omega⟩)

/-! ### From, and Number of it -/
theorem pick_perm : ∀ (l : List Int) (i : Nat), i < l.length → (l.getD i 0 :: l.eraseIdx i).Perm l
  | [], i, h => by simp at h
  | a :: t, 0, _ => List.Perm.refl _
  | a :: t, i + 1, h => by
    rw [List.length_cons] at h
    show (t.getD i 0 :: a :: t.eraseIdx i).Perm (a :: t)
    exact (List.Perm.swap _ _ _).trans ((pick_perm t i (by omega)).cons a)
theorem fromOf_perm : ∀ (r : Nat) (left : List Int) (K : Nat), left.length = r → K < fac r → (fromOf r left (fac r) K).Perm left
  | 0, left, K, hl, _ => by
    rw [List.eq_nil_of_length_eq_zero hl, fromOf]
  | r + 1, left, K, hl, hK => by
    rw [fromOf_step]
    have hi := pick_lt hK
    have ih := fromOf_perm r (left.eraseIdx (K / fac r)) (K % fac r) (by rw [List.length_eraseIdx, if_pos (by omega)]; omega) (Nat.mod_lt _ (fac_pos r))
    refine (ih.cons _).trans ?_
    exact pick_perm left _ (by omega)
theorem lessIn_perm {x : Int} {l m : List Int} (h : l.Perm m) : lessIn x l = lessIn x m := (h.filter _).length_eq
theorem lessIn_sorted : ∀ (left : List Int) (i : Nat), left.Pairwise (· < ·) → i < left.length → lessIn (left.getD i 0) (left.eraseIdx i) = i
  | [], i, _, h => by simp at h
  | a :: l, 0, hp, _ => by
    rw [List.pairwise_cons] at hp
    show lessIn a l = 0
    unfold lessIn
    rw [List.filter_eq_nil_iff.2]
    · rfl
    · intro y hy
      have := hp.1 y hy
      simp
      omega
  | a :: l, i + 1, hp, h => by
    rw [List.pairwise_cons] at hp
    rw [List.length_cons] at h
    have ih := lessIn_sorted l i hp.2 (by omega)
    have hm : l.getD i 0 ∈ l := by rw [List.getD_eq_getElem?_getD, List.getElem?_eq_getElem (by omega)]; exact List.getElem_mem _
    have ha := hp.1 _ hm
    show lessIn (l.getD i 0) (a :: l.eraseIdx i) = i + 1
    generalize l.getD i 0 = v at *
    unfold lessIn at ih ⊢
    rw [List.filter_cons, if_pos (by rw [decide_eq_true_eq]; omega), List.length_cons, ih]
theorem numberOf_from : ∀ (r : Nat) (left : List Int) (K m : Nat), left.length = r → left.Pairwise (· < ·) → K < fac r → numberOf (fromOf r left (fac r) K) m = m * fac r + K
  | 0, left, K, m, _, _, hK => by
    rw [fromOf, numberOf, fac]
    rw [fac] at hK
    omega
  | r + 1, left, K, m, hl, hp, hK => by
    rw [fromOf_step]
    have hi := pick_lt hK
    have hle : (left.eraseIdx (K / fac r)).length = r := by rw [List.length_eraseIdx, if_pos (by omega)]; omega
    have hm := Nat.mod_lt K (fac_pos r)
    have hperm := fromOf_perm r (left.eraseIdx (K / fac r)) (K % fac r) hle hm
    rw [numberOf, lessIn_perm hperm, lessIn_sorted left _ hp (by omega), hperm.length_eq, hle]
    rw [numberOf_from r _ _ _ hle (hp.sublist (List.eraseIdx_sublist _ _)) hm, fac]
    have e := Nat.div_add_mod K (fac r)
    have e2 : (m * (r + 1) + K / fac r) * fac r = m * (fac r * (r + 1)) + fac r * (K / fac r) := by
      rw [Nat.add_mul, Nat.mul_assoc, Nat.mul_comm (r + 1), Nat.mul_comm (K / fac r)]
    omega

/-! ### an order's number, told place by place -/
theorem lessIn_strict {x : Int} {l : List Int} (h : x ∉ l) : lessIn x l = (l.filter (fun y => decide (y < x))).length := by
  unfold lessIn
  congr 1
  apply List.filter_congr
  intro y hy
  have : y ≠ x := fun e => h (e ▸ hy)
  simp only [decide_eq_decide]
  omega
/-- The sum, as the document tells it. -/
def sumOf : List Int → Nat
  | [] => 0
  | x :: l => (l.filter (fun y => decide (y < x))).length * fac l.length + sumOf l
theorem numberOf_sum : ∀ (l : List Int) (m : Nat), l.Nodup → numberOf l m = m * fac l.length + sumOf l
  | [], m, _ => by simp [numberOf, sumOf, fac]
  | x :: l, m, hn => by
    rw [List.nodup_cons] at hn
    rw [numberOf, numberOf_sum l _ hn.2, sumOf, lessIn_strict hn.1, List.length_cons, fac]
    rw [Nat.add_mul, Nat.mul_assoc, Nat.mul_comm (fac l.length), Nat.add_assoc]
theorem sumOf_lt : ∀ (l : List Int), sumOf l < fac l.length
  | [] => by decide
  | x :: l => by
    have ih := sumOf_lt l
    have h1 : (l.filter (fun y => decide (y < x))).length ≤ l.length := List.length_filter_le _ _
    have h2 := Nat.mul_le_mul_right (fac l.length) h1
    rw [sumOf, List.length_cons, fac, Nat.mul_add, Nat.mul_one, Nat.mul_comm (fac l.length) l.length]
    omega
end Go.Proofs.Ytnhhfmmbanimlaa.HK
