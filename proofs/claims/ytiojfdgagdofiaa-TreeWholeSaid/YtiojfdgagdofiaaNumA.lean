/-
A number's digits, and what they say: plain facts over numbers and lists, no program here.
-/
set_option linter.unusedVariables false
set_option linter.unusedSimpArgs false
namespace Go.Proofs.Ytiojfdgagdofiaa.HK

/-- The digits of a number that is not below 0, the highest first. -/
def full (n : Nat) : List Int := if n < 10 then [48 + (n : Int)] else full (n / 10) ++ [48 + ((n % 10 : Nat) : Int)]
termination_by n
decreasing_by omega
theorem full_step (w : Nat) : full w = (if w / 10 = 0 then [] else full (w / 10)) ++ [48 + ((w % 10 : Nat) : Int)] := by
  by_cases h : w < 10
  · rw [full, if_pos h, if_pos (by omega), Nat.mod_eq_of_lt h]
    rfl
  · rw [full, if_neg h, if_neg (by omega)]
theorem full_pos (w : Nat) : 1 ≤ (full w).length := by
  rw [full_step, List.length_append]
  simp
theorem full_len : ∀ (k w : Nat), w < 10 ^ (k + 1) → (full w).length ≤ k + 1
  | 0, w, h => by
    rw [full, if_pos (by simpa using h)]
    simp
  | k + 1, w, h => by
    rw [full_step, List.length_append]
    by_cases h0 : w / 10 = 0
    · rw [if_pos h0]; simp
    · rw [if_neg h0]
      have := full_len k (w / 10) (by rw [Nat.div_lt_iff_lt_mul (by decide)]; rw [Nat.pow_succ] at h; exact h)
      simp; omega
/-- A number as text: its bytes. -/
def digitsOf (a : Int) : List Int := if a < 0 then 45 :: full (-a).toNat else full a.toNat

/-- Digits alone. -/
def allDig (l : List Int) : Bool := l.all (fun c => decide (48 ≤ c) && decide (c ≤ 57))
theorem allDig_cons (c : Int) (l : List Int) : allDig (c :: l) = (decide (48 ≤ c) && decide (c ≤ 57) && allDig l) := rfl
theorem allDig_append (l m : List Int) : allDig (l ++ m) = (allDig l && allDig m) := by simp [allDig]
/-- What digits say. -/
def valOf : Nat → List Int → Nat
  | n, [] => n
  | n, c :: l => valOf (n * 10 + (c - 48).toNat) l
theorem valOf_append : ∀ (l m : List Int) (n : Nat), valOf n (l ++ m) = valOf (valOf n l) m
  | [], _, _ => rfl
  | c :: l, m, n => valOf_append l m _
theorem full_dig : ∀ (n : Nat), allDig (full n) = true := by
  intro n
  induction n using Nat.strongRecOn with
  | _ n ih =>
    rw [full_step, allDig_append]
    have h1 : allDig [48 + ((n % 10 : Nat) : Int)] = true := by
      have := Nat.mod_lt n (show 10 > 0 by decide)
      simp [allDig]
      omega
    rw [h1, Bool.and_true]
    by_cases h0 : n / 10 = 0
    · rw [if_pos h0]; rfl
    · rw [if_neg h0]; exact ih _ (by omega)
theorem val_full : ∀ (n : Nat), valOf 0 (full n) = n := by
  intro n
  induction n using Nat.strongRecOn with
  | _ n ih =>
    rw [full_step, valOf_append]
    have h1 : valOf 0 (if n / 10 = 0 then [] else full (n / 10)) = n / 10 := by
      by_cases h0 : n / 10 = 0
      · rw [if_pos h0, h0]; rfl
      · rw [if_neg h0]; exact ih _ (by omega)
    rw [h1]
    show n / 10 * 10 + (48 + ((n % 10 : Nat) : Int) - 48).toNat = n
    omega
theorem full_head (n : Nat) (hn : 0 < n) : (full n).head? ≠ some 48 := by
  induction n using Nat.strongRecOn with
  | _ n ih =>
    rw [full_step]
    by_cases h0 : n / 10 = 0
    · rw [if_pos h0]
      intro h
      have h : (48 + ((n % 10 : Nat) : Int)) = 48 := by simpa using h
      omega
    · rw [if_neg h0]
      have h1 := ih (n / 10) (by omega) (by omega)
      have h2 := full_pos (n / 10)
      intro h
      apply h1
      cases hf : full (n / 10) with
      | nil => rw [hf] at h2; simp at h2
      | cons c l => rw [hf] at h; simpa using h
theorem valOf_le : ∀ (l : List Int) (n : Nat), n ≤ valOf n l
  | [], n => Nat.le_refl _
  | c :: l, n => Nat.le_trans (by omega) (valOf_le l _)
theorem valOf_lt : ∀ (l : List Int) (n : Nat), allDig l = true → valOf n l < (n + 1) * 10 ^ l.length
  | [], n, _ => by simp [valOf]
  | c :: l, n, h => by
    rw [allDig_cons] at h
    simp only [Bool.and_eq_true, decide_eq_true_eq] at h
    obtain ⟨⟨h1, h2⟩, h3⟩ := h
    have := valOf_lt l (n * 10 + (c - 48).toNat) h3
    rw [valOf, List.length_cons, Nat.pow_succ]
    refine Nat.lt_of_lt_of_le this ?_
    have e : (n + 1) * (10 ^ l.length * 10) = ((n + 1) * 10) * 10 ^ l.length := by rw [Nat.mul_comm (10 ^ l.length), Nat.mul_assoc]
    rw [e]
    exact Nat.mul_le_mul_right _ (by omega)
/-- Digits that do not begin with a 0 are their number's. -/
theorem full_val : ∀ (k : Nat) (l : List Int), l.length = k → allDig l = true → l ≠ [] → (l.head? = some 48 → l = [48]) → full (valOf 0 l) = l := by
  intro k
  induction k with
  | zero => intro l hl _ hne _; exact absurd (List.eq_nil_of_length_eq_zero hl) hne
  | succ k ih =>
    intro l hl hd hne h0
    obtain ⟨m, c, rfl⟩ : ∃ m c, l = m ++ [c] := ⟨l.dropLast, l.getLast hne, (List.dropLast_concat_getLast hne).symm⟩
    rw [allDig_append] at hd
    simp only [Bool.and_eq_true] at hd
    obtain ⟨hm, hc⟩ := hd
    have hc' : 48 ≤ c ∧ c ≤ 57 := by simpa [allDig] using hc
    have hml : m.length = k := by simpa using hl
    rw [valOf_append]
    show full (valOf 0 m * 10 + (c - 48).toNat) = _
    rw [full_step]
    have e1 : (valOf 0 m * 10 + (c - 48).toNat) / 10 = valOf 0 m := by omega
    have e2 : (48 : Int) + (((valOf 0 m * 10 + (c - 48).toNat) % 10 : Nat) : Int) = c := by omega
    rw [e1, e2]
    by_cases hmn : m = []
    · subst hmn; rfl
    · have hne0 : m.head? ≠ some 48 := by
        intro h
        have h := h0 (by cases m with
          | nil => exact absurd rfl hmn
          | cons d m => simpa using h)
        have := congrArg List.length h
        simp at this
        exact hmn this
      have hih := ih m hml hm hmn (fun h => absurd h hne0)
      have hpos : valOf 0 m ≠ 0 := by
        intro h
        rw [h] at hih
        rw [full, if_pos (by decide)] at hih
        apply hne0
        rw [← hih]
        rfl
      rw [if_neg hpos, hih]

/-! ### numbers of 64 bits -/
def inW (a : Int) : Prop := -9223372036854775808 ≤ a ∧ a ≤ 9223372036854775807
theorem digitsOf_len {a : Int} (h : inW a) : 1 ≤ (digitsOf a).length ∧ (digitsOf a).length ≤ 20 := by
  unfold inW at h
  unfold digitsOf
  split
  · have := full_len 18 (-a).toNat (by rw [show (10 : Nat) ^ (18 + 1) = 10000000000000000000 by decide]; omega)
    simp; omega
  · have := full_len 18 a.toNat (by rw [show (10 : Nat) ^ (18 + 1) = 10000000000000000000 by decide]; omega)
    have := full_pos a.toNat
    omega
/-- The text of a number is a sign's and its digits. -/
theorem digitsOf_cases (a : Int) : (a < 0 ∧ digitsOf a = 45 :: full (-a).toNat) ∨ (0 ≤ a ∧ digitsOf a = full a.toNat) := by
  unfold digitsOf
  split
  · exact .inl ⟨‹_›, rfl⟩
  · exact .inr ⟨by omega, rfl⟩
theorem full_ne45 (n : Nat) : (full n).head? ≠ some 45 := by
  intro h
  have hd := full_dig n
  cases hf : full n with
  | nil => rw [hf] at h; cases h
  | cons c l =>
    rw [hf] at h hd
    obtain rfl : c = 45 := by simpa using h
    simp [allDig] at hd
theorem digitsOf_inj {a b : Int} (h : digitsOf a = digitsOf b) : a = b := by
  rcases digitsOf_cases a with ⟨ha, ea⟩ | ⟨ha, ea⟩ <;> rcases digitsOf_cases b with ⟨hb, eb⟩ | ⟨hb, eb⟩ <;> rw [ea, eb] at h
  · have h := congrArg (valOf 0) (List.cons.inj h).2
    rw [val_full, val_full] at h
    omega
  · exact absurd (congrArg List.head? h).symm (full_ne45 _)
  · exact absurd (congrArg List.head? h) (full_ne45 _)
  · have h := congrArg (valOf 0) h
    rw [val_full, val_full] at h
    omega
end Go.Proofs.Ytiojfdgagdofiaa.HK
