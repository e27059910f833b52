/-
What words are, in plain words: bytes as numbers, signs between words, names, numbers, kinds. No program here.
-/
import Derived.Test.YtiojfdgagdofiaaNumA
import Derived.Test.YtiojfdgagdofiaaWWords
set_option linter.unusedVariables false
set_option linter.unusedSimpArgs false
namespace Go.Proofs.Ytiojfdgagdofiaa.HK
open Go.RowKit Go.Proofs.YtiojfdgagdofiaaW.PrintWords

/-! ### bytes as numbers -/
def codes (s : ByteArray) : List Int := s.data.toList.map (fun b => (b.toNat : Int))
theorem codes_length (s : ByteArray) : (codes s).length = s.size := by simp [codes]
theorem codes_byte (s : ByteArray) : ∀ x ∈ codes s, 0 ≤ x ∧ x ≤ 255 := by
  intro x hx
  obtain ⟨b, _, rfl⟩ := List.mem_map.1 hx
  have := b.toNat_lt
  omega
theorem codes_inj {s t : ByteArray} (h : codes s = codes t) : s = t := by
  have hl : s.data.toList = t.data.toList := by
    unfold codes at h
    exact List.map_inj_right (fun a b hab => by
      have : a.toNat = b.toNat := by omega
      exact UInt8.toNat.inj this) |>.1 h
  exact ByteArray.ext (Array.toList_inj.1 hl)
theorem toList_codes {s t : ByteArray} : s.toList = t.toList ↔ codes s = codes t := by
  rw [ByteArray.toList_eq, ByteArray.toList_eq]
  constructor
  · intro h; unfold codes; rw [h]
  · intro h; rw [codes_inj h]
theorem bt_codes (s : ByteArray) (i : Int) : bt s i = (codes s).getD i.toNat 0 := by
  unfold bt codes
  split
  · rename_i h
    rw [List.getD_eq_getElem?_getD, List.getElem?_map, Array.getElem?_toList, Array.getElem?_eq_getElem (by simpa using h)]
    rfl
  · rename_i h
    rw [List.getD_eq_getElem?_getD, List.getElem?_eq_none (by simpa using h)]
    rfl
theorem codes_extract (s : ByteArray) (a b : Nat) : codes (s.extract a b) = ((codes s).take b).drop a := by
  unfold codes
  simp [Array.toList_extract, List.extract_eq_take_drop, List.map_drop, List.map_take, List.drop_take]
theorem codes_str (l : List Int) (h : ∀ x ∈ l, 0 ≤ x ∧ x ≤ 255) : codes (strOfNums l) = l := by
  unfold codes
  unfold strOfNums
  rw [List.map_map]
  conv => rhs; rw [← List.map_id l]
  apply List.map_congr_left
  intro x hx
  have := h x hx
  simp
  omega
theorem str_codes (s : ByteArray) : strOfNums (codes s) = s := codes_inj (codes_str _ (codes_byte s))

/-! ### what a text says as a number -/
def okDig (d : List Int) : Bool := allDig d && decide (d ≠ []) && (decide (d.head? ≠ some 48) || decide (d = [48]))
def parseOf (l : List Int) : Int × Int :=
  if l.head? = some 45 then
    (if okDig l.tail = true ∧ l.tail ≠ [48] ∧ valOf 0 l.tail ≤ 9223372036854775808 then (-(valOf 0 l.tail : Int), 0) else (0, 3))
  else (if okDig l = true ∧ valOf 0 l ≤ 9223372036854775807 then ((valOf 0 l : Int), 0) else (0, 3))
theorem okDig_full (n : Nat) : okDig (full n) = true := by
  unfold okDig
  rw [full_dig, Bool.true_and, Bool.and_eq_true, Bool.or_eq_true]
  refine ⟨?_, ?_⟩
  · have := full_pos n
    simp
    intro h
    rw [h] at this
    simp at this
  · rcases Nat.eq_zero_or_pos n with h | h
    · right; subst h; decide +kernel
    · left; simpa using full_head n h
theorem full_of_ok {d : List Int} (h : okDig d = true) : full (valOf 0 d) = d := by
  unfold okDig at h
  simp only [Bool.and_eq_true, Bool.or_eq_true, decide_eq_true_eq] at h
  refine full_val _ d rfl h.1.1 h.1.2 (fun h0 => ?_)
  rcases h.2 with h1 | h1
  · exact absurd h0 h1
  · exact h1
/-- A number's text says that number. -/
theorem parseOf_digits {a : Int} (h : inW a) : parseOf (digitsOf a) = (a, 0) := by
  unfold inW at h
  unfold parseOf
  rcases digitsOf_cases a with ⟨ha, e⟩ | ⟨ha, e⟩
  · rw [e, if_pos (by rfl)]
    show (if okDig (full (-a).toNat) = true ∧ full (-a).toNat ≠ [48] ∧ valOf 0 (full (-a).toNat) ≤ 9223372036854775808 then (-(valOf 0 (full (-a).toNat) : Int), (0 : Int)) else (0, 3)) = _
    have hz : full (-a).toNat ≠ [48] := by
      intro h0
      have := congrArg (valOf 0) h0
      rw [val_full] at this
      have e0 : valOf 0 [48] = 0 := rfl
      omega
    rw [val_full, if_pos ⟨okDig_full _, hz, by omega⟩, show (-(((-a).toNat : Nat) : Int)) = a by omega]
  · rw [e, if_neg (full_ne45 _), val_full, if_pos ⟨okDig_full _, by omega⟩, Int.toNat_of_nonneg ha]
/-- What says a number is that number's text. -/
theorem digits_parseOf {l : List Int} (h : (parseOf l).2 = 0) : inW (parseOf l).1 ∧ digitsOf (parseOf l).1 = l := by
  unfold parseOf at h ⊢
  by_cases hn : l.head? = some 45
  · rw [if_pos hn] at h ⊢
    by_cases hc : okDig l.tail = true ∧ l.tail ≠ [48] ∧ valOf 0 l.tail ≤ 9223372036854775808
    · rw [if_pos hc]
      obtain ⟨c, t, rfl⟩ : ∃ c t, l = c :: t := by cases l with
        | nil => cases hn
        | cons c t => exact ⟨c, t, rfl⟩
      obtain rfl : c = 45 := by simpa using hn
      simp only [List.tail_cons] at hc ⊢
      have hf := full_of_ok hc.1
      have hpos : 0 < valOf 0 t := by
        rcases Nat.eq_zero_or_pos (valOf 0 t) with h0 | h0
        · rw [h0] at hf
          rw [full, if_pos (by decide)] at hf
          exact absurd hf.symm hc.2.1
        · exact h0
      show inW (-((valOf 0 t : Nat) : Int)) ∧ digitsOf (-((valOf 0 t : Nat) : Int)) = 45 :: t
      refine ⟨⟨by omega, by omega⟩, ?_⟩
      unfold digitsOf
      rw [if_pos (by omega), show (- -((valOf 0 t : Nat) : Int)).toNat = valOf 0 t by omega, hf]
    · rw [if_neg hc] at h; simp at h
  · rw [if_neg hn] at h ⊢
    by_cases hc : okDig l = true ∧ valOf 0 l ≤ 9223372036854775807
    · rw [if_pos hc]
      have hf := full_of_ok hc.1
      show inW ((valOf 0 l : Nat) : Int) ∧ digitsOf ((valOf 0 l : Nat) : Int) = l
      refine ⟨⟨by omega, by omega⟩, ?_⟩
      unfold digitsOf
      rw [if_neg (by omega), show ((valOf 0 l : Nat) : Int).toNat = valOf 0 l by omega, hf]
    · rw [if_neg hc] at h; simp at h
theorem parseOf_bad {l : List Int} (h : (parseOf l).2 ≠ 0) : parseOf l = (0, 3) := by
  unfold parseOf at h ⊢
  split
  · rename_i hn
    rw [if_pos hn] at h
    split
    · rename_i hc; rw [if_pos hc] at h; exact absurd rfl h
    · rfl
  · rename_i hn
    rw [if_neg hn] at h
    split
    · rename_i hc; rw [if_pos hc] at h; exact absurd rfl h
    · rfl
/-- The one that says it. -/
theorem parseOf_is {l : List Int} {r : Int × Int} (h : (∃ a, inW a ∧ digitsOf a = l ∧ r = (a, 0)) ∨ ((∀ a, inW a → digitsOf a ≠ l) ∧ r = (0, 3))) : r = parseOf l := by
  rcases h with ⟨a, ha, rfl, rfl⟩ | ⟨hn, rfl⟩
  · rw [parseOf_digits ha]
  · rw [parseOf_bad (fun h => hn _ (digits_parseOf h).1 (digits_parseOf h).2)]
/-! ### words -/
def letterB (c : Int) : Bool := decide (97 ≤ c) && decide (c ≤ 122)
def digitB (c : Int) : Bool := decide (48 ≤ c) && decide (c ≤ 57)
def okAt (l : List Int) (j : Nat) : Bool := letterB (l.getD j 0) || (digitB (l.getD j 0) && decide (0 < j))
def namedOf (l : List Int) : Bool := decide (1 ≤ l.length) && decide (l.length ≤ 8) && (List.range l.length).all (okAt l)
def signB (l : List Int) : Bool := decide (l = [43]) || decide (l = [45]) || decide (l = [42]) || decide (l = [47]) || decide (l = [37]) || decide (l = [38]) || decide (l = [124]) || decide (l = [94]) || decide (l = [61]) || decide (l = [60])
def kindOf (l : List Int) : Int := if (parseOf l).2 = 0 then 4 else if signB l = true ∨ namedOf l = true then 3 else 0
def spacedB (c : Int) : Bool := decide (c = 32) || decide (c = 9) || decide (c = 10)
def endsB (c : Int) : Bool := spacedB c || decide (c = 40) || decide (c = 41) || decide (c = 59)
end Go.Proofs.Ytiojfdgagdofiaa.HK
