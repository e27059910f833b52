/-
A text's tokens, in plain words.
-/
import Derived.Test.YtiojfdgagdofiaaLexA
import Derived.Test.YtiojfdgagdofiaaHBx0
import Derived.Lib.IndexLaws
set_option linter.unusedVariables false
set_option linter.unusedSimpArgs false
namespace Go.Proofs.Ytiojfdgagdofiaa.HK
open Go.RowKit Go.Proofs.YtiojfdgagdofiaaW.PrintWords Go.Proofs.Ytiojfdgagdofiaa.HB

theorem tw_len {p : Int → Bool} : ∀ (l : List Int) (n : Nat), (∀ k, k < n → p (l.getD k 0) = true) → n ≤ l.length → (n < l.length → p (l.getD n 0) = false) → (l.takeWhile p).length = n
  | [], n, _, hn, _ => by
    have : n = 0 := by simpa using hn
    subst this; rfl
  | c :: l, 0, _, _, h2 => by
    have : p c = false := by simpa using h2 (by simp)
    rw [List.takeWhile_cons, this]; rfl
  | c :: l, n + 1, h1, hn, h2 => by
    have hc : p c = true := by simpa using h1 0 (by omega)
    have hr := tw_len l n (fun k hk => by simpa using h1 (k + 1) (by omega)) (by simpa using hn) (fun h => by simpa using h2 (by simpa using h))
    rw [List.takeWhile_cons, hc]
    simpa using hr
theorem tw_le {p : Int → Bool} : ∀ (l : List Int), (l.takeWhile p).length ≤ l.length
  | [] => Nat.le_refl _
  | c :: l => by
    rw [List.takeWhile_cons]
    split
    · have := tw_le (p := p) l; simp only [List.length_cons]; omega
    · simp
theorem tw_lt {p : Int → Bool} : ∀ (l : List Int) (k : Nat), k < (l.takeWhile p).length → p (l.getD k 0) = true
  | [], k, h => by simp at h
  | c :: l, k, h => by
    rw [List.takeWhile_cons] at h
    split at h
    · rename_i hc
      cases k with
      | zero => simpa using hc
      | succ k => simpa using tw_lt l k (by simpa using h)
    · simp at h
theorem tw_stop {p : Int → Bool} : ∀ (l : List Int), (l.takeWhile p).length < l.length → p (l.getD (l.takeWhile p).length 0) = false
  | [], h => by simp at h
  | c :: l, h => by
    rw [List.takeWhile_cons] at h ⊢
    split
    · rename_i hc
      rw [if_pos hc] at h
      simpa using tw_stop l (by simpa using h)
    · rename_i hc
      simpa using hc
/-- How long a remark is. -/
def remLen (l : List Int) : Nat := (l.takeWhile (fun c => decide (c ≠ 10))).length
/-- How long a piece is. -/
def wordLen (l : List Int) : Nat := if l.head? = some 40 ∨ l.head? = some 41 then 1 else (l.takeWhile (fun c => !endsB c)).length
def tokenOf (t : List Int) (at_ : Nat) : S37 :=
  if t = [40] then ⟨1, strOfNums t, 0, at_⟩ else if t = [41] then ⟨2, strOfNums t, 0, at_⟩
  else ⟨kindOf t, strOfNums t, if kindOf t = 4 then (parseOf t).1 else 0, at_⟩
def toks : Nat → List Int → Nat → List S37 → List S37 × Int × Int
  | 0, _, _, out => (out, 0, 0)
  | k + 1, L, a, out =>
    if a < L.length then
      (if spacedB (L.getD a 0) = true then toks k L (a + 1) out
      else if L.getD a 0 = 59 then toks k L (a + remLen (L.drop a)) out
      else if (tokenOf ((L.drop a).take (wordLen (L.drop a))) a).f0 = 0 then ([], a, 8)
      else if 600 ≤ out.length then ([], a, 4)
      else toks k L (a + wordLen (L.drop a)) (out ++ [tokenOf ((L.drop a).take (wordLen (L.drop a))) a]))
    else (out, 0, 0)
def tokensOf (L : List Int) : List S37 × Int × Int := if 3000 < L.length then ([], 0, 4) else toks (L.length + 1) L 0 []
theorem remLen_le (l : List Int) : remLen l ≤ l.length := tw_le l
theorem wordLen_le (l : List Int) : wordLen l ≤ l.length := by
  unfold wordLen
  split
  · rename_i h
    cases l with
    | nil => simp at h
    | cons c l => simp
  · exact tw_le l
theorem drop_head {L : List Int} {a : Nat} (h : a < L.length) : (L.drop a).head? = some (L.getD a 0) := by
  rw [List.head?_drop, List.getD_eq_getElem?_getD, List.getElem?_eq_getElem h]; rfl
theorem drop_getD {L : List Int} {a k : Nat} : (L.drop a).getD k 0 = L.getD (a + k) 0 := by
  rw [List.getD_eq_getElem?_getD, List.getElem?_drop, List.getD_eq_getElem?_getD]
theorem remLen_pos {L : List Int} {a : Nat} (h : a < L.length) (h59 : L.getD a 0 = 59) : 1 ≤ remLen (L.drop a) := by
  rcases Nat.eq_zero_or_pos (remLen (L.drop a)) with h0 | h0
  · have := tw_stop (p := fun c => decide (c ≠ 10)) (L.drop a) (by
      have : (List.takeWhile (fun c => decide (c ≠ 10)) (L.drop a)).length = 0 := h0
      rw [this, List.length_drop]; omega)
    have e : (List.takeWhile (fun c => decide (c ≠ 10)) (L.drop a)).length = 0 := h0
    rw [e, drop_getD, Nat.add_zero, h59] at this
    simp at this
  · exact h0
theorem wordLen_pos {L : List Int} {a : Nat} (h : a < L.length) (hs : spacedB (L.getD a 0) = false) (h59 : L.getD a 0 ≠ 59) : 1 ≤ wordLen (L.drop a) := by
  unfold wordLen
  split
  · exact Nat.le_refl _
  · rename_i hb
    rw [drop_head h] at hb
    rcases Nat.eq_zero_or_pos ((L.drop a).takeWhile (fun c => !endsB c)).length with h0 | h0
    · have := tw_stop (p := fun c => !endsB c) (L.drop a) (by rw [h0, List.length_drop]; omega)
      rw [h0, drop_getD, Nat.add_zero] at this
      unfold endsB at this
      have h40 : L.getD a 0 ≠ 40 := fun e => hb (.inl (by rw [e]))
      have h41 : L.getD a 0 ≠ 41 := fun e => hb (.inr (by rw [e]))
      rw [hs, decide_eq_false h40, decide_eq_false h41, decide_eq_false h59] at this
      cases this
    · exact h0
/-- The bytes of a text from a place on, as the library's search tells them. -/
theorem index_ten (s : ByteArray) : (Lib.indexByte s.data.toList 10 < 0 → remLen (codes s) = s.size) ∧ (0 ≤ Lib.indexByte s.data.toList 10 → (remLen (codes s) : Int) = Lib.indexByte s.data.toList 10) := by
  have hge := Lib.indexByte_ge s.data.toList 10
  have hget : ∀ k, k < s.size → (codes s).getD k 0 = ((s.data.toList[k]?.getD 0).toNat : Int) := by
    intro k hk
    have hk' : k < s.data.toList.length := by simpa using hk
    unfold codes
    rw [List.getD_eq_getElem?_getD, List.getElem?_map, List.getElem?_eq_getElem hk']
    rfl
  refine ⟨fun h => ?_, fun h => ?_⟩
  · have hn := Lib.indexByte_none (l := s.data.toList) (c := 10) (by omega)
    refine tw_len _ _ (fun k hk => ?_) (by rw [codes_length]; exact Nat.le_refl _) (fun h => by rw [codes_length] at h; omega)
    have hk' : k < s.data.toList.length := by simpa using hk
    rw [hget k hk]
    have := hn k
    rw [List.getElem?_eq_getElem hk'] at this ⊢
    simp only [Option.getD_some, decide_eq_true_eq, ne_eq]
    intro e
    apply this
    congr 1
    apply UInt8.toNat.inj
    have : (10 : UInt8).toNat = 10 := rfl
    omega
  · obtain ⟨o, ho⟩ := Int.eq_ofNat_of_zero_le h
    obtain ⟨h1, h2⟩ := Lib.indexByte_some (l := s.data.toList) (c := 10) ho
    have hos : o < s.data.toList.length := by
      rcases Nat.lt_or_ge o s.data.toList.length with h | h
      · exact h
      · rw [List.getElem?_eq_none h] at h1; cases h1
    have hos' : o < s.size := by simpa using hos
    rw [ho]
    congr 1
    refine tw_len _ _ (fun k hk => ?_) (by rw [codes_length]; omega) (fun _ => ?_)
    · rw [hget k (by omega)]
      have := h2 k hk
      have hk' : k < s.data.toList.length := by omega
      rw [List.getElem?_eq_getElem hk'] at this ⊢
      simp only [Option.getD_some, decide_eq_true_eq, ne_eq]
      intro e
      apply this
      congr 1
      apply UInt8.toNat.inj
      have : (10 : UInt8).toNat = 10 := rfl
      omega
    · rw [hget o hos', h1]
      rfl
end Go.Proofs.Ytiojfdgagdofiaa.HK
