/-
The plain law of LexTokens: the document's tokens and the program's are the same; what must be whatever is asked.
-/
import Derived.Test.YtiojfdgagdofiaaLexE
import Derived.Test.YtiojfdgagdofiaaHBx10
set_option linter.unusedVariables false
set_option linter.unusedSimpArgs false
namespace Go.Proofs.Ytiojfdgagdofiaa.HK
open Go.RowKit Go.Proofs.YtiojfdgagdofiaaW.PrintWords Go.Proofs.Ytiojfdgagdofiaa.HB

theorem short_is (s : ByteArray) : ∃ t, reticulelaw06_short.f s = some t ∧ t.size ≤ 3010 := by
  unfold reticulelaw06_short.f
  by_cases h : 3010 < s.size
  · rw [if_pos (by omega), if_pos (by omega), if_pos (by omega)]
    exact ⟨_, rfl, by simp [ByteArray.size_extract]; omega⟩
  · rw [if_neg (by omega)]
    exact ⟨_, rfl, by omega⟩
theorem same_go (l : List S37) (hl : l.length ≤ 1000) : ∀ (n i : Nat), i + n = l.length → Ev (fun k => reticuleref06_Same.l0 k l l (i : Int)) true := by
  intro n
  induction n with
  | zero =>
    intro i hi
    refine Ev.of (fun k => reticuleref06_Same.mono_l k _ _ _) (k := 0 + 1) ?_
    rw [reticuleref06_Same.l0, if_neg (by omega)]
  | succ n ih =>
    intro i hi
    have hw : wrap64 ((i : Int) + 1) = ((i + 1 : Nat) : Int) := by unfold wrap64; omega
    refine Ev.step (f := fun k => reticuleref06_Same.l0 k l l ((i + 1 : Nat) : Int)) (fun k => ?_) (ih (i + 1) (by omega))
    rw [reticuleref06_Same.l0, if_pos (by omega), if_pos (by omega), if_pos (by omega), if_neg (by simp), hw]
theorem same_ev (l : List S37) (hl : l.length ≤ 1000) : Ev (fun k => reticuleref06_Same.f k l l) true := by
  refine Ev.congr (f := fun k => reticuleref06_Same.l0 k l l ((0 : Nat) : Int)) (fun k => ?_) (same_go l hl l.length 0 (by omega))
  unfold reticuleref06_Same.f
  rw [if_pos rfl]
  rfl
theorem toks_few : ∀ (b : Nat) (L : List Int) (a : Nat) (out : List S37), out.length ≤ 600 → (toks b L a out).1.length ≤ 600
  | 0, _, _, out, h => h
  | b + 1, L, a, out, h => by
    rw [toks]
    split
    · split
      · exact toks_few b L _ out h
      · split
        · exact toks_few b L _ out h
        · split
          · simp
          · split
            · simp
            · exact toks_few b L _ _ (by rw [List.length_append, List.length_singleton]; omega)
    · exact h
theorem tokensOf_few (L : List Int) : (tokensOf L).1.length ≤ 600 := by
  unfold tokensOf
  split
  · simp
  · exact toks_few _ _ _ _ (by simp)
theorem live_true : reticulelaw06_live.f = some true := by decide +kernel
end Go.Proofs.Ytiojfdgagdofiaa.HK
