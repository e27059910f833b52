/-
LexWords: what kind of token a word is; which signs stand between words; where a place stands. For every word, sign, and place: the plain law, without program and memory.
-/
import Derived.Test.YtiojfdgagdofiaaLexG
import Derived.Lib.LastIndexByte
set_option linter.unusedVariables false
set_option linter.unusedSimpArgs false
namespace Go.Proofs.Ytiojfdgagdofiaa.Pure
open Go.RowKit Go.Proofs.Ytiojfdgagdofiaa.HB Go.Proofs.Ytiojfdgagdofiaa.HK Go.Proofs.YtiojfdgagdofiaaW.PrintWords Go.Proofs.YtiojfdgagdofiaaW.PrintLast

/-- How many lines, and how far in the last one, the first n bytes are. -/
def lineAt (L : List Int) : Nat → Nat × Nat
  | 0 => (0, 0)
  | n + 1 => if L.getD n 0 = 10 then ((lineAt L n).1 + 1, 0) else ((lineAt L n).1, (lineAt L n).2 + 1)
theorem lineAt_le (L : List Int) : ∀ n, (lineAt L n).1 ≤ n ∧ (lineAt L n).2 ≤ n
  | 0 => ⟨Nat.le_refl _, Nat.le_refl _⟩
  | n + 1 => by
    have := lineAt_le L n
    rw [lineAt]
    split
    · simp only; omega
    · simp only; omega
theorem lineAt_none (L : List Int) : ∀ n, (∀ j, j < n → L.getD j 0 ≠ 10) → (lineAt L n).2 = n
  | 0, _ => rfl
  | n + 1, h => by
    rw [lineAt, if_neg (h n (by omega))]
    have := lineAt_none L n (fun j hj => h j (by omega))
    simp only; omega
theorem lineAt_last (L : List Int) : ∀ n i, i < n → L.getD i 0 = 10 → (∀ j, i < j → j < n → L.getD j 0 ≠ 10) → (lineAt L n).2 + i + 1 = n
  | 0, i, hi, _, _ => by omega
  | n + 1, i, hi, h10, h => by
    rw [lineAt]
    by_cases e : i = n
    · subst e
      rw [if_pos h10]
      simp only; omega
    · rw [if_neg (h n (by omega) (by omega))]
      have := lineAt_last L n i (by omega) h10 (fun j h1 h2 => h j h1 (by omega))
      simp only; omega
theorem lineAt_count (L : List Int) : ∀ n, n ≤ L.length → (lineAt L n).1 = (L.take n).count 10
  | 0, _ => by simp [lineAt]
  | n + 1, h => by
    have ih := lineAt_count L n (by omega)
    rw [lineAt, List.take_succ_eq_append_getElem (by omega), List.count_append]
    have e : L.getD n 0 = L[n] := by rw [List.getD_eq_getElem?_getD, List.getElem?_eq_getElem (by omega)]; rfl
    by_cases hc : L.getD n 0 = 10
    · rw [if_pos hc]
      rw [e] at hc
      simp only [hc, ih]
      simp
    · rw [if_neg hc]
      rw [e] at hc
      simp only [ih]
      simp [hc]
theorem count_codes (l : List UInt8) : l.count 10 = (l.map (fun b => (b.toNat : Int))).count 10 := by
  induction l with
  | nil => rfl
  | cons b l ih =>
    rw [List.map_cons, List.count_cons, List.count_cons, ih]
    congr 1
    by_cases h : b = 10
    · subst h; rfl
    · have h2 : ((b.toNat : Nat) : Int) ≠ 10 := fun e => h (UInt8.toNat.inj (by
        have : (10 : UInt8).toNat = 10 := rfl
        omega))
      simp [h, h2]
theorem byte_at_code (t : ByteArray) (k : Nat) (h : k < t.size) : ((t[k]'h).toNat : Int) = (codes t).getD k 0 := by
  have := bt_codes t (k : Int)
  rw [Int.toNat_natCast] at this
  rw [← this]
  unfold bt
  rw [dif_pos (by simpa using h)]
  rfl
theorem wsucc (n : Nat) (h : n ≤ 100000) : wrap64 ((n : Int) + 1) = ((n + 1 : Nat) : Int) := by unfold wrap64; omega
theorem l0_in (k : Nat) (s : ByteArray) (at_ x y : Int) (i : Nat) (h1 : (i : Int) < at_) (h2 : i < s.size) : reticuleref06_Line.l0 (k + 1) s at_ x y (i : Int) = reticuleref06_Line.j1 k s at_ x y (i : Int) true := by
  rw [reticuleref06_Line.l0, if_pos h1, decide_eq_true (Int.ofNat_lt.2 h2)]
theorem j1_nl (k : Nat) (s : ByteArray) (at_ : Int) (a b i : Nat) (h : i < s.size) (ha : a ≤ 200) (hi : i ≤ 200) (hc : (codes s).getD i 0 = 10) : reticuleref06_Line.j1 (k + 1) s at_ (a : Int) (b : Int) (i : Int) true = reticuleref06_Line.l0 k s at_ ((a + 1 : Nat) : Int) ((0 : Nat) : Int) ((i + 1 : Nat) : Int) := by
  rw [reticuleref06_Line.j1, if_pos rfl, if_pos (Int.natCast_nonneg i), if_pos (Int.ofNat_lt.2 h), bt_codes, Int.toNat_natCast, if_pos hc, wsucc a (by omega), wsucc i (by omega)]
  rfl
theorem j1_no (k : Nat) (s : ByteArray) (at_ : Int) (a b i : Nat) (h : i < s.size) (hb : b ≤ 200) (hi : i ≤ 200) (hc : (codes s).getD i 0 ≠ 10) : reticuleref06_Line.j1 (k + 1) s at_ (a : Int) (b : Int) (i : Int) true = reticuleref06_Line.l0 k s at_ (a : Int) ((b + 1 : Nat) : Int) ((i + 1 : Nat) : Int) := by
  rw [reticuleref06_Line.j1, if_pos rfl, if_pos (Int.natCast_nonneg i), if_pos (Int.ofNat_lt.2 h), bt_codes, Int.toNat_natCast, if_neg hc, wsucc b (by omega), wsucc i (by omega)]
theorem refLine_go (s : ByteArray) (hs : s.size ≤ 200) (at_ : Int) : ∀ (n i : Nat), i + n = (if at_ < 0 then 0 else min at_.toNat s.size) →
    Ev (fun k => reticuleref06_Line.l0 k s at_ ((lineAt (codes s) i).1 : Int) ((lineAt (codes s) i).2 : Int) (i : Int)) (((lineAt (codes s) (i + n)).1 : Int), ((lineAt (codes s) (i + n)).2 : Int)) := by
  intro n
  induction n with
  | zero =>
    intro i hi
    refine Ev.of (fun k => (reticuleref06_Line.mono_l k).1 _ _ _ _ _) (k := 0 + 1 + 1) ?_
    rw [reticuleref06_Line.l0, Nat.add_zero]
    by_cases h : (i : Int) < at_
    · have hge : ¬ (i : Int) < (s.size : Int) := by
        rw [if_neg (by omega)] at hi
        omega
      rw [if_pos h, decide_eq_false hge, reticuleref06_Line.j1, if_neg (by decide)]
    · rw [if_neg h, reticuleref06_Line.j1, if_neg (by decide)]
  | succ n ih =>
    intro i hi
    have hpos : ¬ at_ < 0 := fun h => by rw [if_pos h] at hi; omega
    have hi2 := hi
    rw [if_neg hpos] at hi2
    have h1 : (i : Int) < at_ := by omega
    have h2 : i < s.size := by omega
    have h200 : i ≤ 200 := by omega
    have hih := ih (i + 1) (by omega)
    rw [show i + 1 + n = i + (n + 1) by omega] at hih
    clear ih hi hi2
    refine Ev.step (f := fun k => reticuleref06_Line.j1 k s at_ ((lineAt (codes s) i).1 : Int) ((lineAt (codes s) i).2 : Int) (i : Int) true) (fun k => l0_in k s at_ _ _ i h1 h2) (Ev.step (f := fun k => reticuleref06_Line.l0 k s at_ ((lineAt (codes s) (i + 1)).1 : Int) ((lineAt (codes s) (i + 1)).2 : Int) ((i + 1 : Nat) : Int)) (fun k => ?_) hih)
    by_cases hc : (codes s).getD i 0 = 10
    · rw [lineAt, if_pos hc]
      exact j1_nl k s at_ _ _ i h2 (Nat.le_trans (lineAt_le (codes s) i).1 h200) h200 hc
    · rw [lineAt, if_neg hc]
      exact j1_no k s at_ _ _ i h2 (Nat.le_trans (lineAt_le (codes s) i).2 h200) h200 hc
/-- How many bytes are ahead of a place. -/
def aheadOf (n : Nat) (at_ : Int) : Nat := if at_ < 0 then 0 else min at_.toNat n
theorem refLine_ev (s : ByteArray) (hs : s.size ≤ 200) (at_ : Int) : Ev (fun k => reticuleref06_Line.f k s at_) (((lineAt (codes s) (aheadOf s.size at_)).1 : Int), ((lineAt (codes s) (aheadOf s.size at_)).2 : Int)) := by
  have := refLine_go s hs at_ (aheadOf s.size at_) 0 (by rw [Nat.zero_add]; rfl)
  rw [Nat.zero_add] at this
  exact this
theorem line_f (s : ByteArray) (hs : s.size ≤ 3010) (at_ : Int) : lex_Line.f s at_ = some (((lineAt (codes s) (aheadOf s.size at_)).1 : Int), ((lineAt (codes s) (aheadOf s.size at_)).2 : Int)) := by
  have e : mn (mx at_ 0) (s.size : Int) = ((aheadOf s.size at_ : Nat) : Int) := by
    unfold mn mx aheadOf
    repeat' split
    all_goals omega
  have hle : aheadOf s.size at_ ≤ s.size := by unfold aheadOf; split <;> omega
  unfold lex_Line.f
  rw [e, if_pos (by omega), if_pos (by omega), Int.toNat_natCast]
  obtain ⟨p, hp⟩ : ∃ p, p = aheadOf s.size at_ := ⟨_, rfl⟩
  rw [← hp] at hle ⊢
  have hsz : (s.extract 0 p).size = p := by simp [ByteArray.size_extract]; omega
  have hcd : codes (s.extract 0 p) = (codes s).take p := by rw [codes_extract, List.drop_zero]
  have hcount : strings_Count.f (s.extract 0 p) (⟨#[10]⟩ : ByteArray) = some ((lineAt (codes s) p).1 : Int) := by
    unfold strings_Count.f
    rw [dif_pos (show (ByteArray.mk #[10]).data.size = 1 from rfl), lineAt_count _ _ (by rw [codes_length]; exact hle), ← hcd]
    show some ((((s.extract 0 p).data.toList.count 10 : Nat)) : Int) = _
    rw [count_codes]
    rfl
  have hgd : ∀ j, j < p → (((s.extract 0 p).data[j]!).toNat : Int) = (codes s).getD j 0 := by
    intro j hj
    have h1 : j < (s.extract 0 p).size := by omega
    have h2 := byte_at_code (s.extract 0 p) j h1
    rw [hcd, List.getD_eq_getElem?_getD, List.getElem?_take, if_pos hj, ← List.getD_eq_getElem?_getD] at h2
    rw [← h2]
    rw [getElem!_pos _ j (by simpa using h1)]
    rfl
  have hlast : (wrap64 ((wrap64 (((s.extract 0 p).size : Int) - 1)) - Lib.lastIndexByte (s.extract 0 p) 10)) = ((lineAt (codes s) p).2 : Int) := by
    rw [hsz]
    rcases Lib.lastIndexByte_spec (s.extract 0 p) 10 with ⟨h, hn⟩ | ⟨i, hi, h, h10, hn⟩
    · rw [h, lineAt_none _ _ (fun j hj => by rw [← hgd j hj]; exact hn j (by omega))]
      unfold wrap64; omega
    · rw [hsz] at hi
      have := lineAt_last (codes s) p i hi (by rw [← hgd i hi]; exact h10) (fun j h1 h2 => by rw [← hgd j h2]; exact hn j h1 (by omega))
      rw [h]
      unfold wrap64; omega
  rw [hcount]
  unfold strings_LastIndexByte.f
  rw [if_pos (by omega)]
  simp only [Option.bind_some]
  rw [hlast]
theorem words_go (t : ByteArray) (ht : t.size ≤ 200) (c at_ : Int) : ∃ k, reticulelaw06_LexWords.j0 k t c at_ = some true := by
  have h1 := refLine_ev t ht at_
  have h2 := wordKind_ev t (by omega)
  have h3 := refWordKind_ev t (by omega)
  have h : Ev (fun k => reticulelaw06_LexWords.j0 k t c at_) true := by
    refine Ev.step (f := fun k => (reticuleref06_Line.f k t at_).bind fun bt180 => ((lex_WordKind.f k t).bind fun t183 => ((reticuleref06_WordKind.f k t).bind fun t184 => (if t183 = t184 then (if ((lineAt (codes t) (aheadOf t.size at_)).1 : Int) = bt180.1 then (some (((lineAt (codes t) (aheadOf t.size at_)).2 : Int) == bt180.2)) else (some false)) else (some false))))) (fun k => ?_) (Ev.bind h1 (Ev.bind h2 (Ev.bind h3 ?_)))
    · rw [reticulelaw06_LexWords.j0, line_f t (by omega), live_true]
      simp only [Option.bind_some, if_true, spaced_f]
      have e : reticuleref06_Spaced.f c = some (spacedB c) := by
        unfold reticuleref06_Spaced.f spacedB
        by_cases h1 : c = 32
        · simp [h1]
        · by_cases h2 : c = 9
          · simp [h2]
          · by_cases h3 : c = 10
            · simp [h3]
            · simp [h1, h2, h3]
      simp only [e, Option.bind_some, beq_self_eq_true, if_true]
    · refine Ev.congr (f := fun _ => some true) (fun k => ?_) (Ev.now true)
      rw [if_pos rfl, if_pos rfl]
      simp
  exact h.rounds
theorem LexWords : reticulelaw06_LexWords.Pure := by
  intro s c at_ hs _ _
  by_cases h : 200 < s.size
  · obtain ⟨k, hk⟩ := words_go (s.extract 0 200) (by simp [ByteArray.size_extract]; omega) c at_
    refine ⟨k, ?_⟩
    unfold reticulelaw06_LexWords.f
    rw [if_pos (by omega), if_pos (by omega), if_pos (by omega)]
    exact hk
  · obtain ⟨k, hk⟩ := words_go s (by omega) c at_
    refine ⟨k, ?_⟩
    unfold reticulelaw06_LexWords.f
    rw [if_neg (by omega)]
    exact hk
end Go.Proofs.Ytiojfdgagdofiaa.Pure
