/-
What kind of token a word is, by the program and by the document.
-/
import Derived.Test.YtiojfdgagdofiaaLexD
import Derived.Test.YtiojfdgagdofiaaHBx5
import Derived.Test.YtiojfdgagdofiaaHBx2
import Derived.Test.YtiojfdgagdofiaaHBx7
set_option linter.unusedVariables false
set_option linter.unusedSimpArgs false
namespace Go.Proofs.Ytiojfdgagdofiaa.HK
open Go.RowKit Go.Proofs.YtiojfdgagdofiaaW.PrintWords Go.Proofs.Ytiojfdgagdofiaa.HB

theorem toList_one (s : ByteArray) (c : UInt8) : s.toList = ([c] : List UInt8) ↔ codes s = [(c.toNat : Int)] := by
  rw [ByteArray.toList_eq]
  constructor
  · intro h; unfold codes; rw [h]; rfl
  · intro h
    have e : s = ⟨#[c]⟩ := codes_inj (by rw [h]; rfl)
    rw [e]
theorem kind_chain {s : ByteArray} {l : List UInt8} {g : Nat → Option Int} {R : Int} (ht : Ev (fun k => lex_WordKind.j0 k s true) 3) (hp : s.toList = l → R = 3) (hg : s.toList ≠ l → Ev g R) :
    Ev (fun k => if s.toList = l then lex_WordKind.j0 k s (s.toList == l) else g k) R := by
  by_cases h : s.toList = l
  · rw [hp h]
    refine Ev.congr (f := fun k => lex_WordKind.j0 k s true) (fun k => ?_) ht
    rw [if_pos h, show (s.toList == l) = true by simpa using h]
  · refine Ev.congr (f := g) (fun k => ?_) (hg h)
    rw [if_neg h]
theorem sign_of {l : List Int} (h : l = [43] ∨ l = [45] ∨ l = [42] ∨ l = [47] ∨ l = [37] ∨ l = [38] ∨ l = [124] ∨ l = [94] ∨ l = [61] ∨ l = [60]) : signB l = true := by
  rcases h with h | h | h | h | h | h | h | h | h | h <;> (subst h; decide)
theorem wordKind_ev (s : ByteArray) (hs : s.size ≤ 9223372036854775807) : Ev (fun k => lex_WordKind.f k s) (kindOf (codes s)) := by
  unfold lex_WordKind.f kindOf
  refine Ev.bind (parse_ev s) ?_
  by_cases h0 : (parseOf (codes s)).2 = 0
  · refine Ev.congr (f := fun _ => some 4) (fun k => if_pos h0) ?_
    rw [if_pos h0]
    exact Ev.now 4
  · rw [if_neg h0]
    simp only [h0, if_false]
    have ht : Ev (fun k => lex_WordKind.j0 k s true) 3 := Ev.of (fun k => lex_WordKind.mono_l k _ _) (k := 0 + 1) (by rw [lex_WordKind.j0, if_pos rfl])
    have hf : Ev (fun k => lex_WordKind.j0 k s false) (if namedOf (codes s) = true then 3 else 0) := Ev.of (fun k => lex_WordKind.mono_l k _ _) (k := 0 + 1) (by
      rw [lex_WordKind.j0, if_neg (by decide)]
      unfold lex_named.f
      rw [if_pos hs, Option.bind_some]
      split <;> rfl)
    have hR : signB (codes s) = true → (if signB (codes s) = true ∨ namedOf (codes s) = true then (3 : Int) else 0) = 3 := fun h => if_pos (.inl h)
    refine kind_chain ht (fun h => hR (sign_of (by have := (toList_one s 43).1 h; simp_all))) (fun n1 => ?_)
    refine kind_chain ht (fun h => hR (sign_of (by have := (toList_one s 45).1 h; simp_all))) (fun n2 => ?_)
    refine kind_chain ht (fun h => hR (sign_of (by have := (toList_one s 42).1 h; simp_all))) (fun n3 => ?_)
    refine kind_chain ht (fun h => hR (sign_of (by have := (toList_one s 47).1 h; simp_all))) (fun n4 => ?_)
    refine kind_chain ht (fun h => hR (sign_of (by have := (toList_one s 37).1 h; simp_all))) (fun n5 => ?_)
    refine kind_chain ht (fun h => hR (sign_of (by have := (toList_one s 38).1 h; simp_all))) (fun n6 => ?_)
    refine kind_chain ht (fun h => hR (sign_of (by have := (toList_one s 124).1 h; simp_all))) (fun n7 => ?_)
    refine kind_chain ht (fun h => hR (sign_of (by have := (toList_one s 94).1 h; simp_all))) (fun n8 => ?_)
    refine kind_chain ht (fun h => hR (sign_of (by have := (toList_one s 61).1 h; simp_all))) (fun n9 => ?_)
    by_cases n10 : s.toList = ([60] : List UInt8)
    · rw [hR (sign_of (by have := (toList_one s 60).1 n10; simp_all)), show (s.toList == ([60] : List UInt8)) = true by simpa using n10]
      exact ht
    · rw [show (s.toList == ([60] : List UInt8)) = false by simpa using n10]
      have hn : signB (codes s) = false := by
        unfold signB
        rw [decide_eq_false (show ¬ codes s = [43] from fun h => n1 ((toList_one s 43).2 h)), decide_eq_false (show ¬ codes s = [45] from fun h => n2 ((toList_one s 45).2 h)), decide_eq_false (show ¬ codes s = [42] from fun h => n3 ((toList_one s 42).2 h)), decide_eq_false (show ¬ codes s = [47] from fun h => n4 ((toList_one s 47).2 h)), decide_eq_false (show ¬ codes s = [37] from fun h => n5 ((toList_one s 37).2 h)), decide_eq_false (show ¬ codes s = [38] from fun h => n6 ((toList_one s 38).2 h)), decide_eq_false (show ¬ codes s = [124] from fun h => n7 ((toList_one s 124).2 h)), decide_eq_false (show ¬ codes s = [94] from fun h => n8 ((toList_one s 94).2 h)), decide_eq_false (show ¬ codes s = [61] from fun h => n9 ((toList_one s 61).2 h)), decide_eq_false (show ¬ codes s = [60] from fun h => n10 ((toList_one s 60).2 h))]
        rfl
      rw [hn]
      simpa using hf
/-! ### the document's -/
def okFrom (L : List Int) : Nat → Nat → Bool
  | 0, _ => true
  | n + 1, i => okAt L i && okFrom L n (i + 1)
theorem okFrom_range (L : List Int) : ∀ (n i : Nat), okFrom L n i = (List.range' i n).all (okAt L)
  | 0, _ => rfl
  | n + 1, i => by rw [okFrom, okFrom_range L n (i + 1), List.range'_succ, List.all_cons]
theorem name_loop (s : ByteArray) (hs : s.size ≤ 8) : ∀ (n i : Nat), i + n = s.size → Ev (fun k => reticuleref04_Name.l0 k s (i : Int)) (okFrom (codes s) n i) := by
  intro n
  induction n with
  | zero =>
    intro i hi
    refine Ev.of (fun k => (reticuleref04_Name.mono_l k).2 _ _) (k := 0 + 1) ?_
    rw [reticuleref04_Name.l0, if_neg (by omega)]
    rfl
  | succ n ih =>
    intro i hi
    have hbt : bt s (i : Int) = (codes s).getD i 0 := by rw [bt_codes]; rfl
    have hw : wrap64 ((i : Int) + 1) = ((i + 1 : Nat) : Int) := by unfold wrap64; omega
    obtain ⟨c, hc⟩ : ∃ c, c = (codes s).getD i 0 := ⟨_, rfl⟩
    have hok := okAt_char (l := codes s) (pos := i) (c := c) (.inl hc)
    rw [← hc] at hbt
    rw [okFrom, hok]
    have hih := ih (i + 1) (by omega)
    by_cases hA : (97 ≤ c ∧ c ≤ 122) ∨ ((48 ≤ c ∧ c ≤ 57) ∧ 0 < i)
    · have e : (letterB c || digitB c && decide (0 < i)) = true := by unfold letterB digitB; simp; omega
      rw [e, Bool.true_and]
      refine Ev.step (f := fun k => reticuleref04_Name.l0 k s ((i + 1 : Nat) : Int)) (fun k => ?_) hih
      rw [reticuleref04_Name.l0, if_pos (by omega), if_pos (by omega), hbt, hw]
      rcases hA with ⟨h1, h2⟩ | ⟨⟨h1, h2⟩, h3⟩
      · rw [if_pos (by omega), if_pos (by omega), if_pos h2]
      · rw [if_neg (by omega), if_pos (by omega), if_pos h2, if_neg (by omega)]
    · have e : (letterB c || digitB c && decide (0 < i)) = false := by unfold letterB digitB; simp; omega
      rw [e, Bool.false_and]
      refine Ev.of (fun k => (reticuleref04_Name.mono_l k).2 _ _) (k := 0 + 1) ?_
      rw [reticuleref04_Name.l0, if_pos (by omega), if_pos (by omega), hbt, hw]
      by_cases h1 : c ≥ 97
      · rw [if_pos h1, if_pos (by omega), if_neg (by omega), if_neg (by omega)]
      · rw [if_neg h1]
        by_cases h2 : c ≥ 48
        · rw [if_pos h2]
          by_cases h3 : c ≤ 57
          · rw [if_pos h3, if_pos (by omega)]
          · rw [if_neg h3]
        · rw [if_neg h2]
theorem refName_ev (s : ByteArray) : Ev (fun k => reticuleref04_Name.f k s) (namedOf (codes s)) := by
  have hl := codes_length s
  by_cases h1 : s.size < 1
  · have e : namedOf (codes s) = false := by unfold namedOf; rw [hl, decide_eq_false (by omega)]; rfl
    rw [e]
    refine Ev.of (fun k => reticuleref04_Name.mono s k) (k := 0 + 1) ?_
    unfold reticuleref04_Name.f
    rw [if_pos (by omega), reticuleref04_Name.j0, if_pos rfl]
  · by_cases h8 : 8 < s.size
    · have e : namedOf (codes s) = false := by unfold namedOf; rw [hl, decide_eq_false (show ¬ s.size ≤ 8 by omega), Bool.and_false]; rfl
      rw [e]
      refine Ev.of (fun k => reticuleref04_Name.mono s k) (k := 0 + 1) ?_
      unfold reticuleref04_Name.f
      rw [if_neg (by omega), decide_eq_true (by omega), reticuleref04_Name.j0, if_pos rfl]
    · have e : namedOf (codes s) = okFrom (codes s) s.size 0 := by
        unfold namedOf
        rw [hl, decide_eq_true (show 1 ≤ s.size by omega), decide_eq_true (show s.size ≤ 8 by omega), okFrom_range, List.range_eq_range']
        rfl
      rw [e]
      refine Ev.congr (f := fun k => reticuleref04_Name.j0 k s false) (fun k => ?_) (Ev.step (f := fun k => reticuleref04_Name.l0 k s ((0 : Nat) : Int)) (fun k => ?_) (name_loop s (by omega) s.size 0 (by omega)))
      · unfold reticuleref04_Name.f
        rw [if_neg (by omega), decide_eq_false (by omega)]
      · rw [reticuleref04_Name.j0, if_neg (by decide)]
        rfl
theorem signs_loop (s : ByteArray) (X : List ByteArray) (hX : X.length ≤ 1000) : ∀ (n i : Nat), i + n = X.length → Ev (fun k => reticuleref06_WordKind.l0 k s X (i : Int)) (if (X.drop i).any (fun x => s.toList == x.toList) = true then 3 else 0) := by
  intro n
  induction n with
  | zero =>
    intro i hi
    refine Ev.of (fun k => reticuleref06_WordKind.mono_l k _ _ _) (k := 0 + 1) ?_
    rw [reticuleref06_WordKind.l0, if_neg (by omega), List.drop_eq_nil_of_le (by omega)]
    rfl
  | succ n ih =>
    intro i hi
    have hw : wrap64 ((i : Int) + 1) = ((i + 1 : Nat) : Int) := by unfold wrap64; omega
    have hlt : i < X.length := by omega
    have hd : X.drop i = X[i] :: X.drop (i + 1) := List.drop_eq_getElem_cons hlt
    have hr : rdOf ByteArray.empty X (i : Int) = X[i] := by
      unfold rdOf
      rw [Int.toNat_natCast, List.getD_eq_getElem?_getD, List.getElem?_eq_getElem hlt]; rfl
    rw [hd, List.any_cons]
    by_cases h : s.toList = X[i].toList
    · refine Ev.of (fun k => reticuleref06_WordKind.mono_l k _ _ _) (k := 0 + 1) ?_
      rw [reticuleref06_WordKind.l0, if_pos (by omega), if_pos (by omega), hr, if_pos h, show (s.toList == X[i].toList) = true by simpa using h]
      rfl
    · refine Ev.step (f := fun k => reticuleref06_WordKind.l0 k s X ((i + 1 : Nat) : Int)) (fun k => ?_) ?_
      · rw [reticuleref06_WordKind.l0, if_pos (by omega), if_pos (by omega), hr, if_neg h, hw]
      · rw [show (s.toList == X[i].toList) = false by simpa using h, Bool.false_or]
        exact ih (i + 1) (by omega)
theorem refWordKind_ev (s : ByteArray) (hs : s.size ≤ 140737488351232) : Ev (fun k => reticuleref06_WordKind.f k s) (kindOf (codes s)) := by
  unfold reticuleref06_WordKind.f kindOf
  refine Ev.bind (refParse_ev s hs) ?_
  by_cases h0 : (parseOf (codes s)).2 = 0
  · refine Ev.congr (f := fun _ => some 4) (fun k => if_pos h0) ?_
    rw [if_pos h0]
    exact Ev.now 4
  · rw [if_neg h0]
    simp only [h0, if_false]
    refine Ev.bind (refName_ev s) ?_
    by_cases hn : namedOf (codes s) = true
    · refine Ev.congr (f := fun _ => some 3) (fun k => if_pos hn) ?_
      rw [if_pos (.inr hn)]
      exact Ev.now 3
    · simp only [hn, if_false]
      have h := signs_loop s [(⟨#[43]⟩ : ByteArray), (⟨#[45]⟩ : ByteArray), (⟨#[42]⟩ : ByteArray), (⟨#[47]⟩ : ByteArray), (⟨#[37]⟩ : ByteArray), (⟨#[38]⟩ : ByteArray), (⟨#[124]⟩ : ByteArray), (⟨#[94]⟩ : ByteArray), (⟨#[61]⟩ : ByteArray), (⟨#[60]⟩ : ByteArray)] (by decide) 10 0 rfl
      have hb : ∀ c : UInt8, (s.toList == (ByteArray.mk #[c]).toList) = decide (codes s = [(c.toNat : Int)]) := by
        intro c
        rw [Bool.eq_iff_iff, beq_iff_eq, decide_eq_true_eq, ByteArray.toList_eq (ByteArray.mk #[c])]
        exact toList_one s c
      have e : (List.drop 0 [(⟨#[43]⟩ : ByteArray), (⟨#[45]⟩ : ByteArray), (⟨#[42]⟩ : ByteArray), (⟨#[47]⟩ : ByteArray), (⟨#[37]⟩ : ByteArray), (⟨#[38]⟩ : ByteArray), (⟨#[124]⟩ : ByteArray), (⟨#[94]⟩ : ByteArray), (⟨#[61]⟩ : ByteArray), (⟨#[60]⟩ : ByteArray)]).any (fun x => s.toList == x.toList) = signB (codes s) := by
        unfold signB
        simp only [List.drop_zero, List.any_cons, List.any_nil, Bool.or_false, hb, Bool.or_assoc]
        rfl
      rw [e] at h
      simpa [hn] using h
theorem spaced_f (c : Int) : lex_Spaced.f c = some (spacedB c) := by
  unfold lex_Spaced.f spacedB
  by_cases h1 : c = 32
  · simp [h1]
  · by_cases h2 : c = 9
    · simp [h2]
    · by_cases h3 : c = 10
      · simp [h3]
      · simp [h1, h2, h3]
end Go.Proofs.Ytiojfdgagdofiaa.HK
