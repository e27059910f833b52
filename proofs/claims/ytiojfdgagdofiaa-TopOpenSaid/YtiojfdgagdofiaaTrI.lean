/-
What parser.take does with one token, as a plain function; its contract over the translation.
-/
import Derived.Test.YtiojfdgagdofiaaTrD
import Derived.Test.YtiojfdgagdofiaaTrE
import Derived.Test.YtiojfdgagdofiaaTrF
import Derived.Test.YtiojfdgagdofiaaTrG
import Derived.Test.YtiojfdgagdofiaaTrH
set_option linter.unusedVariables false
set_option linter.unusedSimpArgs false
namespace Go.Proofs.Ytiojfdgagdofiaa.HP
open Go.RowKit Go.Proofs.Ytiojfdgagdofiaa.HB Go.Proofs.Ytiojfdgagdofiaa.HK Go.Proofs.YtiojfdgagdofiaaW.PrintWords Go.Proofs.YtiojfdgagdofiaaW.PrintLast Go.Proofs.YtiojfdgagdofiaaW.PrintMore
variable {w0 w : World} {fs : List FormP} {fv : Value} {vs : Nat → Value} {ls : Nat → List Int}
/-- The form that a token makes. -/
def formOf (T : S37) : FormP := ⟨T.f0, if T.f0 = 3 then T.f1 else ⟨#[]⟩, if T.f0 = 4 then T.f2 else 0, T.f3⟩
def takeP (fs : List FormP) (ls : Nat → List Int) (T : S37) : Except (Int × Int) (List FormP × (Nat → List Int)) :=
  if T.f0 = 2 then (if (ls 1).length = 0 then .error (T.f3, 8) else .ok (fs, closeLs ls))
  else if T.f0 = 1 ∧ ¬ (ls 1).length < 12 then .error (T.f3, 4)
  else if T.f0 = 1 ∨ T.f0 = 3 ∨ T.f0 = 4 then (if fs.length < 400 then .ok (fs ++ [formOf T], addLs fs.length T.f0 ls) else .error (T.f3, 4))
  else .ok (fs, ls)
/-- What holds between two tokens. -/
def TInv (fs : List FormP) (ls : Nat → List Int) : Prop :=
  fs.length ≤ 400 ∧ (∀ i, (ls i).length ≤ fs.length) ∧ ∀ x ∈ ls 1, ∃ b : Nat, x = (b : Int) ∧ b < fs.length
theorem addLs_len (n : Nat) (k : Int) (ls : Nat → List Int) (h : ∀ i, (ls i).length ≤ n) : ∀ i, (addLs n k ls i).length ≤ n + 1 := by
  have h1 : ∀ i, (upd ls (n + 2) [] i).length ≤ n := by
    intro i
    unfold upd
    split
    · simp
    · exact h i
  have hp : ∀ (f : Nat → List Int) (j : Nat), (∀ i, (f i).length ≤ n) → ∀ i, (upd f j (f j ++ [(n : Int)]) i).length ≤ n + 1 := by
    intro f j hf i
    unfold upd
    split
    · rw [List.length_append, List.length_singleton]; have := hf j; omega
    · have := hf i; omega
  have h11 : upd ls (n + 2) [] 1 = ls 1 := upd_other _ _ (by omega)
  intro i
  unfold addLs
  by_cases h0 : (ls 1).length = 0
  · rw [if_pos h0]
    split
    · by_cases hi : i = 1
      · subst hi
        rw [upd_same, upd_other _ _ (by omega), h11, List.length_append, List.length_singleton]
        have := h 1; omega
      · rw [upd_other _ _ hi]; exact hp _ 0 h1 i
    · exact hp _ 0 h1 i
  · rw [if_neg h0]
    split
    · by_cases hi : i = 1
      · subst hi
        rw [upd_same, upd_other _ _ (by omega), h11, List.length_append, List.length_singleton]
        have := h 1; omega
      · rw [upd_other _ _ hi]; exact hp _ _ h1 i
    · exact hp _ _ h1 i
theorem addLs_one (n : Nat) (k : Int) (ls : Nat → List Int) : addLs n k ls 1 = if k = 1 then ls 1 ++ [(n : Int)] else ls 1 := by
  have h11 : upd ls (n + 2) [] 1 = ls 1 := upd_other _ _ (by omega)
  unfold addLs
  by_cases h0 : (ls 1).length = 0
  · rw [if_pos h0]
    split
    · rw [upd_same, upd_other _ _ (by omega), h11]
    · rw [upd_other _ _ (by omega), h11]
  · rw [if_neg h0]
    split
    · rw [upd_same, upd_other _ _ (by omega), h11]
    · rw [upd_other _ _ (by omega), h11]
theorem TInv.start : TInv [] (fun _ => []) := ⟨Nat.zero_le _, fun _ => Nat.le_refl _, fun x hx => by simp at hx⟩
theorem TInv.take (h : TInv fs ls) {T : S37} {fs' : List FormP} {ls' : Nat → List Int} (ht : takeP fs ls T = .ok (fs', ls')) : TInv fs' ls' := by
  obtain ⟨h1, h2, h3⟩ := h
  unfold takeP at ht
  by_cases e2 : T.f0 = 2
  · rw [if_pos e2] at ht
    by_cases e0 : (ls 1).length = 0
    · rw [if_pos e0] at ht; cases ht
    · rw [if_neg e0] at ht
      injection ht with ht
      injection ht with ha hb
      subst ha hb
      refine ⟨h1, fun i => ?_, fun x hx => ?_⟩
      · unfold closeLs upd
        split
        · rename_i hi; subst hi
          rw [List.length_take]; have := h2 1; omega
        · exact h2 i
      · unfold closeLs at hx
        rw [upd_same] at hx
        exact h3 x (List.mem_of_mem_take hx)
  · rw [if_neg e2] at ht
    by_cases e1 : T.f0 = 1 ∧ ¬ (ls 1).length < 12
    · rw [if_pos e1] at ht; cases ht
    · rw [if_neg e1] at ht
      by_cases e3 : T.f0 = 1 ∨ T.f0 = 3 ∨ T.f0 = 4
      · rw [if_pos e3] at ht
        by_cases e4 : fs.length < 400
        · rw [if_pos e4] at ht
          injection ht with ht
          injection ht with ha hb
          subst ha hb
          refine ⟨by rw [List.length_append, List.length_singleton]; omega, fun i => ?_, fun x hx => ?_⟩
          · rw [List.length_append, List.length_singleton]; exact addLs_len _ _ _ h2 i
          · rw [List.length_append, List.length_singleton]
            rw [addLs_one] at hx
            split at hx
            · rcases List.mem_append.1 hx with hx | hx
              · obtain ⟨b, hb, hlt⟩ := h3 x hx
                exact ⟨b, hb, by omega⟩
              · exact ⟨fs.length, List.mem_singleton.1 hx, by omega⟩
            · obtain ⟨b, hb, hlt⟩ := h3 x hx
              exact ⟨b, hb, by omega⟩
        · rw [if_neg e4] at ht; cases ht
      · rw [if_neg e3] at ht
        injection ht with ht
        injection ht with ha hb
        subst ha hb
        exact ⟨h1, h2, h3⟩
/-- How the call ends. -/
def TakeEnds (w0 : World) (r : Except (Int × Int) (List FormP × (Nat → List Int))) (e : Ending) (w' : World) : Prop :=
  match r with
  | .ok (fs', ls') => e = .returned (.tuple #[]) ∧ ∃ fv' vs', IsParser w0 w' fs' fv' vs' ls'
  | .error (a, why) => e = gaveUp a why ∧ Below w0.heap.size w0 w'
theorem take_calls (h : IsParser w0 w fs fv vs ls) (hI : TInv fs ls) (T : S37) :
    Calls Try.prog 42 #[.pointer (some ⟨w0.heap.size, 0, none⟩), .agg #[.int .u8 T.f0, .string T.f1, .int .i64 T.f2, .int .i64 T.f3]] w fun e w' => TakeEnds w0 (takeP fs ls T) e w' := by
  obtain ⟨k, t, n, a⟩ := T
  have hlen : ∀ i, (ls i).length ≤ 400 := fun i => Nat.le_trans (hI.2.1 i) hI.1
  unfold takeP formOf
  dsimp only
  by_cases e2 : k = 2
  · subst e2
    rw [if_pos rfl]
    by_cases e0 : (ls 1).length = 0
    · rw [if_pos e0]; exact take_close_no h t n a e0
    · rw [if_neg e0]
      refine (take_close_ok h t n a (by omega) (hlen 1)).mono ?_
      rintro e w' ⟨rfl, vs', hq⟩
      exact ⟨rfl, _, _, hq⟩
  · rw [if_neg e2]
    by_cases e1 : k = 1
    · subst e1
      by_cases e0 : (ls 1).length < 12
      · rw [if_neg (by rintro ⟨_, h⟩; exact h e0), if_pos (.inl rfl)]
        by_cases e4 : fs.length < 400
        · rw [if_pos e4, if_neg (show ¬ (1 : Int) = 3 by decide), if_neg (show ¬ (1 : Int) = 4 by decide)]; exact take_open_add h t n a e0 (by omega) hlen hI.2.2
        · rw [if_neg e4]; exact take_open_full h t n a e0 e4
      · rw [if_pos ⟨rfl, e0⟩]; exact take_open_deep h t n a e0
    · rw [if_neg (fun h => e1 h.1)]
      by_cases e3 : k = 3
      · subst e3
        rw [if_pos (.inr (.inl rfl))]
        by_cases e4 : fs.length < 400
        · rw [if_pos e4, if_pos rfl, if_neg (show ¬ (3 : Int) = 4 by decide)]; exact take_name_add h t n a (by omega) hlen hI.2.2
        · rw [if_neg e4]; exact take_name_full h t n a e4
      · by_cases e5 : k = 4
        · subst e5
          rw [if_pos (.inr (.inr rfl))]
          by_cases e4 : fs.length < 400
          · rw [if_pos e4, if_neg (show ¬ (4 : Int) = 3 by decide), if_pos rfl]; exact take_num_add h t n a (by omega) hlen hI.2.2
          · rw [if_neg e4]; exact take_num_full h t n a e4
        · rw [if_neg (by rintro (h | h | h); exact e1 h; exact e3 h; exact e5 h)]
          refine (take_other h k t n a e1 e2 e3 e5).mono ?_
          rintro e w' ⟨rfl, hq⟩
          exact ⟨rfl, _, _, hq⟩
def runP : List FormP → (Nat → List Int) → List S37 → Except (Int × Int) (List FormP × (Nat → List Int))
  | fs, ls, [] => .ok (fs, ls)
  | fs, ls, T :: r => match takeP fs ls T with
    | .ok (fs', ls') => runP fs' ls' r
    | .error e => .error e
/-- What Parse answers. -/
def parseP (ts : List S37) : Except (Int × Int) (List FormP × (Nat → List Int)) :=
  match runP [] (fun _ => []) ts with
  | .ok (fs, ls) => if 0 < (ls 1).length then .error ((fs.getD (lastOpen (ls 1)) ⟨0, ⟨#[]⟩, 0, 0⟩).at_, 8) else .ok (fs, ls)
  | .error e => .error e
theorem TInv.run : ∀ (ts : List S37) (fs : List FormP) (ls : Nat → List Int), TInv fs ls → ∀ fs' ls', runP fs ls ts = .ok (fs', ls') → TInv fs' ls'
  | [], fs, ls, h, fs', ls', he => by
    injection he with he
    injection he with ha hb
    subst ha hb
    exact h
  | T :: r, fs, ls, h, fs', ls', he => by
    rw [runP] at he
    cases ht : takeP fs ls T with
    | error e => rw [ht] at he; cases he
    | ok p =>
      obtain ⟨fs1, ls1⟩ := p
      rw [ht] at he
      exact TInv.run r fs1 ls1 (h.take ht) fs' ls' he
end Go.Proofs.Ytiojfdgagdofiaa.HP
