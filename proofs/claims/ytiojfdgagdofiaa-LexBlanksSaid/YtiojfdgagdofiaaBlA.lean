/-
More signs between words change nothing but places: plain facts.
-/
import Derived.Test.YtiojfdgagdofiaaLexG
set_option linter.unusedVariables false
set_option linter.unusedSimpArgs false
namespace Go.Proofs.Ytiojfdgagdofiaa.HK
open Go.RowKit Go.Proofs.YtiojfdgagdofiaaW.PrintWords Go.Proofs.Ytiojfdgagdofiaa.HB

/-- A token without its place. -/
def strip (T : S37) : Int × ByteArray × Int := (T.f0, T.f1, T.f2)
/-- The tokens of what is left, without places. -/
def toksS : Nat → List Int → Nat → List (Int × ByteArray × Int) × Int
  | 0, _, _ => ([], 0)
  | k + 1, l, m =>
    match l with
    | [] => ([], 0)
    | c :: r =>
      if spacedB c = true then toksS k r m
      else if c = 59 then toksS k ((c :: r).drop (remLen (c :: r))) m
      else if (tokenOf ((c :: r).take (wordLen (c :: r))) 0).f0 = 0 then ([], 8)
      else if 600 ≤ m then ([], 4)
      else (let q := toksS k ((c :: r).drop (wordLen (c :: r))) (m + 1); if q.2 = 0 then (strip (tokenOf ((c :: r).take (wordLen (c :: r))) 0) :: q.1, 0) else ([], q.2))
theorem strip_at (t : List Int) (a : Nat) : strip (tokenOf t a) = strip (tokenOf t 0) ∧ (tokenOf t a).f0 = (tokenOf t 0).f0 := by
  unfold tokenOf
  split
  · exact ⟨rfl, rfl⟩
  · split
    · exact ⟨rfl, rfl⟩
    · exact ⟨rfl, rfl⟩
/-- The two tellings are one. -/
theorem toks_S : ∀ (b : Nat) (L : List Int) (a : Nat) (out : List S37), a ≤ L.length → L.length - a < b →
    (toks b L a out).2.2 = (toksS b (L.drop a) out.length).2 ∧ (toks b L a out).1.map strip = (if (toksS b (L.drop a) out.length).2 = 0 then out.map strip ++ (toksS b (L.drop a) out.length).1 else [])
  | 0, L, a, out, _, hb => by omega
  | b + 1, L, a, out, ha, hb => by
    by_cases hlt : a < L.length
    · obtain ⟨c, hc⟩ : ∃ c, c = L.getD a 0 := ⟨_, rfl⟩
      have hd : L.drop a = c :: L.drop (a + 1) := by rw [hc]; exact drop_cons hlt
      rw [toks, if_pos hlt, ← hc, hd, toksS]
      by_cases hsp : spacedB c = true
      · rw [if_pos hsp, if_pos hsp]
        exact toks_S b L (a + 1) out (by omega) (by omega)
      · rw [if_neg hsp, if_neg hsp]
        by_cases h59 : c = 59
        · rw [if_pos h59, if_pos h59, ← hd, List.drop_drop]
          have h1 := remLen_pos hlt (by rw [← hc]; exact h59)
          have h2 := remLen_le (L.drop a)
          rw [List.length_drop] at h2
          exact toks_S b L _ out (by omega) (by omega)
        · rw [if_neg h59, if_neg h59, ← hd]
          have h1 := wordLen_pos hlt (by rw [← hc]; simpa using hsp) (by rw [← hc]; exact h59)
          have h2 := wordLen_le (L.drop a)
          rw [List.length_drop] at h2
          obtain ⟨n, hn⟩ : ∃ n, n = wordLen (L.drop a) := ⟨_, rfl⟩
          rw [← hn] at h1 h2 ⊢
          obtain ⟨hs1, hs2⟩ := strip_at ((L.drop a).take n) a
          rw [hs2]
          by_cases h0 : (tokenOf ((L.drop a).take n) 0).f0 = 0
          · rw [if_pos h0, if_pos h0]
            exact ⟨rfl, rfl⟩
          · rw [if_neg h0, if_neg h0]
            by_cases h6 : 600 ≤ out.length
            · rw [if_pos h6, if_pos h6]
              exact ⟨rfl, rfl⟩
            · rw [if_neg h6, if_neg h6, List.drop_drop]
              obtain ⟨g1, g2⟩ := toks_S b L (a + n) (out ++ [tokenOf ((L.drop a).take n) a]) (by omega) (by omega)
              rw [List.length_append, List.length_singleton] at g1 g2
              rw [g1, g2, List.map_append, List.map_cons, List.map_nil, hs1]
              simp only
              by_cases hz : (toksS b (L.drop (a + n)) (out.length + 1)).2 = 0
              · rw [if_pos hz, if_pos hz]
                exact ⟨hz, by simp⟩
              · rw [if_neg hz, if_neg hz]
                exact ⟨rfl, by simp [hz]⟩
    · rw [toks, if_neg hlt, List.drop_eq_nil_of_le (by omega), toksS]
      exact ⟨rfl, by simp⟩
/-! ### more signs -/
def widen : List Int → List Int
  | [] => []
  | c :: r => (if c = 32 then [9, 32] else []) ++ (if c = 10 then [32, 59, 40, 120, 10] else []) ++ c :: widen r
theorem widen_snoc (l : List Int) (c : Int) : widen (l ++ [c]) = widen l ++ (if c = 32 then [9, 32] else []) ++ (if c = 10 then [32, 59, 40, 120, 10] else []) ++ [c] := by
  induction l with
  | nil => simp [widen]
  | cons d l ih => simp [widen, ih]
theorem widen_append (l m : List Int) : widen (l ++ m) = widen l ++ widen m := by
  induction l with
  | nil => rfl
  | cons d l ih => simp [widen, ih]
theorem widen_same {l : List Int} (h : ∀ c ∈ l, c ≠ 32 ∧ c ≠ 10) : widen l = l := by
  induction l with
  | nil => rfl
  | cons d l ih =>
    have hd := h d (by simp)
    rw [widen, if_neg hd.1, if_neg hd.2, ih (fun c hc => h c (by simp [hc]))]
    rfl
theorem widen_no10 {l : List Int} (h : ∀ c ∈ l, c ≠ 10) : ∀ c ∈ widen l, c ≠ 10 := by
  induction l with
  | nil => intro c hc; simp [widen] at hc
  | cons d l ih =>
    intro c hc
    rw [widen, if_neg (h d (by simp))] at hc
    simp only [List.append_nil, List.mem_append, List.mem_cons] at hc
    rcases hc with hc | rfl | hc
    · split at hc
      · simp at hc; omega
      · simp at hc
    · exact h c (by simp)
    · exact ih (fun x hx => h x (by simp [hx])) c hc
theorem widen_len (l : List Int) : l.length ≤ (widen l).length := by
  induction l with
  | nil => exact Nat.le_refl _
  | cons d l ih =>
    rw [widen]
    simp only [List.length_append, List.length_cons]
    omega
theorem remLen_split {p : List Int} {q : List Int} (h : ∀ c ∈ p, c ≠ 10) (hq : q = [] ∨ q.head? = some 10) : remLen (p ++ q) = p.length := by
  unfold remLen
  refine tw_len _ _ (fun k hk => ?_) (by simp) (fun hlt => ?_)
  · rw [List.getD_eq_getElem?_getD, List.getElem?_append_left hk, List.getElem?_eq_getElem hk]
    simpa using h _ (List.getElem_mem hk)
  · rcases hq with rfl | hq
    · simp at hlt
    · cases q with
      | nil => cases hq
      | cons x q =>
        obtain rfl : x = 10 := by simpa using hq
        rw [List.getD_eq_getElem?_getD, List.getElem?_append_right (Nat.le_refl _), Nat.sub_self]
        rfl
theorem remark_parts (l : List Int) : (∀ c ∈ l.take (remLen l), c ≠ 10) ∧ (l.drop (remLen l) = [] ∨ ∃ r, l.drop (remLen l) = 10 :: r) := by
  refine ⟨fun c hc => ?_, ?_⟩
  · obtain ⟨j, hj, rfl⟩ := List.mem_iff_getElem.1 hc
    have hj2 : j < remLen l := by rw [List.length_take] at hj; omega
    have := tw_lt (p := fun c => decide (c ≠ 10)) l j hj2
    have hjl : j < l.length := by have := remLen_le l; omega
    rw [List.getD_eq_getElem?_getD, List.getElem?_eq_getElem hjl] at this
    simpa using this
  · rcases Nat.lt_or_ge (remLen l) l.length with h | h
    · right
      have := tw_stop (p := fun c => decide (c ≠ 10)) l h
      have h10 : l.getD (remLen l) 0 = 10 := by
        unfold remLen
        exact Decidable.of_not_not (of_decide_eq_false this)
      refine ⟨l.drop (remLen l + 1), ?_⟩
      rw [drop_cons h, h10]
    · left; exact List.drop_eq_nil_of_le h
/-- A piece's parts. -/
theorem word_parts {c : Int} {r : List Int} (hs : spacedB c = false) (h59 : c ≠ 59) : (∀ x ∈ (c :: r).take (wordLen (c :: r)), x ≠ 32 ∧ x ≠ 10) ∧
    ∀ q : List Int, (q = [] ∧ (c :: r).drop (wordLen (c :: r)) = [] ∨ (∃ x q', q = x :: q' ∧ ((c = 40 ∨ c = 41) ∨ endsB x = true))) → wordLen ((c :: r).take (wordLen (c :: r)) ++ q) = wordLen (c :: r) := by
  by_cases hb : c = 40 ∨ c = 41
  · have hw : ∀ r, wordLen (c :: r) = 1 := by
      intro r
      unfold wordLen
      rw [if_pos (by rcases hb with h | h <;> rw [h] <;> simp)]
    rw [hw]
    refine ⟨fun x hx => ?_, fun q _ => ?_⟩
    · obtain rfl : x = c := by simpa using hx
      omega
    · exact hw _
  · have hw : ∀ r, wordLen (c :: r) = ((c :: r).takeWhile (fun x => !endsB x)).length := by
      intro r
      unfold wordLen
      rw [if_neg (by simpa using hb)]
    have hec : endsB c = false := by unfold endsB; rw [hs, decide_eq_false (fun h => hb (.inl h)), decide_eq_false (fun h => hb (.inr h)), decide_eq_false h59]; rfl
    have hmem : ∀ x ∈ (c :: r).take (wordLen (c :: r)), endsB x = false := by
      intro x hx
      obtain ⟨j, hj, rfl⟩ := List.mem_iff_getElem.1 hx
      have hj2 : j < ((c :: r).takeWhile (fun x => !endsB x)).length := by rw [List.length_take, hw] at hj; omega
      have := tw_lt (p := fun x => !endsB x) (c :: r) j hj2
      have hjl : j < (c :: r).length := by have := tw_le (p := fun x => !endsB x) (c :: r); omega
      rw [List.getD_eq_getElem?_getD, List.getElem?_eq_getElem hjl] at this
      simpa using this
    refine ⟨fun x hx => ?_, fun q hq => ?_⟩
    · have := hmem x hx
      refine ⟨fun e => ?_, fun e => ?_⟩ <;> (subst e; exact absurd this (by decide))
    · have hle := wordLen_le (c :: r)
      have hl1 : ((c :: r).take (wordLen (c :: r))).length = wordLen (c :: r) := by rw [List.length_take]; omega
      have hpos : 1 ≤ wordLen (c :: r) := by
        have := wordLen_pos (L := c :: r) (a := 0) (by simp) hs h59
        simpa using this
      obtain ⟨n, hn⟩ : ∃ n, wordLen (c :: r) = n + 1 := ⟨wordLen (c :: r) - 1, by omega⟩
      have hcons : (c :: r).take (wordLen (c :: r)) ++ q = c :: (r.take n ++ q) := by rw [hn]; rfl
      rw [hcons, hw, ← hcons]
      refine tw_len _ _ (fun k hk => ?_) (by rw [List.length_append, hl1]; omega) (fun hlt => ?_)
      · rw [List.getD_eq_getElem?_getD, List.getElem?_append_left (by omega), List.getElem?_eq_getElem (by omega)]
        have hkm : k < ((c :: r).take (wordLen (c :: r))).length := by omega
        have := hmem _ (List.getElem_mem hkm)
        show (!endsB (((c :: r).take (wordLen (c :: r)))[k])) = true
        rw [this]; rfl
      · rcases hq with ⟨rfl, _⟩ | ⟨x, q', rfl, hx⟩
        · rw [List.append_nil, hl1] at hlt; omega
        · rw [List.getD_eq_getElem?_getD, List.getElem?_append_right (by omega), hl1, Nat.sub_self]
          rcases hx with hx | hx
          · exact absurd hx hb
          · show (!endsB x) = false
            rw [hx]; rfl
theorem word_stop {c : Int} {r : List Int} (hb : ¬ (c = 40 ∨ c = 41)) {x : Int} {q : List Int} (h : (c :: r).drop (wordLen (c :: r)) = x :: q) : endsB x = true := by
  have hw : wordLen (c :: r) = ((c :: r).takeWhile (fun x => !endsB x)).length := by
    unfold wordLen
    rw [if_neg (by simpa using hb)]
  have hlt : ((c :: r).takeWhile (fun x => !endsB x)).length < (c :: r).length := by
    have := congrArg List.length h
    rw [List.length_drop, hw] at this
    simp only [List.length_cons] at this ⊢
    omega
  have := tw_stop (p := fun x => !endsB x) (c :: r) hlt
  rw [← hw, drop_cons (by rw [hw]; exact hlt)] at *
  obtain ⟨h1, _⟩ := List.cons.inj h
  rw [h1] at this
  simpa using this
theorem spaced_ends {c : Int} (h : spacedB c = true) : c = 32 ∨ c = 9 ∨ c = 10 := by
  unfold spacedB at h
  simp only [Bool.or_eq_true, decide_eq_true_eq] at h
  omega
/-- MORE SIGNS CHANGE NOTHING. -/
theorem toksS_widen : ∀ (n : Nat) (l : List Int) (m b b' : Nat), l.length ≤ n → l.length < b → (widen l).length < b' → toksS b' (widen l) m = toksS b l m
  | n, [], m, b, b', _, hb, hb' => by
    obtain ⟨b, rfl⟩ : ∃ x, b = x + 1 := ⟨b - 1, by omega⟩
    obtain ⟨b', rfl⟩ : ∃ x, b' = x + 1 := ⟨b' - 1, by omega⟩
    rfl
  | 0, c :: r, m, b, b', hn, _, _ => by simp at hn
  | n + 1, c :: r, m, b, b', hn, hb, hb' => by
    obtain ⟨b, rfl⟩ : ∃ x, b = x + 1 := ⟨b - 1, by omega⟩
    simp only [List.length_cons] at hn hb
    by_cases hsp : spacedB c = true
    · have ih := fun y hy => toksS_widen n r m b y (by omega) (by omega) hy
      rw [toksS, if_pos hsp]
      rcases spaced_ends hsp with rfl | rfl | rfl
      · have e : widen (32 :: r) = 9 :: 32 :: 32 :: widen r := rfl
        rw [e] at hb' ⊢
        simp only [List.length_cons] at hb'
        obtain ⟨b', rfl⟩ : ∃ x, b' = x + 1 + 1 + 1 := ⟨b' - 3, by omega⟩
        rw [toksS, if_pos (by decide), toksS, if_pos (by decide), toksS, if_pos (by decide)]
        exact ih _ (by omega)
      · have e : widen (9 :: r) = 9 :: widen r := rfl
        rw [e] at hb' ⊢
        simp only [List.length_cons] at hb'
        obtain ⟨b', rfl⟩ : ∃ x, b' = x + 1 := ⟨b' - 1, by omega⟩
        rw [toksS, if_pos (by decide)]
        exact ih _ (by omega)
      · have e : widen (10 :: r) = 32 :: 59 :: 40 :: 120 :: 10 :: 10 :: widen r := rfl
        rw [e] at hb' ⊢
        simp only [List.length_cons] at hb'
        obtain ⟨b', rfl⟩ : ∃ x, b' = x + 1 + 1 + 1 + 1 := ⟨b' - 4, by omega⟩
        have hr : remLen (59 :: 40 :: 120 :: 10 :: 10 :: widen r) = 3 := remLen_split (p := [59, 40, 120]) (q := 10 :: 10 :: widen r) (by decide) (.inr rfl)
        rw [toksS, if_pos (by decide), toksS, if_neg (by decide), if_pos rfl, hr]
        show toksS (b' + 1 + 1) (10 :: 10 :: widen r) m = _
        rw [toksS, if_pos (by decide), toksS, if_pos (by decide)]
        exact ih _ (by omega)
    · have hsp' : spacedB c = false := by simpa using hsp
      have hc32 : c ≠ 32 := fun e => by rw [e] at hsp'; exact absurd hsp' (by decide)
      have hc10 : c ≠ 10 := fun e => by rw [e] at hsp'; exact absurd hsp' (by decide)
      have ew : widen (c :: r) = c :: widen r := by rw [widen, if_neg hc32, if_neg hc10]; rfl
      obtain ⟨b', rfl⟩ : ∃ x, b' = x + 1 := ⟨b' - 1, by omega⟩
      rw [toksS, if_neg hsp]
      by_cases h59 : c = 59
      · rw [if_pos h59]
        subst h59
        have hpos := remLen_pos (L := 59 :: r) (a := 0) (by simp) rfl
        rw [List.drop_zero] at hpos
        obtain ⟨hp1, hp2⟩ := remark_parts (59 :: r)
        have hsplit : (59 :: r) = (59 :: r).take (remLen (59 :: r)) ++ (59 :: r).drop (remLen (59 :: r)) := (List.take_append_drop _ _).symm
        obtain ⟨P, hP⟩ : ∃ P, P = (59 :: r).take (remLen (59 :: r)) := ⟨_, rfl⟩
        have hPl : P.length = remLen (59 :: r) := by rw [hP, List.length_take]; have := remLen_le (59 :: r); omega
        rw [← hP] at hp1 hsplit
        have hwP := widen_no10 hp1
        rcases hp2 with hq | ⟨q, hq⟩
        · rw [hq] at hsplit ⊢
          have e2 : widen (59 :: r) = widen P := by rw [hsplit, List.append_nil]
          rw [ew] at e2 hb' ⊢
          have hrl : remLen (59 :: widen r) = (widen P).length := by rw [e2]; have := remLen_split (p := widen P) (q := []) hwP (.inl rfl); rwa [List.append_nil] at this
          rw [toksS, if_neg (by decide), if_pos rfl, hrl, e2, List.drop_length]
          exact toksS_widen n [] m b b' (by simp) (by simp; omega) (by rw [e2] at hb'; have := widen_len P; rw [widen]; simp at hb' ⊢; omega)
        · rw [hq] at hsplit ⊢
          have e2 : widen (59 :: r) = (widen P ++ [32, 59, 40, 120]) ++ 10 :: 10 :: widen q := by rw [hsplit, widen_append]; simp [widen]
          rw [ew] at e2 hb' ⊢
          have hrl : remLen (59 :: widen r) = (widen P ++ [32, 59, 40, 120]).length := by
            rw [e2]
            refine remLen_split (fun c hc => ?_) (.inr rfl)
            rcases List.mem_append.1 hc with hc | hc
            · exact hwP c hc
            · simp at hc; omega
          have hlen := congrArg List.length e2
          have hlen2 := congrArg List.length hsplit
          simp only [List.length_append, List.length_cons, List.length_nil] at hlen hlen2
          simp only [List.length_cons] at hb'
          obtain ⟨b'', rfl⟩ : ∃ x, b' = x + 1 + 1 := ⟨b' - 2, by omega⟩
          obtain ⟨b1, rfl⟩ : ∃ x, b = x + 1 := ⟨b - 1, by omega⟩
          rw [toksS, if_neg (by decide), if_pos rfl, hrl, e2, List.drop_left]
          rw [toksS, if_pos (by decide), toksS, if_pos (by decide), toksS, if_pos (by decide)]
          exact toksS_widen n q m b1 b'' (by omega) (by omega) (by omega)
      · rw [if_neg h59]
        obtain ⟨hw1, hw2⟩ := word_parts (r := r) hsp' h59
        have hpos : 1 ≤ wordLen (c :: r) := by
          have := wordLen_pos (L := c :: r) (a := 0) (by simp) hsp' h59
          simpa using this
        have hle := wordLen_le (c :: r)
        obtain ⟨N, hN⟩ : ∃ N, N = wordLen (c :: r) := ⟨_, rfl⟩
        obtain ⟨P, hP⟩ : ∃ P, P = (c :: r).take N := ⟨_, rfl⟩
        obtain ⟨Q, hQ⟩ : ∃ Q, Q = (c :: r).drop N := ⟨_, rfl⟩
        have hPl : P.length = N := by rw [hP, List.length_take]; omega
        have hsplit : (c :: r) = P ++ Q := by rw [hP, hQ]; exact (List.take_append_drop _ _).symm
        rw [← hN, ← hP] at hw1
        have e2 : widen (c :: r) = P ++ widen Q := by rw [hsplit, widen_append, widen_same hw1]
        have hwl : wordLen (c :: widen r) = N := by
          rw [← ew, e2, hN]
          have := hw2 (widen Q) (by
            cases hQ2 : Q with
            | nil => left; exact ⟨rfl, by rw [← hN, ← hQ, hQ2]⟩
            | cons x q =>
              right
              by_cases hb2 : c = 40 ∨ c = 41
              · rw [widen]
                split
                · exact ⟨_, _, rfl, .inl hb2⟩
                · split
                  · exact ⟨_, _, rfl, .inl hb2⟩
                  · exact ⟨_, _, rfl, .inl hb2⟩
              · have hx := word_stop hb2 (x := x) (q := q) (by rw [← hN, ← hQ, hQ2])
                rw [widen]
                split
                · exact ⟨_, _, rfl, .inr (by decide)⟩
                · split
                  · exact ⟨_, _, rfl, .inr (by decide)⟩
                  · exact ⟨_, _, rfl, .inr hx⟩)
          rw [← hN, ← hP] at this
          rw [this, hN]
        have htk : (c :: widen r).take N = P := by rw [← ew, e2, ← hPl]; exact List.take_left
        have hdr : (c :: widen r).drop N = widen Q := by rw [← ew, e2, ← hPl]; exact List.drop_left
        have hlen := congrArg List.length e2
        have hlen2 := congrArg List.length hsplit
        rw [ew] at hlen hb' ⊢
        simp only [List.length_append, List.length_cons] at hlen hlen2 hb'
        have hih := toksS_widen n Q (m + 1) b b' (by omega) (by omega) (by omega)
        rw [toksS, if_neg hsp, if_neg h59, hwl, ← hN, htk, hdr, ← hP, ← hQ, hih]
theorem tokensOf_S (L : List Int) (h : L.length ≤ 3000) : (tokensOf L).2.2 = (toksS (L.length + 1) L 0).2 ∧ (tokensOf L).1.map strip = (if (toksS (L.length + 1) L 0).2 = 0 then (toksS (L.length + 1) L 0).1 else []) := by
  unfold tokensOf
  rw [if_neg (by omega)]
  have := toks_S (L.length + 1) L 0 [] (Nat.zero_le _) (by omega)
  rw [List.drop_zero] at this
  simpa using this
/-- What LexBlanks says, in plain words. -/
theorem blanks_plain (L : List Int) (h : L.length ≤ 3000) (hw : (widen L).length ≤ 3000) : (tokensOf L).2.2 = (tokensOf (widen L)).2.2 ∧ (tokensOf L).1.map strip = (tokensOf (widen L)).1.map strip := by
  have h1 := tokensOf_S L h
  have h2 := tokensOf_S (widen L) hw
  have h3 := toksS_widen L.length L 0 (L.length + 1) ((widen L).length + 1) (Nat.le_refl _) (by omega) (by omega)
  rw [h3] at h2
  exact ⟨h1.1.trans h2.1.symm, h1.2.trans h2.2.symm⟩
end Go.Proofs.Ytiojfdgagdofiaa.HK
