/-
TopSpaced: words with blanks between are tokens of their kinds, each at its place. For every words: the plain law, without program and memory.
-/
import Derived.Test.YtiojfdgagdofiaaPureLexWords
import Derived.Test.YtiojfdgagdofiaaHBx12
set_option linter.unusedVariables false
set_option linter.unusedSimpArgs false
namespace Go.Proofs.Ytiojfdgagdofiaa.Pure
open Go.RowKit Go.Proofs.Ytiojfdgagdofiaa.HB Go.Proofs.Ytiojfdgagdofiaa.HK Go.Proofs.YtiojfdgagdofiaaW.PrintWords Go.Proofs.YtiojfdgagdofiaaW.PrintLast

/-- What is a word holds no sign that ends one. -/
def plainWord (l : List Int) : Prop := 1 ≤ l.length ∧ l.length ≤ 20 ∧ ∀ c ∈ l, endsB c = false ∧ c ≠ 10
theorem char_plain {c : Int} (h : letterB c = true ∨ digitB c = true ∨ c = 45) : endsB c = false ∧ c ≠ 10 := by
  unfold letterB digitB at h
  simp only [Bool.and_eq_true, decide_eq_true_eq] at h
  unfold endsB spacedB
  simp
  omega
theorem kind_plain {l : List Int} (h : kindOf l ≠ 0) : plainWord l := by
  unfold kindOf at h
  by_cases hp : (parseOf l).2 = 0
  · obtain ⟨hin, hd⟩ := digits_parseOf hp
    have hlen := digitsOf_len hin
    rw [hd] at hlen
    refine ⟨hlen.1, hlen.2, fun c hc => char_plain ?_⟩
    rw [← hd] at hc
    have hf : ∀ n, ∀ x ∈ full n, digitB x = true := by
      intro n x hx
      have := full_dig n
      unfold allDig at this
      rw [List.all_eq_true] at this
      exact this x hx
    rcases digitsOf_cases (parseOf l).1 with ⟨_, e⟩ | ⟨_, e⟩ <;> rw [e] at hc
    · rcases List.mem_cons.1 hc with rfl | hc
      · exact .inr (.inr rfl)
      · exact .inr (.inl (hf _ c hc))
    · exact .inr (.inl (hf _ c hc))
  · rw [if_neg hp] at h
    by_cases hs : signB l = true
    · unfold signB at hs
      simp only [Bool.or_eq_true, decide_eq_true_eq] at hs
      rcases hs with ((((((((hs | hs) | hs) | hs) | hs) | hs) | hs) | hs) | hs) | hs <;> subst hs <;> exact ⟨by decide, by decide, by decide⟩
    · by_cases hn : namedOf l = true
      · unfold namedOf at hn
        simp only [Bool.and_eq_true, decide_eq_true_eq, List.all_eq_true] at hn
        refine ⟨hn.1.1, by omega, fun c hc => ?_⟩
        obtain ⟨j, hj, rfl⟩ := List.mem_iff_getElem.1 hc
        have := hn.2 j (by simpa using hj)
        unfold okAt at this
        rw [List.getD_eq_getElem?_getD, List.getElem?_eq_getElem hj] at this
        simp only [Option.getD_some, Bool.or_eq_true, Bool.and_eq_true] at this
        rcases this with h1 | h1
        · exact char_plain (.inl h1)
        · exact char_plain (.inr (.inl h1.1))
      · rw [if_neg (by rintro (h1 | h1); exact hs h1; exact hn h1)] at h
        exact absurd rfl h
/-- Words with a blank behind each. -/
def spacedText : List ByteArray → List Int
  | [] => []
  | w :: r => codes w ++ 32 :: spacedText r
theorem spacedText_snoc (W : List ByteArray) (w : ByteArray) : spacedText (W ++ [w]) = spacedText W ++ codes w ++ [32] := by
  induction W with
  | nil => simp [spacedText]
  | cons v W ih => simp [spacedText, ih]
def spacedToks : Nat → List ByteArray → List S37
  | _, [] => []
  | a, w :: r => ⟨kindOf (codes w), w, if kindOf (codes w) = 4 then (parseOf (codes w)).1 else 0, a⟩ :: spacedToks (a + w.size + 1) r
theorem spacedToks_length : ∀ (W : List ByteArray) (a : Nat), (spacedToks a W).length = W.length
  | [], _ => rfl
  | w :: r, a => by simp [spacedToks, spacedToks_length r]
def goodWords (W : List ByteArray) : Prop := ∀ w ∈ W, kindOf (codes w) ≠ 0
theorem text_len : ∀ (W : List ByteArray), goodWords W → (spacedText W).length ≤ 21 * W.length
  | [], _ => by simp [spacedText]
  | w :: r, h => by
    have h1 := (kind_plain (h w (by simp))).2.1
    have h2 := text_len r (fun v hv => h v (by simp [hv]))
    simp [spacedText]
    omega
theorem text_plain : ∀ (W : List ByteArray), goodWords W → ∀ c ∈ spacedText W, c ≠ 10
  | [], _, c, hc => by simp [spacedText] at hc
  | w :: r, h, c, hc => by
    unfold spacedText at hc
    rcases List.mem_append.1 hc with hc | hc
    · exact ((kind_plain (h w (by simp))).2.2 c hc).2
    · rcases List.mem_cons.1 hc with rfl | hc
      · decide
      · exact text_plain r (fun v hv => h v (by simp [hv])) c hc
theorem word_cut {l r : List Int} (h : plainWord l) : wordLen (l ++ 32 :: r) = l.length ∧ spacedB ((l ++ 32 :: r).getD 0 0) = false ∧ (l ++ 32 :: r).getD 0 0 ≠ 59 := by
  obtain ⟨h1, _, h2⟩ := h
  obtain ⟨c, t, rfl⟩ : ∃ c t, l = c :: t := by
    cases l with
    | nil => simp at h1
    | cons c t => exact ⟨c, t, rfl⟩
  have hc := (h2 c (by simp)).1
  have hc2 := hc
  unfold endsB at hc2
  simp only [Bool.or_eq_false_iff, decide_eq_false_iff_not] at hc2
  refine ⟨?_, hc2.1.1.1, hc2.2⟩
  unfold wordLen
  rw [if_neg (by rintro (e | e); exact hc2.1.1.2 (Option.some.inj e); exact hc2.1.2 (Option.some.inj e))]
  refine tw_len _ _ (fun k hk => ?_) (by simp) (fun _ => ?_)
  · rw [List.getD_eq_getElem?_getD, List.getElem?_append_left hk, List.getElem?_eq_getElem hk]
    show (!endsB ((c :: t)[k])) = true
    rw [(h2 _ (List.getElem_mem hk)).1]; rfl
  · rw [List.getD_eq_getElem?_getD, List.getElem?_append_right (Nat.le_refl _), Nat.sub_self]
    rfl
theorem toks_spaced : ∀ (W : List ByteArray) (L : List Int) (a b : Nat) (out : List S37), goodWords W → L.drop a = spacedText W → a ≤ L.length → L.length - a < b → out.length + W.length ≤ 20 → toks b L a out = (out ++ spacedToks a W, 0, 0)
  | [], L, a, b, out, _, hd, ha, hb, _ => by
    obtain ⟨b, rfl⟩ : ∃ b', b = b' + 1 := ⟨b - 1, by omega⟩
    have : L.length ≤ a := by
      have := congrArg List.length hd
      rw [List.length_drop] at this
      simp [spacedText] at this
      omega
    rw [toks, if_neg (by omega), spacedToks, List.append_nil]
  | w :: r, L, a, b, out, hg, hd, ha, hb, ho => by
    have hp := kind_plain (hg w (by simp))
    have hcut := word_cut (r := spacedText r) hp
    have hcl := codes_length w
    rw [spacedText] at hd
    have hlen : L.length = a + w.size + 1 + (spacedText r).length := by
      have := congrArg List.length hd
      rw [List.length_drop, List.length_append, List.length_cons, hcl] at this
      omega
    have hw1 : 1 ≤ w.size := by have := hp.1; omega
    obtain ⟨b, rfl⟩ : ∃ b', b = b' + 1 + 1 := ⟨b - 2, by omega⟩
    have hget : ∀ k, L.getD (a + k) 0 = (codes w ++ 32 :: spacedText r).getD k 0 := fun k => by rw [← hd, drop_getD]
    have h0 : L.getD a 0 = (codes w ++ 32 :: spacedText r).getD 0 0 := hget 0
    have htk : (L.drop a).take (codes w).length = codes w := by rw [hd, List.take_left']; rfl
    rw [toks, if_pos (by omega), h0, if_neg (by rw [hcut.2.1]; decide), if_neg hcut.2.2, hd, hcut.1, ← hd, htk]
    have hne : ∀ x, endsB x = true → codes w ≠ [x] := by
      intro x hx e
      have := (hp.2.2 x (by rw [e]; simp)).1
      rw [hx] at this; cases this
    have hto : tokenOf (codes w) a = ⟨kindOf (codes w), w, if kindOf (codes w) = 4 then (parseOf (codes w)).1 else 0, a⟩ := by
      unfold tokenOf
      rw [if_neg (hne 40 rfl), if_neg (hne 41 rfl), str_codes]
    rw [hto, if_neg (hg w (by simp)), if_neg (by omega), hcl]
    have hsp : L.getD (a + w.size) 0 = 32 := by
      rw [hget, List.getD_eq_getElem?_getD, List.getElem?_append_right (by omega), hcl, Nat.sub_self]; rfl
    rw [toks, if_pos (by omega), hsp, if_pos (show spacedB 32 = true from rfl)]
    have hd2 : L.drop (a + w.size + 1) = spacedText r := by
      rw [Nat.add_assoc, ← List.drop_drop, hd, List.drop_append]
      rw [hcl, List.drop_eq_nil_of_le (by omega), show w.size + 1 - w.size = 1 by omega]
      rfl
    rw [toks_spaced r L (a + w.size + 1) b _ (fun v hv => hg v (by simp [hv])) hd2 (by omega) (by omega) (by simp at ho ⊢; omega), spacedToks, List.append_assoc]
    rfl
theorem spacedToks_at : ∀ (W : List ByteArray) (a i : Nat) (w : ByteArray), W[i]? = some w → ∃ p num, (spacedToks a W)[i]? = some ⟨kindOf (codes w), w, num, (p : Nat)⟩ ∧ a ≤ p ∧ p ≤ a + (spacedText W).length
  | [], a, i, w, h => by simp at h
  | v :: r, a, 0, w, h => by
    obtain rfl : v = w := by simpa using h
    exact ⟨a, _, rfl, Nat.le_refl _, by omega⟩
  | v :: r, a, i + 1, w, h => by
    obtain ⟨p, num, h1, h2, h3⟩ := spacedToks_at r (a + v.size + 1) i w (by simpa using h)
    refine ⟨p, num, by simpa [spacedToks] using h1, by omega, ?_⟩
    simp [spacedText, codes_length]
    omega
theorem lineAt_plain (L : List Int) (h : ∀ c ∈ L, c ≠ 10) : ∀ n, n ≤ L.length → lineAt L n = (0, n)
  | 0, _ => rfl
  | n + 1, hn => by
    have e : L.getD n 0 ≠ 10 := by
      rw [List.getD_eq_getElem?_getD, List.getElem?_eq_getElem (by omega)]
      exact h _ (List.getElem_mem (by omega))
    rw [lineAt, if_neg e, lineAt_plain L h n (by omega)]
theorem wsmall (n : Nat) (h : n ≤ 100000) : wrap64 ((n : Int) + 1) = ((n + 1 : Nat) : Int) := wsucc n h
/-- The last loop. -/
theorem spaced_check (t : ByteArray) (W : List ByteArray) (hg : goodWords W) (hW : W.length ≤ 20) (ht : codes t = spacedText W) : ∀ (n i : Nat), i + n = W.length → Ev (fun k => reticuletop_TopSpaced.l1 k t W (spacedToks 0 W) (i : Int)) true := by
  have hsz : t.size = (spacedText W).length := by rw [← codes_length, ht]
  have htl := text_len W hg
  intro n
  induction n with
  | zero =>
    intro i hi
    have hk := wordKind_ev (⟨#[43]⟩ : ByteArray) (by decide)
    refine Ev.step (f := fun k => (lex_WordKind.f k (⟨#[43]⟩ : ByteArray)).bind fun t183 => (some (t183 == 3))) (fun k => ?_) (Ev.bind (f := fun k t183 => (some (t183 == 3))) hk ?_)
    · rw [reticuletop_TopSpaced.l1, if_neg (by rw [spacedToks_length]; omega)]
    · have e : kindOf (codes (⟨#[43]⟩ : ByteArray)) = 3 := by decide +kernel
      rw [e]
      exact Ev.now true
  | succ n ih =>
    intro i hi
    have hlt : i < W.length := by omega
    obtain ⟨w, hw⟩ : ∃ w, W[i]? = some w := ⟨_, List.getElem?_eq_getElem hlt⟩
    obtain ⟨p, num, hp, _, hple⟩ := spacedToks_at W 0 i w hw
    have hr : rd_T37 (spacedToks 0 W) (i : Int) = ⟨kindOf (codes w), w, num, (p : Nat)⟩ := by
      unfold rd_T37
      rw [Int.toNat_natCast, List.getD_eq_getElem?_getD, hp]; rfl
    have hr2 : rdOf ByteArray.empty W (i : Int) = w := by
      unfold rdOf
      rw [Int.toNat_natCast, List.getD_eq_getElem?_getD, hw]; rfl
    have hmem : w ∈ W := List.mem_of_getElem? hw
    have hkp := kind_plain (hg w hmem)
    have hcl := codes_length w
    have hk := wordKind_ev w (by have := hkp.2.1; omega)
    have hah : aheadOf t.size (p : Int) = p := by unfold aheadOf; rw [if_neg (by omega), Int.toNat_natCast]; omega
    have hline : lex_Line.f t (p : Int) = some (0, (p : Int)) := by
      rw [line_f t (by omega), hah, ht, lineAt_plain _ (text_plain W hg) p (by omega)]
      rfl
    refine Ev.step (f := fun k => (lex_WordKind.f k w).bind fun t191 => (if kindOf (codes w) = t191 then reticuletop_TopSpaced.l1 k t W (spacedToks 0 W) ((i + 1 : Nat) : Int) else some false)) (fun k => ?_) (Ev.bind (f := fun k t191 => (if kindOf (codes w) = t191 then reticuletop_TopSpaced.l1 k t W (spacedToks 0 W) ((i + 1 : Nat) : Int) else some false)) hk (Ev.congr (fun k => if_pos rfl) (ih (i + 1) (by omega))))
    have g1 : (i : Int) < ((spacedToks 0 W).length : Int) := by rw [spacedToks_length]; omega
    have g2 : (i : Int) < (W.length : Int) := by omega
    rw [reticuletop_TopSpaced.l1, if_pos g1, if_pos (Int.natCast_nonneg i), hr, hr2, hline, wsmall i (by omega)]
    simp only [Option.bind_some, g2, if_true]
/-- The loop that gathers. -/
theorem spaced_gather (l : List ByteArray) (hl : ∀ w ∈ l, w.size ≤ 9223372036854775807) : ∀ (n i : Nat) (t : ByteArray) (W : List ByteArray), i + n = min l.length 20 → goodWords W → W.length ≤ i → codes t = spacedText W →
    Ev (fun k => reticuletop_TopSpaced.l0 k l t W (i : Int)) true := by
  intro n
  induction n with
  | zero =>
    intro i t W hi hg hW ht
    have hsz : t.size = (spacedText W).length := by rw [← codes_length, ht]
    have htl := text_len W hg
    have hT : lex_Tokens.f t = some (spacedToks 0 W, 0, 0) := by
      unfold lex_Tokens.f tokensOf
      rw [if_neg (by rw [codes_length]; omega), toks_spaced W (codes t) 0 _ [] hg (by rw [List.drop_zero]; exact ht) (Nat.zero_le _) (by omega) (by simp; omega)]
      rfl
    have hfin := spaced_check t W hg (by omega) ht W.length 0 (by omega)
    have hj2 : Ev (fun k => reticuletop_TopSpaced.j2 k t W (spacedToks 0 W) false) true := Ev.step (f := fun k => reticuletop_TopSpaced.l1 k t W (spacedToks 0 W) ((0 : Nat) : Int)) (fun k => by rw [reticuletop_TopSpaced.j2, if_neg (by decide)]; rfl) hfin
    have hj1 : Ev (fun k => reticuletop_TopSpaced.j1 k l t W (i : Int) false) true := by
      refine Ev.step (f := fun k => reticuletop_TopSpaced.j2 k t W (spacedToks 0 W) false) (fun k => ?_) hj2
      rw [reticuletop_TopSpaced.j1, if_neg (by decide), hT]
      simp only [Option.bind_some, if_true]
      rw [spacedToks_length]
      simp
    refine Ev.step (f := fun k => reticuletop_TopSpaced.j1 k l t W (i : Int) false) (fun k => ?_) hj1
    rw [reticuletop_TopSpaced.l0]
    by_cases hlt : (i : Int) < (l.length : Int)
    · rw [if_pos hlt, decide_eq_false (by omega)]
    · rw [if_neg hlt]
  | succ n ih =>
    intro i t W hi hg hW ht
    have hlt : i < l.length := by omega
    obtain ⟨w, hw⟩ : ∃ w, l[i]? = some w := ⟨_, List.getElem?_eq_getElem hlt⟩
    have hr2 : rdOf ByteArray.empty l (i : Int) = w := by
      unfold rdOf
      rw [Int.toNat_natCast, List.getD_eq_getElem?_getD, hw]; rfl
    have hk := wordKind_ev w (hl w (List.mem_of_getElem? hw))
    have hsz : t.size = (spacedText W).length := by rw [← codes_length, ht]
    have htl := text_len W hg
    have hw1 : wrap64 ((i : Int) + 1) = ((i + 1 : Nat) : Int) := wsmall i (by omega)
    have g1 : (i : Int) < (l.length : Int) := by omega
    have g2 : decide ((i : Int) < 20) = true := by simp; omega
    by_cases hk0 : kindOf (codes w) = 3 ∨ kindOf (codes w) = 4
    · have hne : kindOf (codes w) ≠ 0 := by rcases hk0 with h | h <;> rw [h] <;> decide
      have hkp := kind_plain hne
      have hcl := codes_length w
      have hws : w.size ≤ 20 := by have := hkp.2.1; omega
      have hih := ih (i + 1) (t ++ (w ++ (⟨#[32]⟩ : ByteArray))) (W ++ [w]) (by omega) (fun v hv => by
        rcases List.mem_append.1 hv with hv | hv
        · exact hg v hv
        · rw [List.mem_singleton.1 hv]; exact hne) (by rw [List.length_append, List.length_singleton]; omega) (by
        rw [spacedText_snoc, ← ht]
        simp [codes])
      have hsz2 : (w ++ (⟨#[32]⟩ : ByteArray)).size = w.size + 1 := by rw [ByteArray.size_append]; rfl
      refine Ev.step (f := fun k => reticuletop_TopSpaced.j1 k l t W (i : Int) true) (fun k => ?_) (Ev.step (f := fun k => (lex_WordKind.f k w).bind fun t167 => (if t167 = 3 then reticuletop_TopSpaced.l0 k l (t ++ (w ++ (⟨#[32]⟩ : ByteArray))) (W ++ [w]) ((i + 1 : Nat) : Int) else (if t167 = 4 then reticuletop_TopSpaced.l0 k l (t ++ (w ++ (⟨#[32]⟩ : ByteArray))) (W ++ [w]) ((i + 1 : Nat) : Int) else reticuletop_TopSpaced.l0 k l t W ((i + 1 : Nat) : Int)))) (fun k => ?_)
        (Ev.bind (f := fun k t167 => (if t167 = 3 then reticuletop_TopSpaced.l0 k l (t ++ (w ++ (⟨#[32]⟩ : ByteArray))) (W ++ [w]) ((i + 1 : Nat) : Int) else (if t167 = 4 then reticuletop_TopSpaced.l0 k l (t ++ (w ++ (⟨#[32]⟩ : ByteArray))) (W ++ [w]) ((i + 1 : Nat) : Int) else reticuletop_TopSpaced.l0 k l t W ((i + 1 : Nat) : Int)))) hk ?_))
      · rw [reticuletop_TopSpaced.l0, if_pos g1, g2]
      · have c1 : w.size + 1 ≤ 9223372036854775807 := by omega
        have c2 : t.size + (w ++ (⟨#[32]⟩ : ByteArray)).size ≤ 9223372036854775807 := by omega
        have c3 : W.length < 8796093022208 := by omega
        rw [reticuletop_TopSpaced.j1, if_pos rfl, if_pos (Int.natCast_nonneg i), if_pos g1, hr2, hw1]
        simp only [c1, c2, c3, if_true]
      · rcases hk0 with h | h
        · refine Ev.congr (fun k => ?_) hih
          rw [h]; rfl
        · refine Ev.congr (fun k => ?_) hih
          rw [h]; rfl
    · have hih := ih (i + 1) t W (by omega) hg (by omega) ht
      refine Ev.step (f := fun k => reticuletop_TopSpaced.j1 k l t W (i : Int) true) (fun k => ?_) (Ev.step (f := fun k => (lex_WordKind.f k w).bind fun t167 => (if t167 = 3 then (if w.size + 1 ≤ 9223372036854775807 then (if t.size + (w ++ (⟨#[32]⟩ : ByteArray)).size ≤ 9223372036854775807 then (if W.length < 8796093022208 then (reticuletop_TopSpaced.l0 k l (t ++ (w ++ (⟨#[32]⟩ : ByteArray))) (W ++ [w]) ((i + 1 : Nat) : Int)) else (none)) else (none)) else (none)) else (if t167 = 4 then (if w.size + 1 ≤ 9223372036854775807 then (if t.size + (w ++ (⟨#[32]⟩ : ByteArray)).size ≤ 9223372036854775807 then (if W.length < 8796093022208 then (reticuletop_TopSpaced.l0 k l (t ++ (w ++ (⟨#[32]⟩ : ByteArray))) (W ++ [w]) ((i + 1 : Nat) : Int)) else (none)) else (none)) else (none)) else reticuletop_TopSpaced.l0 k l t W ((i + 1 : Nat) : Int)))) (fun k => ?_)
        (Ev.bind (f := fun k t167 => (if t167 = 3 then (if w.size + 1 ≤ 9223372036854775807 then (if t.size + (w ++ (⟨#[32]⟩ : ByteArray)).size ≤ 9223372036854775807 then (if W.length < 8796093022208 then (reticuletop_TopSpaced.l0 k l (t ++ (w ++ (⟨#[32]⟩ : ByteArray))) (W ++ [w]) ((i + 1 : Nat) : Int)) else (none)) else (none)) else (none)) else (if t167 = 4 then (if w.size + 1 ≤ 9223372036854775807 then (if t.size + (w ++ (⟨#[32]⟩ : ByteArray)).size ≤ 9223372036854775807 then (if W.length < 8796093022208 then (reticuletop_TopSpaced.l0 k l (t ++ (w ++ (⟨#[32]⟩ : ByteArray))) (W ++ [w]) ((i + 1 : Nat) : Int)) else (none)) else (none)) else (none)) else reticuletop_TopSpaced.l0 k l t W ((i + 1 : Nat) : Int)))) hk ?_))
      · rw [reticuletop_TopSpaced.l0, if_pos g1, g2]
      · rw [reticuletop_TopSpaced.j1, if_pos rfl, if_pos (Int.natCast_nonneg i), if_pos g1, hr2, hw1]
      · refine Ev.congr (fun k => ?_) hih
        rw [if_neg (fun h => hk0 (.inl h)), if_neg (fun h => hk0 (.inr h))]
theorem TopSpaced (l : List ByteArray) (hl : ∀ w ∈ l, w.size ≤ 9223372036854775807) : ∃ k, reticuletop_TopSpaced.f k l = some true :=
  (spaced_gather l hl (min l.length 20) 0 (⟨#[]⟩ : ByteArray) [] (by omega) (fun v hv => by simp at hv) (Nat.le_refl _) rfl).rounds
end Go.Proofs.Ytiojfdgagdofiaa.Pure
