/-
LexPlaces: tokens are the text's pieces at their places, one behind the other; what kind each is. For every text: the plain law, without program and memory.
-/
import Derived.Test.YtiojfdgagdofiaaLexG
import Derived.Test.YtiojfdgagdofiaaHBx11
set_option linter.unusedVariables false
set_option linter.unusedSimpArgs false
namespace Go.Proofs.Ytiojfdgagdofiaa.Pure
open Go.RowKit Go.Proofs.Ytiojfdgagdofiaa.HB Go.Proofs.Ytiojfdgagdofiaa.HK Go.Proofs.YtiojfdgagdofiaaW.PrintWords Go.Proofs.YtiojfdgagdofiaaW.PrintLast

/-- A token that is the text's piece at its place, from e on. -/
def Placed (s : ByteArray) (e : Nat) (T : S37) : Prop :=
  ∃ a n : Nat, T.f3 = (a : Int) ∧ T.f1 = s.extract a (a + n) ∧ e ≤ a ∧ 1 ≤ n ∧ a + n ≤ s.size ∧ (T.f0 = kindOf (codes T.f1) ∨ T.f0 = 1 ∨ T.f0 = 2)
def endOf (T : S37) : Nat := T.f3.toNat + T.f1.size
def chain (s : ByteArray) : Nat → List S37 → Prop
  | _, [] => True
  | e, T :: l => Placed s e T ∧ chain s (endOf T) l
def lastEnd (e : Nat) (out : List S37) : Nat := out.foldl (fun _ T => endOf T) e
theorem chain_snoc {s : ByteArray} {T : S37} : ∀ (out : List S37) (e : Nat), chain s e out → Placed s (lastEnd e out) T → chain s e (out ++ [T])
  | [], _, _, h => ⟨h, trivial⟩
  | U :: out, e, h, hT => ⟨h.1, chain_snoc out (endOf U) h.2 hT⟩
theorem lastEnd_snoc (e : Nat) (out : List S37) (T : S37) : lastEnd e (out ++ [T]) = endOf T := by
  unfold lastEnd
  rw [List.foldl_append]
  rfl
theorem piece_size {s : ByteArray} {a n : Nat} (h : a + n ≤ s.size) : (s.extract a (a + n)).size = n := by
  simp [ByteArray.size_extract]; omega
theorem toks_places (s : ByteArray) : ∀ (b a : Nat) (out : List S37), chain s 0 out → lastEnd 0 out ≤ a → out.length ≤ 600 →
    ((toks b (codes s) a out).2.2 = 0 → chain s 0 (toks b (codes s) a out).1 ∧ (toks b (codes s) a out).1.length ≤ 600) ∧
    ((toks b (codes s) a out).2.2 ≠ 0 → (toks b (codes s) a out).1 = [] ∧ ((toks b (codes s) a out).2.2 = 8 ∨ (toks b (codes s) a out).2.2 = 4))
  | 0, a, out, h, _, hl => ⟨fun _ => ⟨h, hl⟩, fun h0 => absurd rfl h0⟩
  | b + 1, a, out, h, he, hl => by
    rw [toks]
    by_cases ha : a < (codes s).length
    · rw [if_pos ha]
      have has : a < s.size := by rw [codes_length] at ha; exact ha
      by_cases hsp : spacedB ((codes s).getD a 0) = true
      · rw [if_pos hsp]
        exact toks_places s b (a + 1) out h (by omega) hl
      · rw [if_neg hsp]
        by_cases h59 : (codes s).getD a 0 = 59
        · rw [if_pos h59]
          exact toks_places s b _ out h (by omega) hl
        · rw [if_neg h59]
          obtain ⟨n, hn⟩ : ∃ n, n = wordLen ((codes s).drop a) := ⟨_, rfl⟩
          rw [← hn]
          have hn1 : 1 ≤ n := by rw [hn]; exact wordLen_pos ha (by simpa using hsp) h59
          have hn2 : a + n ≤ s.size := by
            have := wordLen_le ((codes s).drop a)
            rw [← hn, List.length_drop, codes_length] at this
            omega
          have hpc : codes (s.extract a (a + n)) = ((codes s).drop a).take n := by rw [codes_extract, List.drop_take, Nat.add_sub_cancel_left]
          rw [← hpc]
          have hf1 : (tokenOf (codes (s.extract a (a + n))) a).f1 = s.extract a (a + n) := by
            unfold tokenOf
            split
            · exact str_codes _
            · split
              · exact str_codes _
              · exact str_codes _
          have hf3 : (tokenOf (codes (s.extract a (a + n))) a).f3 = (a : Int) := by
            unfold tokenOf
            split
            · rfl
            · split <;> rfl
          have hf0 : (tokenOf (codes (s.extract a (a + n))) a).f0 = kindOf (codes (s.extract a (a + n))) ∨ (tokenOf (codes (s.extract a (a + n))) a).f0 = 1 ∨ (tokenOf (codes (s.extract a (a + n))) a).f0 = 2 := by
            unfold tokenOf
            split
            · exact .inr (.inl rfl)
            · split
              · exact .inr (.inr rfl)
              · exact .inl rfl
          generalize tokenOf (codes (s.extract a (a + n))) a = T at *
          by_cases h0 : T.f0 = 0
          · rw [if_pos h0]
            exact ⟨fun h => absurd (show (8 : Int) = 0 from h) (by decide), fun _ => ⟨rfl, .inl rfl⟩⟩
          · rw [if_neg h0]
            by_cases h6 : 600 ≤ out.length
            · rw [if_pos h6]
              exact ⟨fun h => absurd (show (4 : Int) = 0 from h) (by decide), fun _ => ⟨rfl, .inr rfl⟩⟩
            · rw [if_neg h6]
              refine toks_places s b (a + n) (out ++ [T]) (chain_snoc out 0 h ⟨a, n, hf3, hf1, he, hn1, hn2, by rw [hf1]; exact hf0⟩) ?_ (by rw [List.length_append, List.length_singleton]; omega)
              rw [lastEnd_snoc]
              unfold endOf
              rw [hf3, hf1, piece_size hn2, Int.toNat_natCast]
              exact Nat.le_refl _
    · rw [if_neg ha]
      exact ⟨fun _ => ⟨h, hl⟩, fun h0 => absurd rfl h0⟩
theorem wsucc (n : Nat) (h : n ≤ 100000) : wrap64 ((n : Int) + 1) = ((n + 1 : Nat) : Int) := by unfold wrap64; omega
theorem wadd (a n : Nat) (h : a + n ≤ 100000) : wrap64 ((a : Int) + (n : Int)) = ((a + n : Nat) : Int) := by unfold wrap64; omega
theorem wsub (m a : Nat) (h : a ≤ 100000) (h2 : m ≤ 100000) : wrap64 ((m : Int) - (a : Int)) = (m : Int) - (a : Int) := by unfold wrap64; omega
theorem l0_step (k : Nat) {s : ByteArray} {l : List S37} {e i a n : Nat} {T : S37} (hs : s.size ≤ 3010) (hi : i < l.length) (hr : rd_T37 l (i : Int) = T) (h3 : T.f3 = (a : Int)) (h1 : T.f1 = s.extract a (a + n)) (hea : e ≤ a) (hn1 : 1 ≤ n) (han : a + n ≤ s.size) :
    reticulelaw06_LexPlaces.l0 (k + 1) s l (e : Int) (i : Int) = reticulelaw06_LexPlaces.j1 k s l (i : Int) false T.f0 T.f1 T.f2 T.f3 := by
  have hsz : T.f1.size = n := by rw [h1]; exact piece_size han
  have hw2 : wrap64 ((a : Int) + (n : Int)) = ((a + n : Nat) : Int) := wadd a n (by omega)
  have hw3 : wrap64 ((s.size : Int) - (a : Int)) = (s.size : Int) - (a : Int) := wsub s.size a (by omega) (by omega)
  have g1 : (i : Int) < (l.length : Int) := Int.ofNat_lt.2 hi
  have g2 : ¬ (a : Int) < (e : Int) := by omega
  have g3 : ¬ (n : Int) < 1 := by omega
  have g4 : ¬ (n : Int) > (s.size : Int) - (a : Int) := by omega
  have g5 : (a : Int) ≤ ((a + n : Nat) : Int) := by omega
  have g6 : ((a + n : Nat) : Int) ≤ (s.size : Int) := by omega
  have g7 : ((s.extract a (a + n)).toList != T.f1.toList) = false := by rw [h1]; simp
  rw [reticulelaw06_LexPlaces.l0, if_pos g1, if_pos (Int.natCast_nonneg i), hr, h3, hsz, if_neg g2, if_neg g3, hw3, if_neg g4, if_pos (Int.natCast_nonneg a), hw2, if_pos g5, if_pos g6, Int.toNat_natCast, Int.toNat_natCast, g7]
theorem j1_step (k : Nat) {s : ByteArray} {l : List S37} {i a n : Nat} {T : S37} (hs : s.size ≤ 3010) (hi : i ≤ 600) (h3 : T.f3 = (a : Int)) (hsz : T.f1.size = n) (han : a + n ≤ s.size) :
    reticulelaw06_LexPlaces.j1 (k + 1) s l (i : Int) false T.f0 T.f1 T.f2 T.f3 = (lex_WordKind.f k T.f1).bind fun t165 => (if T.f0 = t165 then (reticulelaw06_LexPlaces.l0 k s l ((a + n : Nat) : Int) ((i + 1 : Nat) : Int)) else (if T.f0 = 1 then (reticulelaw06_LexPlaces.l0 k s l ((a + n : Nat) : Int) ((i + 1 : Nat) : Int)) else (if T.f0 = 2 then (reticulelaw06_LexPlaces.l0 k s l ((a + n : Nat) : Int) ((i + 1 : Nat) : Int)) else (some false)))) := by
  rw [reticulelaw06_LexPlaces.j1, if_neg (by decide), h3, hsz, wadd a n (by omega), wsucc i (by omega)]
theorem kind_choice {f0 K : Int} {g : Nat → Option Bool} (h : f0 = K ∨ f0 = 1 ∨ f0 = 2) (hg : Ev g true) : Ev (fun k => if f0 = K then g k else (if f0 = 1 then g k else (if f0 = 2 then g k else some false))) true := by
  by_cases h0 : f0 = K
  · exact Ev.congr (fun k => if_pos h0) hg
  · by_cases h1 : f0 = 1
    · exact Ev.congr (fun k => by rw [if_neg h0, if_pos h1]) hg
    · have h2 : f0 = 2 := by
        rcases h with h | h | h
        · exact absurd h h0
        · exact absurd h h1
        · exact h
      exact Ev.congr (fun k => by rw [if_neg h0, if_neg h1, if_pos h2]) hg
theorem places_step {s : ByteArray} {l : List S37} {e i : Nat} (hs : s.size ≤ 3010) (hl : l.length ≤ 600) (hi : i < l.length) (T : S37) (hT : l[i]? = some T) (hp : Placed s e T) (hn : Ev (fun k => reticulelaw06_LexPlaces.l0 k s l ((endOf T : Nat) : Int) ((i + 1 : Nat) : Int)) true) :
    Ev (fun k => reticulelaw06_LexPlaces.l0 k s l (e : Int) (i : Int)) true := by
  have hr : rd_T37 l (i : Int) = T := by
    unfold rd_T37
    rw [Int.toNat_natCast, List.getD_eq_getElem?_getD, hT]; rfl
  obtain ⟨a, n, h3, h1, hea, hn1, han, h0⟩ := hp
  have hsz : T.f1.size = n := by rw [h1]; exact piece_size han
  have hend : endOf T = a + n := by unfold endOf; rw [h3, hsz, Int.toNat_natCast]
  rw [hend] at hn
  have hk := wordKind_ev T.f1 (by omega)
  have hb := Ev.bind (f := fun k t165 => (if T.f0 = t165 then (reticulelaw06_LexPlaces.l0 k s l ((a + n : Nat) : Int) ((i + 1 : Nat) : Int)) else (if T.f0 = 1 then (reticulelaw06_LexPlaces.l0 k s l ((a + n : Nat) : Int) ((i + 1 : Nat) : Int)) else (if T.f0 = 2 then (reticulelaw06_LexPlaces.l0 k s l ((a + n : Nat) : Int) ((i + 1 : Nat) : Int)) else (some false))))) hk (kind_choice h0 hn)
  exact Ev.step (fun k => l0_step k hs hi hr h3 h1 hea hn1 han) (Ev.step (fun k => j1_step k hs (by omega) h3 hsz han) hb)
theorem places_go (s : ByteArray) (l : List S37) (hs : s.size ≤ 3010) (hl : l.length ≤ 600) : ∀ (n i e : Nat), i + n = l.length → chain s e (l.drop i) → Ev (fun k => reticulelaw06_LexPlaces.l0 k s l (e : Int) (i : Int)) true := by
  intro n
  induction n with
  | zero =>
    intro i e hi _
    refine Ev.of (fun k => (reticulelaw06_LexPlaces.mono_l k).1 _ _ _ _) (k := 0 + 1) ?_
    rw [reticulelaw06_LexPlaces.l0, if_neg (by omega), live_true]
    simp
    omega
  | succ n ih =>
    intro i e hi hc
    have hlt : i < l.length := by omega
    rw [List.drop_eq_getElem_cons hlt] at hc
    exact places_step hs hl hlt _ (List.getElem?_eq_getElem hlt) hc.1 (ih (i + 1) _ (by omega) hc.2)
theorem LexPlaces : reticulelaw06_LexPlaces.Pure := by
  intro s hs
  obtain ⟨t, ht, ht2⟩ := short_is s
  have h : (tokensOf (codes t)).2.2 = 0 → chain t 0 (tokensOf (codes t)).1 ∧ (tokensOf (codes t)).1.length ≤ 600 := by
    unfold tokensOf
    split
    · intro h; exact absurd h (by decide)
    · exact (toks_places t _ 0 [] trivial (Nat.le_refl _) (Nat.zero_le _)).1
  have h' : (tokensOf (codes t)).2.2 ≠ 0 → (tokensOf (codes t)).1 = [] ∧ ((tokensOf (codes t)).2.2 = 8 ∨ (tokensOf (codes t)).2.2 = 4) := by
    unfold tokensOf
    split
    · intro h; exact ⟨rfl, .inr rfl⟩
    · exact (toks_places t _ 0 [] trivial (Nat.le_refl _) (Nat.zero_le _)).2
  unfold reticulelaw06_LexPlaces.f lex_Tokens.f
  rw [ht, live_true]
  simp only [Option.bind_some, if_true]
  generalize tokensOf (codes t) = r at *
  by_cases h0 : r.2.2 = 0
  · obtain ⟨k, hk⟩ := (places_go t r.1 ht2 (h h0).2 r.1.length 0 0 (by omega) (h h0).1).rounds
    refine ⟨k, ?_⟩
    rw [if_pos h0]
    exact hk
  · refine ⟨0, ?_⟩
    obtain ⟨h1, h2⟩ := h' h0
    rw [if_neg h0, h1]
    rcases h2 with h2 | h2 <;> rw [h2] <;> rfl
end Go.Proofs.Ytiojfdgagdofiaa.Pure
