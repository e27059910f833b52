/-
The printed functions on words come to what they say in plain words: num.Parse and the document's Parse.
-/
import Derived.Test.YtiojfdgagdofiaaLexB
import Derived.Test.YtiojfdgagdofiaaHBx4
import Derived.Test.YtiojfdgagdofiaaHBx6
set_option linter.unusedVariables false
set_option linter.unusedSimpArgs false
namespace Go.Proofs.Ytiojfdgagdofiaa.HK
open Go.RowKit Go.Proofs.YtiojfdgagdofiaaW.PrintWords Go.Proofs.Ytiojfdgagdofiaa.HB

theorem digitsOf_byte (a : Int) : ∀ x ∈ digitsOf a, 0 ≤ x ∧ x ≤ 255 := by
  have hf : ∀ n, ∀ x ∈ full n, 0 ≤ x ∧ x ≤ 255 := by
    intro n x hx
    have := full_dig n
    unfold allDig at this
    rw [List.all_eq_true] at this
    have := this x hx
    simp at this
    omega
  intro x hx
  rcases digitsOf_cases a with ⟨_, e⟩ | ⟨_, e⟩ <;> rw [e] at hx
  · rcases List.mem_cons.1 hx with rfl | hx
    · omega
    · exact hf _ x hx
  · exact hf _ x hx
theorem digits_eq {a : Int} {s : ByteArray} : (strOfNums (digitsOf a)).toList = s.toList ↔ digitsOf a = codes s := by
  rw [toList_codes, codes_str _ (digitsOf_byte a)]
theorem wrap64_in (x : Int) : -9223372036854775808 ≤ wrap64 x ∧ wrap64 x ≤ 9223372036854775807 := by
  unfold wrap64; omega
theorem drop_cons {L : List Int} {i : Nat} (h : i < L.length) : L.drop i = L.getD i 0 :: L.drop (i + 1) := by
  rw [List.drop_eq_getElem_cons h, List.getD_eq_getElem?_getD, List.getElem?_eq_getElem h]; rfl
def finP (b : Bool) (V : Nat) (L : List Int) : Int × Int :=
  if digitsOf (if b = true then wrap64 (-(V : Int)) else wrap64 (-(wrap64 (-(V : Int))))) = L then ((if b = true then wrap64 (-(V : Int)) else wrap64 (-(wrap64 (-(V : Int))))), 0) else (0, 3)
theorem parse_loop (s : ByteArray) (b : Bool) (hs : s.size ≤ 20) : ∀ (n i v : Nat), i + n = s.size → (b = true → 1 ≤ i) →
    Ev (fun k => num_Parse.l0 k s (wrap64 (-(v : Int))) b (s.size : Int) (i : Int)) (if allDig ((codes s).drop i) = true then finP b (valOf v ((codes s).drop i)) (codes s) else (0, 3)) := by
  intro n
  induction n with
  | zero =>
    intro i v hi hb
    have hd : (codes s).drop i = [] := List.drop_eq_nil_of_le (by rw [codes_length]; omega)
    rw [hd]
    refine Ev.of (fun k => (num_Parse.mono_l k).2.1 _ _ _ _ _) (k := 0 + 1) ?_
    rw [num_Parse.l0]
    rw [if_neg (by omega), show (if allDig [] = true then finP b (valOf v []) (codes s) else (0, 3)) = finP b v (codes s) from if_pos rfl]
    unfold finP
    show _ = some (if digitsOf (if b = true then wrap64 (-(v : Int)) else wrap64 (-(wrap64 (-(v : Int))))) = codes s then _ else _)
    have hin := wrap64_in
    cases b with
    | true =>
      rw [if_pos rfl]
      unfold num_Digits.f
      rw [if_pos (hin _), Option.bind_some]
      by_cases h : digitsOf (wrap64 (-(v : Int))) = codes s
      · rw [if_pos (digits_eq.2 h), if_pos (by simpa using h)]; rfl
      · rw [if_neg (fun hh => h (digits_eq.1 hh)), if_neg (by simpa using h)]
    | false =>
      rw [if_neg (by decide)]
      unfold num_Digits.f
      rw [if_pos (hin _), Option.bind_some]
      by_cases h : digitsOf (wrap64 (-wrap64 (-(v : Int)))) = codes s
      · rw [if_pos (digits_eq.2 h), if_pos (by simpa using h)]; rfl
      · rw [if_neg (fun hh => h (digits_eq.1 hh)), if_neg (by simpa using h)]
  | succ n ih =>
    intro i v hi hb
    have hlt : i < (codes s).length := by rw [codes_length]; omega
    have hbt : bt s (i : Int) = (codes s).getD i 0 := by rw [bt_codes]; rfl
    have hw : wrap64 ((i : Int) + 1) = ((i + 1 : Nat) : Int) := by unfold wrap64; omega
    obtain ⟨c, hc⟩ : ∃ c, c = (codes s).getD i 0 := ⟨_, rfl⟩
    have hb0 : 0 ≤ c ∧ c ≤ 255 := by rw [hc, List.getD_eq_getElem?_getD, List.getElem?_eq_getElem hlt]; exact codes_byte s _ (List.getElem_mem hlt)
    have hdr := drop_cons hlt
    rw [← hc] at hdr hbt
    rw [hdr, allDig_cons]
    have key : Ev (fun k => num_Parse.j2 k s (wrap64 (-(v : Int))) b (i : Int) (s.size : Int) (i : Int) false) (if (decide (48 ≤ c) && decide (c ≤ 57) && allDig ((codes s).drop (i + 1))) = true then finP b (valOf v (c :: (codes s).drop (i + 1))) (codes s) else (0, 3)) := by
      by_cases h1 : c < 48
      · refine Ev.of (fun k => (num_Parse.mono_l k).2.2 _ _ _ _ _ _ _) (k := 0 + 1) ?_
        rw [num_Parse.j2]
        rw [if_neg (by decide), if_pos (by omega), if_pos (by omega), hbt, if_pos h1, decide_eq_false (by omega)]
        rfl
      · by_cases h2 : c > 57
        · refine Ev.of (fun k => (num_Parse.mono_l k).2.2 _ _ _ _ _ _ _) (k := 0 + 1) ?_
          rw [num_Parse.j2]
          rw [if_neg (by decide), if_pos (by omega), if_pos (by omega), hbt, if_neg h1, if_pos h2, decide_eq_false (show ¬ c ≤ 57 by omega), Bool.and_false]
          rfl
        · refine Ev.step (f := fun k => num_Parse.l0 k s (wrap64 (-((v * 10 + (c - 48).toNat : Nat) : Int))) b (s.size : Int) ((i + 1 : Nat) : Int)) (fun k => ?_) ?_
          · rw [num_Parse.j2]
            rw [if_neg (by decide), if_pos (by omega), if_pos (by omega), hbt, if_neg h1, if_neg h2, hw]
            congr 1
            unfold wrap64
            omega
          · rw [decide_eq_true (show 48 ≤ c by omega), decide_eq_true (show c ≤ 57 by omega), Bool.true_and]
            exact ih (i + 1) (v * 10 + (c - 48).toNat) (by omega) (fun _ => by omega)
    refine Ev.step (f := fun k => num_Parse.j2 k s (wrap64 (-(v : Int))) b (i : Int) (s.size : Int) (i : Int) false) (fun k => ?_) key
    rw [num_Parse.l0]
    rw [if_pos (by omega)]
    by_cases h0 : (i : Int) = 0
    · rw [if_pos h0]
      have : b = false := by
        cases b with
        | true => have := hb rfl; omega
        | false => rfl
      rw [this]
    · rw [if_neg h0]
theorem parse_ev (s : ByteArray) : Ev (fun k => num_Parse.f k s) (parseOf (codes s)) := by
  have hl := codes_length s
  by_cases h0 : s.size = 0
  · have hn : codes s = [] := List.eq_nil_of_length_eq_zero (by omega)
    have hp : parseOf (codes s) = (0, 3) := by rw [hn]; rfl
    rw [hp]
    refine Ev.of (fun k => num_Parse.mono s k) (k := 0 + 1) ?_
    unfold num_Parse.f
    rw [if_pos (by rw [ByteArray.toList_eq]; exact List.eq_nil_of_length_eq_zero (by simpa using h0))]
    rfl
  · have hne : ¬ s.toList = ([] : List UInt8) := by
      rw [ByteArray.toList_eq]
      intro h
      exact h0 (by simpa using congrArg List.length h)
    by_cases h20 : 20 < s.size
    · have hp : (0, 3) = parseOf (codes s) := parseOf_is (.inr ⟨fun a ha e => by
        have := (digitsOf_len ha).2
        rw [e] at this
        omega, rfl⟩)
      rw [← hp]
      refine Ev.of (fun k => num_Parse.mono s k) (k := 0 + 1) ?_
      unfold num_Parse.f
      rw [if_neg hne, decide_eq_true (by omega)]
      rfl
    · have hbt : bt s 0 = (codes s).getD 0 0 := by rw [bt_codes]; rfl
      have hlt : 0 < (codes s).length := by omega
      obtain ⟨c, t, hct⟩ : ∃ c t, codes s = c :: t := by
        cases hc : codes s with
        | nil => rw [hc] at hlt; simp at hlt
        | cons c t => exact ⟨c, t, rfl⟩
      have hc0 : bt s 0 = c := by rw [hbt, hct]; rfl
      -- from the loop on
      have hstep : ∀ r, Ev (fun k => num_Parse.l0 k s 0 (c == 45) (s.size : Int) 0) r → Ev (fun k => num_Parse.f k s) r := by
        intro r hr
        refine Ev.congr (f := fun k => num_Parse.j0 k s false) (fun k => ?_) ?_
        · unfold num_Parse.f
          rw [if_neg hne, decide_eq_false (by omega)]
        · refine Ev.step (f := fun k => num_Parse.l0 k s 0 (c == 45) (s.size : Int) 0) (fun k => ?_) hr
          rw [num_Parse.j0]
          rw [if_neg (by decide), if_pos (by omega), hc0]
      apply hstep
      have hz : wrap64 (-((0 : Nat) : Int)) = 0 := by unfold wrap64; omega
      by_cases h45 : c = 45
      · subst h45
        have e1 : ((45 : Int) == 45) = true := by decide
        rw [e1]
        -- the first sign is passed over
        have h1 := parse_loop s true (by omega) (s.size - 1) 1 0 (by omega) (fun _ => Nat.le_refl _)
        rw [hz, hct] at h1
        have hfin : parseOf (codes s) = (if allDig (List.drop 1 (45 :: t)) = true then finP true (valOf 0 (List.drop 1 (45 :: t))) (45 :: t) else (0, 3)) := by
          symm
          apply parseOf_is
          rw [hct]
          show (∃ a, inW a ∧ digitsOf a = 45 :: t ∧ (if allDig t = true then finP true (valOf 0 t) (45 :: t) else (0, 3)) = (a, 0)) ∨ ((∀ a, inW a → digitsOf a ≠ 45 :: t) ∧ (if allDig t = true then finP true (valOf 0 t) (45 :: t) else (0, 3)) = (0, 3))
          by_cases hex : ∃ a, inW a ∧ digitsOf a = 45 :: t
          · obtain ⟨a, ha, hd⟩ := hex
            left
            refine ⟨a, ha, hd, ?_⟩
            have hta : a < 0 ∧ t = full (-a).toNat := by
              rcases digitsOf_cases a with ⟨h, e⟩ | ⟨h, e⟩
              · rw [e] at hd; exact ⟨h, (List.cons.inj hd).2.symm⟩
              · exact absurd (by rw [← e, hd]; rfl) (full_ne45 a.toNat)
            have hw : wrap64 (-((valOf 0 t : Nat) : Int)) = a := by
              unfold inW at ha
              rw [hta.2, val_full]; unfold wrap64; omega
            rw [if_pos (by rw [hta.2]; exact full_dig _)]
            unfold finP
            rw [if_pos rfl, hw, if_pos hd]
          · right
            refine ⟨fun a ha hd => hex ⟨a, ha, hd⟩, ?_⟩
            split
            · unfold finP
              rw [if_pos rfl]
              rw [if_neg (fun hd => hex ⟨_, wrap64_in _, hd⟩)]
            · rfl
        rw [hfin]
        refine Ev.step (f := fun k => num_Parse.j2 k s 0 true 0 (s.size : Int) 0 true) (fun k => ?_) (Ev.step (f := fun k => num_Parse.l0 k s 0 true (s.size : Int) ((1 : Nat) : Int)) (fun k => ?_) h1)
        · rw [num_Parse.l0]
          rw [if_pos (by omega), if_pos rfl]
        · rw [num_Parse.j2]
          rw [if_pos rfl, show wrap64 (0 + 1) = ((1 : Nat) : Int) by unfold wrap64; omega]
      · have e1 : (c == 45) = false := by simpa using h45
        rw [e1]
        have h1 := parse_loop s false (by omega) s.size 0 0 (by omega) (fun h => by cases h)
        rw [hz, List.drop_zero] at h1
        have hfin : parseOf (codes s) = (if allDig (codes s) = true then finP false (valOf 0 (codes s)) (codes s) else (0, 3)) := by
          symm
          apply parseOf_is
          by_cases hex : ∃ a, inW a ∧ digitsOf a = codes s
          · obtain ⟨a, ha, hd⟩ := hex
            left
            refine ⟨a, ha, hd, ?_⟩
            have hta : 0 ≤ a ∧ codes s = full a.toNat := by
              rcases digitsOf_cases a with ⟨h, e⟩ | ⟨h, e⟩
              · rw [e, hct] at hd; exact absurd (List.cons.inj hd).1.symm h45
              · rw [← e]; exact ⟨h, hd.symm⟩
            have hw : wrap64 (-wrap64 (-((valOf 0 (codes s) : Nat) : Int))) = a := by
              unfold inW at ha
              rw [hta.2, val_full]; unfold wrap64; omega
            rw [if_pos (by rw [hta.2]; exact full_dig _)]
            show (if digitsOf (wrap64 (-wrap64 (-((valOf 0 (codes s) : Nat) : Int)))) = codes s then ((wrap64 (-wrap64 (-((valOf 0 (codes s) : Nat) : Int)))), (0 : Int)) else (0, 3)) = _
            rw [hw, if_pos hd]
          · right
            refine ⟨fun a ha hd => hex ⟨a, ha, hd⟩, ?_⟩
            split
            · show (if digitsOf (wrap64 (-wrap64 (-((valOf 0 (codes s) : Nat) : Int)))) = codes s then ((wrap64 (-wrap64 (-((valOf 0 (codes s) : Nat) : Int)))), (0 : Int)) else (0, 3)) = _
              rw [if_neg (fun hd => hex ⟨_, wrap64_in _, hd⟩)]
            · rfl
        rw [hfin]
        exact h1
end Go.Proofs.Ytiojfdgagdofiaa.HK
