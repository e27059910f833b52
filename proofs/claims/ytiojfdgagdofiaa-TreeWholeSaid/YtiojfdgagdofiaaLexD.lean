/-
The document's Parse comes to what a text says as a number.
-/
import Derived.Test.YtiojfdgagdofiaaLexC
set_option linter.unusedVariables false
set_option linter.unusedSimpArgs false
namespace Go.Proofs.Ytiojfdgagdofiaa.HK
open Go.RowKit Go.Proofs.YtiojfdgagdofiaaW.PrintWords Go.Proofs.Ytiojfdgagdofiaa.HB

def finR (b : Bool) (V : Nat) : Int × Int := if b = true then (if V ≤ 9223372036854775808 then (-(V : Int), 0) else (0, 3)) else (if V ≤ 9223372036854775807 then ((V : Int), 0) else (0, 3))
theorem pow_small {i : Nat} (h : i ≤ 18) : 10 ^ i ≤ 1000000000000000000 := Nat.le_trans (Nat.pow_le_pow_right (by decide) h) (by decide)
theorem u64_in' {x : Int} (h0 : 0 ≤ x) (h1 : x ≤ 18446744073709551615) : IntKind.u64.wrap x = x := IntWalk.u64_in _ ⟨h0, h1⟩
theorem u64_neg {V : Nat} (h : V ≤ 9223372036854775808) : wrap64 (IntKind.u64.wrap (-(V : Int))) = -(V : Int) := by
  simp [IntKind.wrap, IntKind.signed, IntKind.bits]
  unfold wrap64
  omega
theorem ref_loop (t : ByteArray) (b : Bool) (hs : t.size ≤ 19) : ∀ (n i v : Nat), i + n = t.size → v < 10 ^ i →
    Ev (fun k => reticuleref01_Parse.l0 k t b (v : Int) (i : Int)) (if allDig ((codes t).drop i) = true then finR b (valOf v ((codes t).drop i)) else (0, 3)) := by
  intro n
  induction n with
  | zero =>
    intro i v hi hv
    have hd : (codes t).drop i = [] := List.drop_eq_nil_of_le (by rw [codes_length]; omega)
    rw [hd, show (if allDig [] = true then finR b (valOf v []) else (0, 3)) = finR b v from if_pos rfl]
    refine Ev.of (fun k => (reticuleref01_Parse.mono_l k).2.2.2.1 _ _ _ _) (k := 0 + 1 + 1) ?_
    rw [reticuleref01_Parse.l0, if_neg (by omega)]
    unfold finR
    cases b with
    | true =>
      rw [if_pos rfl, if_pos rfl]
      by_cases h : v ≤ 9223372036854775808
      · rw [if_neg (by omega), reticuleref01_Parse.j4, if_neg (by decide), if_pos rfl, if_pos h, u64_neg h]
      · rw [if_pos (by omega), reticuleref01_Parse.j4, if_pos rfl, if_neg h]
    | false =>
      rw [if_neg (by decide), if_neg (by decide), reticuleref01_Parse.j4]
      by_cases h : v ≤ 9223372036854775807
      · rw [decide_eq_false (by omega), if_neg (by decide), if_neg (by decide), if_pos h, show wrap64 (v : Int) = (v : Int) by unfold wrap64; omega]
      · rw [decide_eq_true (by omega), if_pos rfl, if_neg h]
  | succ n ih =>
    intro i v hi hv
    have hlt : i < (codes t).length := by rw [codes_length]; omega
    have hbt : bt t (i : Int) = (codes t).getD i 0 := by rw [bt_codes]; rfl
    have hw : wrap64 ((i : Int) + 1) = ((i + 1 : Nat) : Int) := by unfold wrap64; omega
    obtain ⟨c, hc⟩ : ∃ c, c = (codes t).getD i 0 := ⟨_, rfl⟩
    have hdr := drop_cons hlt
    rw [← hc] at hdr hbt
    rw [hdr, allDig_cons]
    by_cases h1 : c < 48
    · refine Ev.of (fun k => (reticuleref01_Parse.mono_l k).2.2.2.1 _ _ _ _) (k := 0 + 1) ?_
      rw [reticuleref01_Parse.l0, if_pos (by omega), if_pos (by omega), hbt, if_pos h1, decide_eq_false (by omega)]
      rfl
    · by_cases h2 : c > 57
      · refine Ev.of (fun k => (reticuleref01_Parse.mono_l k).2.2.2.1 _ _ _ _) (k := 0 + 1) ?_
        rw [reticuleref01_Parse.l0, if_pos (by omega), if_pos (by omega), hbt, if_neg h1, if_pos h2, decide_eq_false (show ¬ c ≤ 57 by omega), Bool.and_false]
        rfl
      · have hp := pow_small (i := i) (by omega)
        refine Ev.step (f := fun k => reticuleref01_Parse.l0 k t b ((v * 10 + (c - 48).toNat : Nat) : Int) ((i + 1 : Nat) : Int)) (fun k => ?_) ?_
        · rw [reticuleref01_Parse.l0, if_pos (by omega), if_pos (by omega), hbt, if_neg h1, if_neg h2, hw]
          have e1 : IntKind.u64.wrap ((v : Int) * 10) = (v : Int) * 10 := u64_in' (by omega) (by omega)
          have e2 : (c - 48) % 256 = c - 48 := by omega
          rw [e1, e2, u64_in' (by omega) (by omega)]
          congr 1
          omega
        · rw [decide_eq_true (show 48 ≤ c by omega), decide_eq_true (show c ≤ 57 by omega), Bool.true_and]
          exact ih (i + 1) (v * 10 + (c - 48).toNat) (by omega) (by rw [Nat.pow_succ]; omega)
theorem okDig_len {d : List Int} (h : okDig d = true) (hv : valOf 0 d ≤ 9223372036854775808) : d.length ≤ 19 := by
  have := full_of_ok h
  rw [← this]
  exact full_len 18 _ (by rw [show (10 : Nat) ^ (18 + 1) = 10000000000000000000 by decide]; omega)
/-- From the digits on. -/
theorem ref_digits (s t : ByteArray) (b : Bool) (hs : t.size ≤ 140737488351232) :
    Ev (fun k => reticuleref01_Parse.j1 k s t b) (if allDig (codes t) = true ∧ 1 ≤ t.size ∧ t.size ≤ 19 ∧ ((codes t).head? = some 48 → codes s = [48]) then finR b (valOf 0 (codes t)) else (0, 3)) := by
  have hl := codes_length t
  by_cases h1 : t.size < 1
  · rw [if_neg (by omega)]
    refine Ev.of (fun k => (reticuleref01_Parse.mono_l k).2.1 _ _ _) (k := 0 + 1 + 1) ?_
    rw [reticuleref01_Parse.j1, if_pos (by omega), reticuleref01_Parse.j2, if_pos rfl]
  · by_cases h2 : 19 < t.size
    · rw [if_neg (by omega)]
      refine Ev.of (fun k => (reticuleref01_Parse.mono_l k).2.1 _ _ _) (k := 0 + 1 + 1) ?_
      rw [reticuleref01_Parse.j1, if_neg (by omega), if_pos (by omega), reticuleref01_Parse.j2, if_pos rfl]
    · have hbt : bt t 0 = (codes t).getD 0 0 := by rw [bt_codes]; rfl
      obtain ⟨c, r, hcr⟩ : ∃ c r, codes t = c :: r := by
        cases hc : codes t with
        | nil => rw [hc] at hl; simp at hl; omega
        | cons c r => exact ⟨c, r, rfl⟩
      have hc0 : bt t 0 = c := by rw [hbt, hcr]; rfl
      have hlo := ref_loop t b (by omega) t.size 0 0 (by omega) (by decide)
      rw [List.drop_zero] at hlo
      have hgo : ∀ r, Ev (fun k => reticuleref01_Parse.l0 k t b ((0 : Nat) : Int) ((0 : Nat) : Int)) r → Ev (fun k => reticuleref01_Parse.j2 k t b false) r := by
        intro r hr
        refine Ev.step (f := fun k => reticuleref01_Parse.l0 k t b ((0 : Nat) : Int) ((0 : Nat) : Int)) (fun k => ?_) hr
        rw [reticuleref01_Parse.j2, if_neg (by decide)]
        rfl
      by_cases h48 : c = 48
      · by_cases hz : codes s = [48]
        · have hbz : (s.toList != ([48] : List UInt8)) = false := by
            have : s.toList = [48] := by
              have e : s = ⟨#[48]⟩ := codes_inj (by rw [hz]; rfl)
              rw [e, ByteArray.toList_eq]
            rw [this]; rfl
          refine Ev.step (f := fun k => reticuleref01_Parse.j2 k t b false) (fun k => ?_) (hgo _ ?_)
          · rw [reticuleref01_Parse.j1, if_neg (by omega), if_neg (by omega), if_pos (by omega), hc0, if_pos h48, hbz]
          · by_cases ha : allDig (codes t) = true
            · rw [if_pos ha] at hlo; rw [if_pos ⟨ha, by omega, by omega, fun _ => hz⟩]; exact hlo
            · rw [if_neg ha] at hlo; rw [if_neg (fun h => ha h.1)]; exact hlo
        · have hbz : (s.toList != ([48] : List UInt8)) = true := by
            simp only [bne_iff_ne, ne_eq]
            intro e
            apply hz
            rw [ByteArray.toList_eq] at e
            unfold codes
            rw [e]; rfl
          rw [if_neg (fun h => hz (h.2.2.2 (by rw [hcr, h48]; rfl)))]
          refine Ev.of (fun k => (reticuleref01_Parse.mono_l k).2.1 _ _ _) (k := 0 + 1 + 1) ?_
          rw [reticuleref01_Parse.j1, if_neg (by omega), if_neg (by omega), if_pos (by omega), hc0, if_pos h48, hbz, reticuleref01_Parse.j2, if_pos rfl]
      · refine Ev.step (f := fun k => reticuleref01_Parse.j2 k t b false) (fun k => ?_) (hgo _ ?_)
        · rw [reticuleref01_Parse.j1, if_neg (by omega), if_neg (by omega), if_pos (by omega), hc0, if_neg h48]
        · by_cases ha : allDig (codes t) = true
          · rw [if_pos ha] at hlo
            rw [if_pos ⟨ha, by omega, by omega, fun h => by rw [hcr] at h; exact absurd (by simpa using h) h48⟩]; exact hlo
          · rw [if_neg ha] at hlo; rw [if_neg (fun h => ha h.1)]; exact hlo
theorem parseOf_neg (r : List Int) : parseOf (45 :: r) = (if okDig r = true ∧ r ≠ [48] ∧ valOf 0 r ≤ 9223372036854775808 then (-(valOf 0 r : Int), 0) else (0, 3)) := if_pos rfl
theorem refParse_ev (s : ByteArray) (hs : s.size ≤ 140737488351232) : Ev (fun k => reticuleref01_Parse.f k s) (parseOf (codes s)) := by
  have hl := codes_length s
  by_cases h0 : s.size = 0
  · have hn : codes s = [] := List.eq_nil_of_length_eq_zero (by omega)
    have h1 := ref_digits s s false hs
    rw [if_neg (by omega)] at h1
    rw [hn, show parseOf [] = (0, 3) from rfl]
    refine Ev.congr (f := fun k => reticuleref01_Parse.j0 k s s false) (fun k => ?_) (Ev.step (f := fun k => reticuleref01_Parse.j1 k s s false) (fun k => ?_) h1)
    · unfold reticuleref01_Parse.f
      rw [if_neg (by omega)]
    · rw [reticuleref01_Parse.j0, if_neg (by decide)]
  · have hbt : bt s 0 = (codes s).getD 0 0 := by rw [bt_codes]; rfl
    obtain ⟨c, r, hcr⟩ : ∃ c r, codes s = c :: r := by
      cases hc : codes s with
      | nil => rw [hc] at hl; simp at hl; omega
      | cons c r => exact ⟨c, r, rfl⟩
    have hc0 : bt s 0 = c := by rw [hbt, hcr]; rfl
    by_cases h45 : c = 45
    · subst h45
      have hct : codes (s.extract 1 s.size) = r := by rw [codes_extract, List.take_of_length_le (by omega), hcr]; rfl
      have hsz : (s.extract 1 s.size).size = s.size - 1 := by rw [← codes_length, hct]; rw [hcr] at hl; simp at hl; omega
      have h1 := ref_digits s (s.extract 1 s.size) true (by omega)
      rw [hct] at h1
      have e : parseOf (codes s) = (if allDig r = true ∧ 1 ≤ (s.extract 1 s.size).size ∧ (s.extract 1 s.size).size ≤ 19 ∧ (r.head? = some 48 → codes s = [48]) then finR true (valOf 0 r) else (0, 3)) := by
        rw [hcr, parseOf_neg]
        have hlr : r.length = (s.extract 1 s.size).size := by rw [← codes_length, hct]
        rw [← hlr]
        by_cases hA : okDig r = true ∧ r ≠ [48] ∧ valOf 0 r ≤ 9223372036854775808
        · obtain ⟨ha, hb, hc⟩ := hA
          have hln := okDig_len ha hc
          have ha' := ha
          unfold okDig at ha
          simp only [Bool.and_eq_true, Bool.or_eq_true, decide_eq_true_eq] at ha
          have hlen1 := List.length_pos_iff.2 ha.1.2
          have h48 : r.head? = some 48 → 45 :: r = [48] := by
            intro h48
            rcases ha.2 with h | h
            · exact absurd h48 h
            · exact absurd h hb
          rw [if_pos ⟨ha', hb, hc⟩, if_pos ⟨ha.1.1, hlen1, hln, h48⟩]
          unfold finR; rw [if_pos rfl, if_pos hc]
        · rw [if_neg hA]
          split
          · rename_i hB
            obtain ⟨ha, hb, hc, hd⟩ := hB
            unfold finR
            rw [if_pos rfl]
            have hne : r ≠ [] := by intro h; rw [h] at hb; simp at hb
            have h48 : r.head? ≠ some 48 := fun h => by have := hd h; simp at this
            by_cases hv : valOf 0 r ≤ 9223372036854775808
            · exact absurd ⟨by unfold okDig; simp only [Bool.and_eq_true, Bool.or_eq_true, decide_eq_true_eq]; exact ⟨⟨ha, hne⟩, .inl h48⟩, fun h => h48 (by rw [h]; rfl), hv⟩ hA
            · rw [if_neg hv]
          · rfl
      rw [e]
      refine Ev.congr (f := fun k => reticuleref01_Parse.j0 k s s true) (fun k => ?_) (Ev.step (f := fun k => reticuleref01_Parse.j1 k s (s.extract 1 s.size) true) (fun k => ?_) h1)
      · unfold reticuleref01_Parse.f
        rw [if_pos (by omega), if_pos (by omega), hc0]
        rfl
      · rw [reticuleref01_Parse.j0, if_pos rfl, if_pos (by omega)]
    · have h1 := ref_digits s s false hs
      have e : parseOf (codes s) = (if allDig (codes s) = true ∧ 1 ≤ s.size ∧ s.size ≤ 19 ∧ ((codes s).head? = some 48 → codes s = [48]) then finR false (valOf 0 (codes s)) else (0, 3)) := by
        unfold parseOf
        rw [if_neg (show ¬ (codes s).head? = some 45 by rw [hcr]; simpa using h45), ← hl]
        by_cases hA : okDig (codes s) = true ∧ valOf 0 (codes s) ≤ 9223372036854775807
        · obtain ⟨ha, hc⟩ := hA
          have hln := okDig_len ha (by omega)
          have ha' := ha
          unfold okDig at ha
          simp only [Bool.and_eq_true, Bool.or_eq_true, decide_eq_true_eq] at ha
          have h48 : (codes s).head? = some 48 → codes s = [48] := by
            intro h48
            rcases ha.2 with h | h
            · exact absurd h48 h
            · exact h
          rw [if_pos ⟨ha', hc⟩, if_pos ⟨ha.1.1, by omega, hln, h48⟩]
          unfold finR; rw [if_neg (by decide), if_pos hc]
        · rw [if_neg hA]
          split
          · rename_i hB
            obtain ⟨ha, hb, hc, hd⟩ := hB
            unfold finR
            rw [if_neg (by decide)]
            have hne : codes s ≠ [] := by intro h; rw [h] at hb; simp at hb
            by_cases hv : valOf 0 (codes s) ≤ 9223372036854775807
            · refine absurd ⟨?_, hv⟩ hA
              unfold okDig; simp only [Bool.and_eq_true, Bool.or_eq_true, decide_eq_true_eq]
              refine ⟨⟨ha, hne⟩, ?_⟩
              by_cases h : (codes s).head? = some 48
              · exact .inr (hd h)
              · exact .inl h
            · rw [if_neg hv]
          · rfl
      rw [e]
      refine Ev.congr (f := fun k => reticuleref01_Parse.j0 k s s false) (fun k => ?_) (Ev.step (f := fun k => reticuleref01_Parse.j1 k s s false) (fun k => ?_) h1)
      · unfold reticuleref01_Parse.f
        rw [if_pos (by omega), if_pos (by omega), hc0, show (c == 45) = false by simpa using h45]
      · rw [reticuleref01_Parse.j0, if_neg (by decide)]
end Go.Proofs.Ytiojfdgagdofiaa.HK
