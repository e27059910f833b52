/-
The contract of the document's Tokens, over the translation: a text's tokens.
-/
import Derived.Test.YtiojfdgagdofiaaHk3
import Derived.Test.YtiojfdgagdofiaaHBx7
set_option linter.unusedVariables false
set_option linter.unusedSimpArgs false
namespace Go.Proofs.Ytiojfdgagdofiaa.HK
open Go.RowKit Go.Proofs.YtiojfdgagdofiaaW.PrintWords Go.Proofs.YtiojfdgagdofiaaW.PrintLast Go.Proofs.YtiojfdgagdofiaaW.PrintMore Go.Proofs.Ytiojfdgagdofiaa.HB

theorem refSpaced_f (c : Int) : reticuleref06_Spaced.f c = some (spacedB c) := by
  unfold reticuleref06_Spaced.f spacedB
  by_cases h1 : c = 32
  · simp [h1]
  · by_cases h2 : c = 9
    · simp [h2]
    · by_cases h3 : c = 10
      · simp [h3]
      · simp [h1, h2, h3]
theorem ends_f (c : Int) : reticuleref06_ends.f c = some (endsB c) := by
  unfold reticuleref06_ends.f endsB
  rw [refSpaced_f, Option.bind_some]
  cases hs : spacedB c with
  | true => simp
  | false =>
    by_cases h2 : c = 40
    · simp [h2]
    · by_cases h3 : c = 41
      · simp [h3]
      · by_cases h4 : c = 59
        · simp [h4]
        · simp [h2, h3, h4]
/-- What stands at each round's head. -/
def RefRel (w wr : World) (s : ByteArray) (R : List S37 × Int × Int) (a b : Nat) (out : List S37) (v : Value) : Prop :=
  wr.ownsRow w.heap.size 37 4 v out.length (tokCells out) ∧ Below w.heap.size w wr ∧ toks b (codes s) a out = R ∧ s.size - a < b
theorem RefRel.drewN {w wr : World} {s : ByteArray} {R : List S37 × Int × Int} {a b : Nat} {out : List S37} {v : Value} (h : RefRel w wr s R a b out v) (q a' b' : Nat) (ht : toks b' (codes s) a' out = R) (hb : s.size - a' < b') :
    RefRel w (wr.drewN q) s R a' b' out v := ⟨own_move (w := wr) h.1 (fun k hk => rfl), pw_below_drewN h.2.1 q, ht, hb⟩
theorem toks_space {s : ByteArray} {R : List S37 × Int × Int} {a b : Nat} {out : List S37} (h4 : toks b (codes s) a out = R) (h5 : s.size - a < b) (ha : a < s.size) (hc : spacedB ((codes s).getD a 0) = true) : ∃ b', toks b' (codes s) (a + 1) out = R ∧ s.size - (a + 1) < b' := by
  obtain ⟨b, rfl⟩ : ∃ b', b = b' + 1 := ⟨b - 1, by omega⟩
  rw [toks, if_pos (by rw [codes_length]; exact ha), if_pos hc] at h4
  exact ⟨b, h4, by omega⟩
theorem toks_remark {s : ByteArray} {R : List S37 × Int × Int} {a b : Nat} {out : List S37} (h4 : toks b (codes s) a out = R) (h5 : s.size - a < b) (ha : a < s.size) (hc : spacedB ((codes s).getD a 0) = false) (h59 : (codes s).getD a 0 = 59) :
    a + remLen ((codes s).drop a) ≤ s.size ∧ 1 ≤ remLen ((codes s).drop a) ∧ ∃ b', toks b' (codes s) (a + remLen ((codes s).drop a)) out = R ∧ s.size - (a + remLen ((codes s).drop a)) < b' := by
  obtain ⟨b, rfl⟩ : ∃ b', b = b' + 1 := ⟨b - 1, by omega⟩
  rw [toks, if_pos (by rw [codes_length]; exact ha), if_neg (by rw [hc]; decide), if_pos h59] at h4
  have h1 := remLen_le ((codes s).drop a)
  rw [List.length_drop, codes_length] at h1
  have h2 := remLen_pos (L := codes s) (a := a) (by rw [codes_length]; exact ha) h59
  exact ⟨by omega, h2, b, h4, by omega⟩
/-- The call of a function on a byte of the text. -/
theorem spaced_call (s : ByteArray) (a : Nat) (h : a < s.size) (w : World) : Calls Try.prog 33 #[.int .u8 ((s[a]'h).toNat : Int)] w fun e w' => e = .returned (.bool (spacedB ((codes s).getD a 0))) ∧ Drawn0 w w' := by
  rw [byte_code]
  exact reticuleref06_Spaced.calls _ _ w (refSpaced_f _)
theorem ends_call (s : ByteArray) (a : Nat) (h : a < s.size) (w : World) : Calls Try.prog 53 #[.int .u8 ((s[a]'h).toNat : Int)] w fun e w' => e = .returned (.bool (endsB ((codes s).getD a 0))) ∧ Drawn0 w w' := by
  rw [byte_code]
  exact reticuleref06_ends.calls _ _ w (ends_f _)
theorem remLen_at {L : List Int} {a m : Nat} (h1 : a ≤ m) (h2 : m ≤ L.length) (h : ∀ j, a ≤ j → j < m → L.getD j 0 ≠ 10) (hs : m < L.length → L.getD m 0 = 10) : a + remLen (L.drop a) = m := by
  have := tw_len (p := fun c => decide (c ≠ 10)) (L.drop a) (m - a) (fun k hk => by rw [drop_getD]; simpa using h (a + k) (by omega) (by omega)) (by rw [List.length_drop]; omega) (fun hlt => by
    rw [List.length_drop] at hlt
    rw [drop_getD, show a + (m - a) = m by omega, hs (by omega)]; rfl)
  unfold remLen
  omega
theorem toks_word {s : ByteArray} {R : List S37 × Int × Int} {a b : Nat} {out : List S37} (h4 : toks b (codes s) a out = R) (h5 : s.size - a < b) (ha : a < s.size) (hc : spacedB ((codes s).getD a 0) = false) (h59 : (codes s).getD a 0 ≠ 59) (n : Nat) (hn : n = wordLen ((codes s).drop a)) :
    ((tokenOf (codes (s.extract a (a + n))) a).f0 = 0 → R = ([], (a : Int), 8)) ∧
    ((tokenOf (codes (s.extract a (a + n))) a).f0 ≠ 0 → 600 ≤ out.length → R = ([], (a : Int), 4)) ∧
    ((tokenOf (codes (s.extract a (a + n))) a).f0 ≠ 0 → ¬ 600 ≤ out.length → ∃ b', toks b' (codes s) (a + n) (out ++ [tokenOf (codes (s.extract a (a + n))) a]) = R ∧ s.size - (a + n) < b') := by
  have hpc : codes (s.extract a (a + n)) = ((codes s).drop a).take n := by rw [codes_extract, List.drop_take, Nat.add_sub_cancel_left]
  obtain ⟨b, rfl⟩ : ∃ b', b = b' + 1 := ⟨b - 1, by omega⟩
  rw [toks, if_pos (by rw [codes_length]; exact ha), if_neg (by rw [hc]; decide), if_neg h59, ← hn, ← hpc] at h4
  have h2 := wordLen_pos (L := codes s) (a := a) (by rw [codes_length]; exact ha) hc h59
  refine ⟨fun h0 => ?_, fun h0 h6 => ?_, fun h0 h6 => ?_⟩
  · rw [if_pos h0] at h4; exact h4.symm
  · rw [if_neg h0, if_pos h6] at h4; exact h4.symm
  · rw [if_neg h0, if_neg h6] at h4; exact ⟨b, h4, by omega⟩
theorem wordLen_at {L : List Int} {a m : Nat} (ha : a < L.length) (h40 : L.getD a 0 ≠ 40) (h41 : L.getD a 0 ≠ 41) (h0 : endsB (L.getD a 0) = false) (h1 : 1 ≤ m) (h2 : a + m ≤ L.length) (h : ∀ j, a < j → j < a + m → endsB (L.getD j 0) = false) (hs : a + m < L.length → endsB (L.getD (a + m) 0) = true) : m = wordLen (L.drop a) := by
  unfold wordLen
  rw [if_neg (by rw [drop_head ha]; rintro (h | h); exact h40 (Option.some.inj h); exact h41 (Option.some.inj h))]
  symm
  refine tw_len (p := fun c => !endsB c) (L.drop a) m (fun k hk => ?_) (by rw [List.length_drop]; omega) (fun hlt => ?_)
  · rw [drop_getD]
    rcases Nat.eq_zero_or_pos k with rfl | hk0
    · rw [Nat.add_zero, h0]; rfl
    · rw [h (a + k) (by omega) (by omega)]; rfl
  · rw [List.length_drop] at hlt
    rw [drop_getD, hs (by omega)]; rfl
theorem piece_one {s : ByteArray} {a : Nat} (ha : a < s.size) : codes (s.extract a (a + 1)) = [(codes s).getD a 0] := by
  rw [codes_extract, List.drop_take, Nat.add_sub_cancel_left, List.drop_eq_getElem_cons (by rw [codes_length]; exact ha), List.take_succ_cons, List.take_zero, List.getD_eq_getElem?_getD, List.getElem?_eq_getElem (by rw [codes_length]; exact ha)]
  rfl
/-- A word is none of the brackets. -/
theorem word_kind {s : ByteArray} {a n : Nat} (ha : a < s.size) (h40 : (codes s).getD a 0 ≠ 40) (h41 : (codes s).getD a 0 ≠ 41) (hn : 1 ≤ n) :
    tokenOf (codes (s.extract a (a + n))) a = ⟨kindOf (codes (s.extract a (a + n))), s.extract a (a + n), if kindOf (codes (s.extract a (a + n))) = 4 then (parseOf (codes (s.extract a (a + n)))).1 else 0, a⟩ := by
  have hpc : codes (s.extract a (a + n)) = (codes s).getD a 0 :: (((codes s).drop (a + 1)).take (n - 1)) := by
    obtain ⟨n, rfl⟩ : ∃ m, n = m + 1 := ⟨n - 1, by omega⟩
    rw [codes_extract, List.drop_take, Nat.add_sub_cancel_left, List.drop_eq_getElem_cons (by rw [codes_length]; exact ha), List.take_succ_cons, List.getD_eq_getElem?_getD, List.getElem?_eq_getElem (by rw [codes_length]; exact ha)]
    rfl
  unfold tokenOf
  rw [if_neg (fun e => h40 (by rw [hpc] at e; exact (List.cons.inj e).1)), if_neg (fun e => h41 (by rw [hpc] at e; exact (List.cons.inj e).1)), str_codes]
theorem refKind_call (t : ByteArray) (ht : t.size ≤ 3000) (w : World) : Calls Try.prog 21 #[.string t] w fun e w' => e = .returned (.int .u8 (kindOf (codes t))) ∧ Below w.heap.size w w' := by
  obtain ⟨k, hk⟩ := (refWordKind_ev t (by omega)).rounds
  exact reticuleref06_WordKind.calls k t _ w hk
theorem refParse_call (t : ByteArray) (ht : t.size ≤ 3000) (w : World) : Calls Try.prog 45 #[.string t] w fun e w' => e = .returned (.tuple #[.int .i64 (parseOf (codes t)).1, .int .i64 (parseOf (codes t)).2]) ∧ Drawn0 w w' := by
  obtain ⟨k, hk⟩ := (refParse_ev t (by omega)).rounds
  exact reticuleref01_Parse.calls k t _ _ w hk
set_option maxHeartbeats 20000000 in
set_option maxRecDepth 100000 in
theorem refTokens_go (s : ByteArray) (w : World) (hs : s.size ≤ 3000) (R1 : List S37) (R2 R3 : Int) (hR : tokensOf (codes s) = (R1, R2, R3)) :
    Calls Try.prog 26 #[.string s] w fun e w' => ∃ v0_ : Value, e = .returned (.tuple #[v0_, .int .i64 R2, .int .i64 R3]) ∧ Kd.R k37 37 w' w.heap.size (fun _ => True) v0_ R1 ∧ Below w.heap.size w w' := by
  have hl := codes_length s
  have hR' : Hid (toks ((codes s).length + 1) (codes s) 0 [] = (R1, R2, R3)) := by
    unfold tokensOf at hR
    rw [if_neg (by omega)] at hR
    exact hR
  have HLEN := Lib.hid hl
  clear hR hl
  have e0 : decide ((3000 : Int) < (s.size : Int)) = false := by simp; omega
  go_enter Try.func26, Try.ntmps26
  go_wp2_with (fail)
  go_loopw [5, 6] (fun ov iv wr => ∃ (a b : Nat) (out : List S37), iv = .int .i64 a ∧ a ≤ s.size ∧ out.length ≤ 600 ∧ Hid (RefRel w wr s (R1, R2, R3) a b out ov)) (fun _ iv _ => s.size - (intOf iv).toNat)
  case atStart => exact ⟨0, (codes s).length + 1, [], rfl, Nat.zero_le _, Nat.zero_le _, own_nil _ _ _ _, Below.refl _ w, hR'.out, by rw [HLEN.out]; omega⟩
  case round =>
    obtain ⟨a, b, out, rfl, ha, ho6, hT⟩ := hrel
    obtain ⟨A, cap, rfl, hcap, _⟩ := Kd.R_reads (R_toks hT.out.1)
    by_cases hlt : a < s.size
    · have HSP := Lib.hid (spaced_call s a hlt)
      obtain ⟨c, hc⟩ : ∃ c, c = (codes s).getD a 0 := ⟨_, rfl⟩
      have hcc := byte_code s a hlt
      rw [← hc] at HSP hcc
      have HC := Lib.hid hc
      by_cases hsp : spacedB c = true
      · have hst := Lib.hid (toks_space hT.out.2.2.1 hT.out.2.2.2 hlt (by rw [← hc]; exact hsp))
        rw [hsp] at HSP
        clear hcc hc hsp
        go_wp2_with (fail)
        refine (HSP.out _).mono ?_
        rintro e w' ⟨rfl, q, rfl⟩
        go_wp2
        obtain ⟨b', hb1, hb2⟩ := hst.out
        have hT' := hT.out.drewN q (a + 1) b' hb1 hb2
        go_roundw
        case measure => simp [intOf]; omega
        case rel => exact ⟨a + 1, b', out, by go_num, by omega, ho6, hT'⟩
      · have hsp' : spacedB c = false := by simpa using hsp
        rw [hsp'] at HSP
        by_cases h59 : c = 59
        · obtain ⟨hn1, hn2, hn3⟩ := toks_remark hT.out.2.2.1 hT.out.2.2.2 hlt (by rw [← hc]; exact hsp') (by rw [← hc]; exact h59)
          have HST := Lib.hid hn3
          have e59 : (((s[a]'hlt).toNat : Int) == 59) = true := by rw [hcc, h59]; rfl
          clear hcc hc hsp hsp' h59 hn3
          go_wp2_with (fail)
          refine (HSP.out _).mono ?_
          rintro e w' ⟨rfl, q, rfl⟩
          go_wp2_with (fail)
          go_loop [6] (fun iv => ∃ m : Nat, iv = .int .i64 m ∧ a ≤ m ∧ m ≤ s.size ∧ Hid (∀ j, a ≤ j → j < m → (codes s).getD j 0 ≠ 10)) (fun iv => s.size - (intOf iv).toNat)
          case atStart => exact ⟨a, rfl, Nat.le_refl _, by omega, fun j h1 h2 => by omega⟩
          case round =>
            obtain ⟨m, rfl, hm1, hm2, hall⟩ := hrel
            by_cases hml : m < s.size
            · have hbm := byte_code s m hml
              by_cases h10 : (codes s).getD m 0 = 10
              · have HRL := Lib.hid (remLen_at hm1 (by rw [HLEN.out]; exact hm2) hall.out (fun _ => h10))
                have e10 : (((s[m]'hml).toNat : Int) != 10) = false := by rw [hbm, h10]; rfl
                clear hbm h10
                go_wp2
                obtain ⟨b', hb1, hb2⟩ := HST.out
                rw [HRL.out] at hb1 hb2
                have hT' := hT.out.drewN q m b' hb1 hb2
                have hlt2 : a < m := by have := HRL.out; omega
                go_roundw
                case measure => simp [intOf]; omega
                case rel => exact ⟨m, b', out, rfl, hm2, ho6, hT'⟩
              · have e10 : (((s[m]'hml).toNat : Int) != 10) = true := by rw [hbm]; simpa using h10
                have H10 := Lib.hid h10
                clear hbm h10
                go_wp2
                go_round
                case measure => simp [intOf]; omega
                case rel =>
                  refine ⟨m + 1, by go_num, by omega, by omega, fun j h1 h2 => ?_⟩
                  by_cases hj : j < m
                  · exact hall.out j h1 hj
                  · obtain rfl : j = m := by omega
                    exact H10.out
            · have HRL := Lib.hid (remLen_at hm1 (by rw [HLEN.out]; exact hm2) hall.out (fun h => by rw [HLEN.out] at h; omega))
              go_wp2
              obtain ⟨b', hb1, hb2⟩ := HST.out
              rw [HRL.out] at hb1 hb2
              have hT' := hT.out.drewN q m b' hb1 hb2
              have hlt2 : a < m := by have := HRL.out; omega
              go_roundw
              case measure => simp [intOf]; omega
              case rel => exact ⟨m, b', out, rfl, hm2, ho6, hT'⟩
        · have e59 : (((s[a]'hlt).toNat : Int) == 59) = false := by rw [hcc]; simpa using h59
          have HW := Lib.hid (fun n hn => toks_word hT.out.2.2.1 hT.out.2.2.2 hlt (by rw [← hc]; exact hsp') (by rw [← hc]; exact h59) n hn)
          have hwl := wordLen_le ((codes s).drop a)
          rw [List.length_drop, HLEN.out] at hwl
          have HWL := Lib.hid hwl
          have HEN : Hid (c ≠ 40 → c ≠ 41 → endsB c = false) := fun h40 h41 => by
            unfold endsB; rw [hsp', decide_eq_false h40, decide_eq_false h41, decide_eq_false h59]; rfl
          have HCC := Lib.hid hcc
          clear hwl hcc hc hsp hsp' h59
          go_wp2_with (fail)
          refine (HSP.out _).mono ?_
          rintro e wd ⟨rfl, q, hwd⟩
          have hTd : Hid (RefRel w wd s (R1, R2, R3) a b out (.slice A out.length cap)) := by rw [hwd]; exact hT.out.drewN q a b hT.out.2.2.1 hT.out.2.2.2
          clear hwd
          go_upto_block 5 with (fail)
          obtain ⟨wa, hwa⟩ : ∃ wa, wa = wd.alloc (.cells #[.int .u8 0, .string ⟨#[]⟩, .int .i64 0, .int .i64 (a : Int)] 37) := ⟨_, rfl⟩
          rw [← hwa]
          have HA : Hid (wa.heap[wd.heap.size]? = some (.cells #[.int .u8 0, .string ⟨#[]⟩, .int .i64 0, .int .i64 (a : Int)] 37 (0, 0))) := by rw [hwa]; exact heap_alloc_new wd _
          have HBA : Hid (Below wd.heap.size wd wa) := by rw [hwa]; exact (Below.refl _ wd).alloc (Nat.le_refl _) _
          clear hwa
          go_cut [7] (fun v7 wc => ∃ (n : Nat) (k num : Int), v7 = .int .i64 n ∧ 1 ≤ n ∧ a + n ≤ s.size ∧ Hid (wc.heap[wd.heap.size]? = some (.cells #[.int .u8 k, .string ⟨#[]⟩, .int .i64 num, .int .i64 (a : Int)] 37 (0, 0))) ∧ Hid (Below wd.heap.size wd wc) ∧ Hid (k ≠ 0 ∧ n = wordLen ((codes s).drop a) ∧ tokenOf (codes (s.extract a (a + n))) a = ⟨k, s.extract a (a + n), num, a⟩))
          case first =>
            obtain ⟨a0, a1, a2, a3, af0, af1, af2, af3⟩ := tok_cells HA.out
            by_cases h40 : c = 40
            · have e40 : (((s[a]'hlt).toNat : Int) == 40) = true := by rw [HCC.out, h40]; rfl
              have HK := Lib.hid h40
              clear h40
              go_wp2
              go_meet
              case rel =>
                refine ⟨1, 1, 0, rfl, Nat.le_refl _, by omega, blk_set HA.out 0 _, (show Below _ _ _ from HBA.out).setCell (p := ⟨wd.heap.size, 0, none⟩) (Nat.le_refl _) _, by decide, ?_, ?_⟩
                · unfold wordLen; rw [drop_head (by rw [HLEN.out]; exact hlt), ← HC.out, HK.out, if_pos (.inl rfl)]
                · rw [piece_one hlt, ← HC.out, HK.out]; unfold tokenOf; rw [if_pos rfl, ← HK.out, HC.out, ← piece_one hlt, str_codes]
            · by_cases h41 : c = 41
              · have e40 : (((s[a]'hlt).toNat : Int) == 40) = false := by rw [HCC.out]; simpa using h40
                have e41 : (((s[a]'hlt).toNat : Int) == 41) = true := by rw [HCC.out, h41]; rfl
                have HK := Lib.hid h41
                clear h40 h41
                go_wp2
                go_meet
                case rel =>
                  refine ⟨1, 2, 0, rfl, Nat.le_refl _, by omega, blk_set HA.out 0 _, (show Below _ _ _ from HBA.out).setCell (p := ⟨wd.heap.size, 0, none⟩) (Nat.le_refl _) _, by decide, ?_, ?_⟩
                  · unfold wordLen; rw [drop_head (by rw [HLEN.out]; exact hlt), ← HC.out, HK.out, if_pos (.inr rfl)]
                  · rw [piece_one hlt, ← HC.out, HK.out]; unfold tokenOf; rw [if_neg (by decide), if_pos rfl, ← HK.out, HC.out, ← piece_one hlt, str_codes]
              · have e40 : (((s[a]'hlt).toNat : Int) == 40) = false := by rw [HCC.out]; simpa using h40
                have e41 : (((s[a]'hlt).toNat : Int) == 41) = false := by rw [HCC.out]; simpa using h41
                have H40 := Lib.hid h40
                have H41 := Lib.hid h41
                have HEC := Lib.hid (HEN.out h40 h41)
                clear h40 h41
                go_upto_block 6 with (fail)
                go_cut [7] (fun v7 wc => ∃ n : Nat, v7 = .int .i64 n ∧ 1 ≤ n ∧ a + n ≤ s.size ∧ Hid (n = wordLen ((codes s).drop a)) ∧ Hid (∃ q, wc = wa.drewN q))
                case first =>
                  go_wp2_with (fail)
                  go_loopw [7] (fun v7 wr' => ∃ m : Nat, v7 = .int .i64 m ∧ 1 ≤ m ∧ a + m ≤ s.size ∧ Hid (∀ j, a < j → j < a + m → endsB ((codes s).getD j 0) = false) ∧ Hid (∃ q, wr' = wa.drewN q)) (fun v7 _ => s.size - (intOf v7).toNat)
                  case atStart => exact ⟨1, rfl, Nat.le_refl _, by omega, fun j h1 h2 => by omega, 0, (World.drewN_zero _).symm⟩
                  case round =>
                    obtain ⟨m, rfl, hm1, hm2, hall, hq⟩ := hrel
                    have ew : IntKind.i64.wrap ((a : Int) + (m : Int)) = (a : Int) + (m : Int) := IntWalk.i64_in _ ⟨by omega, by omega⟩
                    by_cases hml : a + m < s.size
                    · have hmi : (a : Int) + (m : Int) < (s.size : Int) := by omega
                      have HEC2 := Lib.hid (ends_call s (a + m) hml)
                      by_cases hen : endsB ((codes s).getD (a + m) 0) = true
                      · have HWE := Lib.hid (wordLen_at (by rw [HLEN.out]; exact hlt) (by rw [← HC.out]; exact H40.out) (by rw [← HC.out]; exact H41.out) (by rw [← HC.out]; exact HEC.out) hm1 (by rw [HLEN.out]; exact hm2) hall.out (fun _ => hen))
                        rw [hen] at HEC2
                        clear hen
                        go_wp2_with (fail)
                        refine (HEC2.out _).mono ?_
                        rintro e w' ⟨rfl, q2, rfl⟩
                        go_wp2
                        go_meet
                        case rel =>
                          obtain ⟨q0, hq0⟩ := hq.out
                          exact ⟨m, rfl, hm1, hm2, HWE.out, by rw [hq0]; exact ⟨_, World.drewN_drewN _ _ _⟩⟩
                      · have hen' : endsB ((codes s).getD (a + m) 0) = false := by simpa using hen
                        rw [hen'] at HEC2
                        have HEQ := Lib.hid hen'
                        clear hen hen'
                        go_wp2_with (fail)
                        refine (HEC2.out _).mono ?_
                        rintro e w' ⟨rfl, q2, rfl⟩
                        go_wp2
                        go_roundw
                        case measure => simp [intOf]; omega
                        case rel =>
                          obtain ⟨q0, hq0⟩ := hq.out
                          refine ⟨m + 1, by go_num, by omega, by omega, fun j h1 h2 => ?_, by rw [hq0]; exact ⟨_, World.drewN_drewN _ _ _⟩⟩
                          by_cases hj : j < a + m
                          · exact hall.out j h1 hj
                          · obtain rfl : j = a + m := by omega
                            exact HEQ.out
                    · have HWE := Lib.hid (wordLen_at (by rw [HLEN.out]; exact hlt) (by rw [← HC.out]; exact H40.out) (by rw [← HC.out]; exact H41.out) (by rw [← HC.out]; exact HEC.out) hm1 (by rw [HLEN.out]; exact hm2) hall.out (fun h => by rw [HLEN.out] at h; omega))
                      have hmi : ¬ (a : Int) + (m : Int) < (s.size : Int) := by omega
                      have hmd : decide ((a : Int) + (m : Int) < (s.size : Int)) = false := by simpa using hmi
                      go_wp2
                      go_meet
                      case rel => exact ⟨m, rfl, hm1, hm2, HWE.out, hq.out⟩
                case rest =>
                  obtain ⟨n, rfl, hn1, hn2, HNW, hq⟩ := hcut
                  have hhc : wc.heap[wd.heap.size]? = some (.cells #[.int .u8 0, .string ⟨#[]⟩, .int .i64 0, .int .i64 (a : Int)] 37 (0, 0)) := by obtain ⟨q0, rfl⟩ := hq.out; exact HA.out
                  have HBC : Hid (Below wd.heap.size wd wc) := by obtain ⟨q0, rfl⟩ := hq.out; exact pw_below_drewN HBA.out _
                  have HHC := Lib.hid hhc
                  have hsz : (s.extract a (a + n)).size ≤ 3000 := by rw [← codes_length, codes_extract, List.length_drop, List.length_take]; have := HLEN.out; omega
                  have HWK := Lib.hid (refKind_call (s.extract a (a + n)) hsz)
                  have HPZ := Lib.hid (refParse_call (s.extract a (a + n)) hsz)
                  have HTW := Lib.hid (word_kind hlt (by rw [← HC.out]; exact H40.out) (by rw [← HC.out]; exact H41.out) hn1)
                  have hsl : ∀ W, (Instr.slice 9 (.string s) (some (.int .i64 (a : Int))) (some (.int .i64 ((a : Int) + (n : Int)))) none).run Try.prog W = .ok (.string (s.extract a (a + n))) W := fun W => cut_str s a n hn2 W
                  have ew : IntKind.i64.wrap ((a : Int) + (n : Int)) = (a : Int) + (n : Int) := IntWalk.i64_in _ ⟨by omega, by omega⟩
                  obtain ⟨K, hK⟩ : ∃ K, K = kindOf (codes (s.extract a (a + n))) := ⟨_, rfl⟩
                  obtain ⟨⟨N, E⟩, hN⟩ : ∃ P, P = parseOf (codes (s.extract a (a + n))) := ⟨_, rfl⟩
                  rw [← hK] at HWK HTW
                  rw [← hN] at HPZ HTW
                  clear hhc hq hK hN hsz a0 a1 a2 a3 af0 af1 af2 af3
                  go_wp2_with (fail)
                  refine (HWK.out _).mono ?_
                  rintro e w1 ⟨rfl, hb1⟩
                  have HH1 := Lib.hid (blk_below HHC.out hb1)
                  have HB1 := Lib.hid (below_then HBC.out HBC.out.size hb1)
                  obtain ⟨a0, a1, a2, a3, af0, af1, af2, af3⟩ := tok_cells HH1.out
                  clear hb1
                  by_cases hK0 : K = 0
                  · have HR := Lib.hid ((HW.out n HNW.out).1 (by rw [HTW.out]; exact hK0))
                    have eK : (K == 0) = true := by simpa using hK0
                    have hbw := Lib.hid (below_then hTd.out.2.1 hTd.out.2.1.size HB1.out)
                    clear hK0
                    go_wp2
                    go_ret3
                    have h := HR.out
                    simp only [Prod.mk.injEq] at h
                    obtain ⟨rfl, rfl, rfl⟩ := h
                    exact ⟨_, rfl, Kd.R_nil _ _ _ _ _, (show Below _ _ _ from hbw.out).setCell (p := ⟨wd.heap.size, 0, none⟩) hTd.out.2.1.size _⟩
                  · have eK : (K == 0) = false := by simpa using hK0
                    by_cases hK4 : K = 4
                    · have eK4 : (K == 4) = true := by simpa using hK4
                      have HK4 := Lib.hid hK4
                      have HK0 := Lib.hid hK0
                      clear hK0 hK4
                      go_wp2_with (fail)
                      refine (HPZ.out _).mono ?_
                      rintro e w2 ⟨rfl, q2, rfl⟩
                      go_wp2
                      go_meet
                      case rel =>
                        refine ⟨n, K, N, rfl, hn1, hn2, blk_set (blk_set HH1.out 0 (.int .u8 K)) 2 _, ?_, HK0.out, HNW.out, ?_⟩
                        · exact (pw_below_drewN ((show Below _ _ _ from HB1.out).setCell (p := ⟨wd.heap.size, 0, none⟩) (Nat.le_refl _) _) q2).setCell (p := ⟨wd.heap.size, 2, none⟩) (Nat.le_refl _) _
                        · rw [HTW.out, if_pos HK4.out]
                    · have eK4 : (K == 4) = false := by simpa using hK4
                      have HK4 := Lib.hid hK4
                      have HK0 := Lib.hid hK0
                      clear hK0 hK4
                      go_wp2
                      go_meet
                      case rel =>
                        refine ⟨n, K, 0, rfl, hn1, hn2, blk_set HH1.out 0 _, (show Below _ _ _ from HB1.out).setCell (p := ⟨wd.heap.size, 0, none⟩) (Nat.le_refl _) _, HK0.out, HNW.out, ?_⟩
                        rw [HTW.out, if_neg HK4.out]
          case rest =>
            obtain ⟨n, k, num, rfl, hn1, hn2, HH, HB, HK⟩ := hcut
            obtain ⟨hk0, hnw, htk⟩ := HK.out
            have hgo := (HW.out n hnw).2
            rw [htk] at hgo
            have HG := Lib.hid (And.intro (hgo.1 hk0) (hgo.2 hk0))
            have hbw := Lib.hid (below_then hTd.out.2.1 hTd.out.2.1.size HB.out)
            have hO := own_move hTd.out.1 (fun k hk => HB.out.block k (own_lt hTd.out.1 k hk))
            have HO := Lib.hid hO
            have hsl : ∀ W, (Instr.slice 9 (.string s) (some (.int .i64 (a : Int))) (some (.int .i64 ((a : Int) + (n : Int)))) none).run Try.prog W = .ok (.string (s.extract a (a + n))) W := fun W => cut_str s a n hn2 W
            have ew : IntKind.i64.wrap ((a : Int) + (n : Int)) = (a : Int) + (n : Int) := IntWalk.i64_in _ ⟨by omega, by omega⟩
            obtain ⟨a0, a1, a2, a3, af0, af1, af2, af3⟩ := tok_cells HH.out
            clear hgo hO hk0 hnw htk
            by_cases h600 : 600 ≤ out.length
            · have hR := Lib.hid (HG.out.1 h600)
              have e6 : decide ((600 : Int) ≤ (out.length : Int)) = true := by simp; omega
              clear h600
              go_wp2
              go_ret3
              have h := hR.out
              simp only [Prod.mk.injEq] at h
              obtain ⟨rfl, rfl, rfl⟩ := h
              exact ⟨_, rfl, Kd.R_nil _ _ _ _ _, hbw.out⟩
            · have hR := Lib.hid (HG.out.2 h600)
              have e6 : decide ((600 : Int) ≤ (out.length : Int)) = false := by simp; omega
              have hlong : (out.length + 1) * 40 ≤ 140737488355328 := by omega
              have hgB : Hid (w.heap.size ≤ wd.heap.size) := hTd.out.2.1.size
              -- behind the text's store
              go_upto_region 28 with (fail)
              obtain ⟨we, hwe⟩ : ∃ we, we = wc.setCell ⟨wd.heap.size, 1, none⟩ (.string (s.extract a (a + n))) := ⟨_, rfl⟩
              rw [← hwe]
              have HO2 : Hid (we.ownsRow w.heap.size 37 4 (.slice A out.length cap) out.length (tokCells out)) := by
                rw [hwe]
                exact own_move HO.out (fun k hk => Below.heap_setCell _ _ _ k (fun e => by have := own_lt hTd.out.1 k hk; have e' : k = wd.heap.size := e; omega))
              have hbw2 : Hid (Below w.heap.size w we) := by rw [hwe]; exact (show Below _ _ _ from hbw.out).setCell (p := ⟨wd.heap.size, 1, none⟩) hgB.out _
              have HH2 : Hid (we.heap[wd.heap.size]? = some (.cells #[.int .u8 k, .string (s.extract a (a + n)), .int .i64 num, .int .i64 (a : Int)] 37 (0, 0))) := by rw [hwe]; exact blk_set HH.out 1 _
              clear hwe a0 a1 a2 a3 af0 af1 af2 af3
              obtain ⟨a0, a1, a2, a3, af0, af1, af2, af3⟩ := tok_cells HH2.out
              go_wp2_with (at_builtin; refine print_append_cells (w0 := w) w.heap.size rfl (.tmp 105) (.tmp 107) 22 37 (.agg #[.int .u8 0, .string ⟨#[]⟩, .int .i64 0, .int .i64 0]) 4 40 rfl Try.underlying22 info37 rfl (by decide) (by decide) (.slice A out.length cap) out.length (tokCells out) [.int .u8 k, .string (s.extract a (a + n)), .int .i64 num, .int .i64 (a : Int)] rfl rfl rfl (tok_one k num a _) HO2.out hbw2.out hbw2.out.size hlong ?_)
              intro v3 w3 hown3 hb3 hg3 hat3
              go_wp2
              obtain ⟨b', hb1, hb2⟩ := hR.out
              have hT' : RefRel w w3 s (R1, R2, R3) (a + n) b' (out ++ [⟨k, s.extract a (a + n), num, a⟩]) v3 := ⟨by rw [tokCells_snoc, List.length_append, List.length_singleton]; exact hown3, hb3, hb1, hb2⟩
              go_roundw
              case measure => simp [intOf]; omega
              case rel => exact ⟨a + n, b', out ++ [⟨k, s.extract a (a + n), num, a⟩], by go_num, hn2, by rw [List.length_append, List.length_singleton]; omega, Lib.hid hT'⟩
    · obtain rfl : a = s.size := by omega
      have hend : Hid (R1 = out ∧ R2 = 0 ∧ R3 = 0) := by
        have h := hT.out.2.2.1
        have hb := hT.out.2.2.2
        obtain ⟨b, rfl⟩ : ∃ b', b = b' + 1 := ⟨b - 1, by omega⟩
        rw [toks, if_neg (by rw [HLEN.out]; omega)] at h
        simp only [Prod.mk.injEq] at h
        exact ⟨h.1.symm, h.2.1.symm, h.2.2.symm⟩
      go_wp2
      go_ret3
      obtain ⟨rfl, rfl, rfl⟩ := hend.out
      exact ⟨_, rfl, R_toks hT.out.1, hT.out.2.1⟩
set_option maxHeartbeats 1000000 in
set_option maxRecDepth 100000 in
theorem refTokens_long (s : ByteArray) (w : World) (hs : 3000 < s.size) :
    Calls Try.prog 26 #[.string s] w fun e w' => ∃ v0_ : Value, e = .returned (.tuple #[v0_, .int .i64 0, .int .i64 4]) ∧ Kd.R k37 37 w' w.heap.size (fun _ => True) v0_ [] ∧ Below w.heap.size w w' := by
  have e0 : decide ((3000 : Int) < (s.size : Int)) = true := by simp; omega
  go_enter Try.func26, Try.ntmps26
  go_wp2
  go_ret3
  exact ⟨_, rfl, Kd.R_nil _ _ _ _ _, Below.refl _ _⟩
def reticuleref06_Tokens.f (s : ByteArray) : Option (List S37 × Int × Int) := some (tokensOf (codes s))
theorem reticuleref06_Tokens.calls (s : ByteArray) (r1 : List S37) (r2 : Int) (r3 : Int) (w : World) (h : reticuleref06_Tokens.f s = some (r1, r2, r3)) :
    Calls Try.prog 26 #[.string s] w fun e w' => ∃ v0_ : Value, e = .returned (.tuple #[v0_, .int .i64 r2, .int .i64 r3]) ∧ Kd.R k37 37 w' w.heap.size (fun _ => True) v0_ r1 ∧ Below w.heap.size w w' := by
  have h := Option.some.inj h
  by_cases hs : 3000 < s.size
  · unfold tokensOf at h
    rw [if_pos (by rw [codes_length]; exact hs)] at h
    simp only [Prod.mk.injEq] at h
    obtain ⟨rfl, rfl, rfl⟩ := h
    exact refTokens_long s w hs
  · exact refTokens_go s w (by omega) r1 r2 r3 h
end Go.Proofs.Ytiojfdgagdofiaa.HK
