/-
Contracts over the translation: how long a remark is, how long a piece is, the token of a piece.
-/
import Derived.Test.YtiojfdgagdofiaaLexE
import Derived.Test.YtiojfdgagdofiaaHk1
import Derived.Test.YtiojfdgagdofiaaHBx2
import Derived.Test.YtiojfdgagdofiaaHBx5
set_option linter.unusedVariables false
set_option linter.unusedSimpArgs false
namespace Go.Proofs.Ytiojfdgagdofiaa.HK
open Go.RowKit Go.Proofs.YtiojfdgagdofiaaW.PrintWords Go.Proofs.YtiojfdgagdofiaaW.PrintLast Go.Proofs.YtiojfdgagdofiaaW.PrintMore Go.Proofs.Ytiojfdgagdofiaa.HB

theorem ret_int {k : IntKind} {a b : Int} (h : a = b) : Ending.returned (.int k a) = Ending.returned (.int k b) := by rw [h]
/-- The text's goer lies there. -/
def IsLexer (w : World) (g : Nat) (s : ByteArray) (a : Nat) (v : Value) : Prop := w.heap[g]? = some (.cells #[.string s, .int .i64 a, v] 84 (0, 0))
theorem IsLexer.c0 {w : World} {g : Nat} {s : ByteArray} {a : Nat} {v : Value} (h : IsLexer w g s a v) : w.cell? ⟨g, 0, none⟩ = some (.string s) := by rw [blk_cell h]; rfl
theorem IsLexer.c1 {w : World} {g : Nat} {s : ByteArray} {a : Nat} {v : Value} (h : IsLexer w g s a v) : w.cell? ⟨g, 1, none⟩ = some (.int .i64 a) := by rw [blk_cell h]; rfl
theorem IsLexer.c2 {w : World} {g : Nat} {s : ByteArray} {a : Nat} {v : Value} (h : IsLexer w g s a v) : w.cell? ⟨g, 2, none⟩ = some v := by rw [blk_cell h]; rfl
theorem rest_size (s : ByteArray) (a : Nat) (h : a ≤ s.size) : (s.extract a s.size).size = s.size - a := by simp [ByteArray.size_extract]
theorem rest_codes (s : ByteArray) (a : Nat) : codes (s.extract a s.size) = (codes s).drop a := by rw [codes_extract, List.take_of_length_le (by rw [codes_length]; exact Nat.le_refl _)]
set_option maxHeartbeats 1000000 in
theorem remark_calls (g : Nat) (s : ByteArray) (a : Nat) (v : Value) (w : World) (hg : IsLexer w g s a v) (ha : a ≤ s.size) (hs : s.size ≤ 3000) :
    Calls Try.prog 50 #[.pointer (some ⟨g, 0, none⟩)] w fun e w' => e = .returned (.int .i64 ((remLen ((codes s).drop a) : Nat) : Int)) ∧ ∃ n, w' = w.drewN n := by
  have h0 := hg.c0
  have h1 := hg.c1
  have hix := index_ten (s.extract a s.size)
  rw [rest_codes, rest_size s a ha] at hix
  have hcall : ∀ w, Calls Try.prog 73 #[.string (s.extract a s.size), .int .u8 10] w fun e w' => e = .returned (.int .i64 (Lib.indexByte (s.extract a s.size).data.toList 10)) ∧ w' = w := fun w => Try.strings_IndexByte (s.extract a s.size) 10 w
  obtain ⟨t, ht⟩ : ∃ t, t = Lib.indexByte (s.extract a s.size).data.toList 10 := ⟨_, rfl⟩
  rw [← ht] at hix hcall
  have HC := Lib.hid hcall
  clear hcall ht hg
  obtain ⟨hx1, hx2⟩ := hix
  have hai : (a : Int) ≤ (s.size : Int) := by omega
  by_cases htn : t < 0
  · have hR := Lib.hid (hx1 htn)
    clear hx1 hx2
    go_enter Try.func50, Try.ntmps50
    go_wp2_with (fail)
    go_quiet ((go_at_call 73; with_reducible exact Calls.quiet_of_same (HC.out _)))
    go_wp2
    go_quiet (fail)
    go_wp2
    go_ret
    exact ⟨ret_int (by rw [hR.out]; omega), _, World.drewN_drewN _ _ _⟩
  · have hR := Lib.hid (hx2 (by omega))
    clear hx1 hx2
    go_enter Try.func50, Try.ntmps50
    go_wp2_with (fail)
    go_quiet ((go_at_call 73; with_reducible exact Calls.quiet_of_same (HC.out _)))
    go_wp2
    go_ret
    exact ⟨ret_int hR.out.symm, _, rfl⟩
theorem byte_code (t : ByteArray) (k : Nat) (h : k < t.size) : ((t[k]'h).toNat : Int) = (codes t).getD k 0 := by
  have := bt_codes t (k : Int)
  rw [Int.toNat_natCast] at this
  rw [← this]
  unfold bt
  rw [dif_pos (by simpa using h)]
  rfl
theorem paren_index {c : Int} (h0 : 0 ≤ c) (h1 : c ≤ 255) : (c = 40 ∨ c = 41 ∨ c = 59 → 0 ≤ Lib.indexByte (ByteArray.mk #[40, 41, 59]).data.toList c.toNat.toUInt8) ∧ (¬ (c = 40 ∨ c = 41 ∨ c = 59) → Lib.indexByte (ByteArray.mk #[40, 41, 59]).data.toList c.toNat.toUInt8 < 0) := by
  refine ⟨fun h => ?_, fun h => ?_⟩
  · rcases h with rfl | rfl | rfl <;> decide +kernel
  · have hne : ∀ d : UInt8, (d = 40 ∨ d = 41 ∨ d = 59) → (d == c.toNat.toUInt8) = false := by
      intro d hd
      have e : (c.toNat.toUInt8).toNat = c.toNat := by simp; omega
      rw [beq_eq_false_iff_ne]
      intro hc
      rw [← hc] at e
      rcases hd with rfl | rfl | rfl
      · have : (40 : UInt8).toNat = 40 := rfl
        omega
      · have : (41 : UInt8).toNat = 41 := rfl
        omega
      · have : (59 : UInt8).toNat = 59 := rfl
        omega
    show Lib.indexByte [40, 41, 59] c.toNat.toUInt8 < 0
    simp [Lib.indexByte, hne 40 (.inl rfl), hne 41 (.inr (.inl rfl)), hne 59 (.inr (.inr rfl))]
set_option maxHeartbeats 1000000 in
theorem length_bracket (g : Nat) (s : ByteArray) (a : Nat) (v : Value) (w : World) (hg : IsLexer w g s a v) (ha : a < s.size) (hs : s.size ≤ 3000) (hb : (codes s).getD a 0 = 40 ∨ (codes s).getD a 0 = 41) :
    Calls Try.prog 51 #[.pointer (some ⟨g, 0, none⟩)] w fun e w' => e = .returned (.int .i64 1) ∧ ∃ n, w' = w.drewN n := by
  have h0 := hg.c0
  have h1 := hg.c1
  have hai : (a : Int) ≤ (s.size : Int) := by omega
  clear hg
  go_enter Try.func51, Try.ntmps51
  go_wp2_with (fail)
  go_quiet (fail)
  obtain ⟨t, ht⟩ : ∃ t, t = s.extract a s.size := ⟨_, rfl⟩
  rw [← ht]
  have hszp : 0 < t.size := by rw [ht, rest_size s a (by omega)]; omega
  have hcc : ((t[0]'hszp).toNat : Int) = (codes s).getD a 0 := by
    rw [byte_code]; rw [ht, rest_codes, drop_getD, Nat.add_zero]
  clear ht h0 h1
  rcases hb with hb | hb
  · have e1 : (((t[0]'hszp).toNat : Int) == 40) = true := by simp only [beq_iff_eq]; omega
    clear hcc hb
    go_wp2
    go_ret
    exact ⟨rfl, _, rfl⟩
  · have e1 : (((t[0]'hszp).toNat : Int) == 40) = false := by simp only [beq_eq_false_iff_ne]; omega
    have e2 : (((t[0]'hszp).toNat : Int) == 41) = true := by simp only [beq_iff_eq]; omega
    clear hcc hb
    go_wp2
    go_ret
    exact ⟨rfl, _, rfl⟩
set_option maxHeartbeats 2000000 in
theorem length_word (g : Nat) (s : ByteArray) (a : Nat) (v : Value) (w : World) (hg : IsLexer w g s a v) (ha : a < s.size) (hs : s.size ≤ 3000) (hb : ¬ ((codes s).getD a 0 = 40 ∨ (codes s).getD a 0 = 41)) :
    Calls Try.prog 51 #[.pointer (some ⟨g, 0, none⟩)] w fun e w' => e = .returned (.int .i64 (((((codes s).drop a).takeWhile (fun c => !endsB c)).length : Nat) : Int)) ∧ ∃ n, w' = w.drewN n := by
  have h0 := hg.c0
  have h1 := hg.c1
  have hai : (a : Int) ≤ (s.size : Int) := by omega
  clear hg
  go_enter Try.func51, Try.ntmps51
  go_wp2_with (fail)
  go_quiet (fail)
  obtain ⟨t, ht⟩ : ∃ t, t = s.extract a s.size := ⟨_, rfl⟩
  obtain ⟨D, hD⟩ : ∃ D, D = (codes s).drop a := ⟨_, rfl⟩
  rw [← ht]
  have hdl : D.length = t.size := by rw [hD, ht, ← rest_codes, codes_length]
  have hszt : t.size = s.size - a := by rw [ht, rest_size s a (by omega)]
  have hszp : 0 < t.size := by omega
  have hle : t.size ≤ 3000 := by omega
  have HC : Hid (∀ k (h : k < t.size), ((t[k]'h).toNat : Int) = D.getD k 0) := by
    intro k h
    rw [byte_code]; rw [ht, rest_codes, hD]
  have hcc := HC.out 0 hszp
  have hb0 : D.getD 0 0 = (codes s).getD a 0 := by rw [hD, drop_getD, Nat.add_zero]
  have e1 : (((t[0]'hszp).toNat : Int) == 40) = false := by simp only [beq_eq_false_iff_ne]; intro h; exact hb (.inl (by omega))
  have e2 : (((t[0]'hszp).toNat : Int) == 41) = false := by simp only [beq_eq_false_iff_ne]; intro h; exact hb (.inr (by omega))
  have HD := Lib.hid hD
  have HDL := Lib.hid hdl
  clear hcc hdl ht hD hb hb0 hszt h0 h1
  go_wp2
  clear e1 e2
  go_loopw [24] (fun iv wr => ∃ k : Nat, k ≤ t.size ∧ iv = .int .i64 k ∧ Hid (∀ j, j < k → endsB (D.getD j 0) = false) ∧ Hid (∃ q, wr = w.drewN q)) (fun iv _ => t.size - (intOf iv).toNat)
  case atStart => exact ⟨0, Nat.zero_le _, rfl, fun j hj => absurd hj (Nat.not_lt_zero _), _, rfl⟩
  case round =>
    obtain ⟨k, hk, rfl, hall, hq⟩ := hrel
    by_cases hlt : k < t.size
    · have hcc := HC.out k hlt
      obtain ⟨c, hc⟩ : ∃ c, c = ((t[k]'hlt).toNat : Int) := ⟨_, rfl⟩
      have hb : 0 ≤ c ∧ c ≤ 255 := by have := (t[k]'hlt).toNat_lt; omega
      have HSP : Hid (∀ w, Calls Try.prog 32 #[.int .u8 ((t[k]'hlt).toNat : Int)] w fun e w' => e = .returned (.bool (spacedB c)) ∧ Drawn0 w w') := by
        intro w
        rw [← hc]
        exact lex_Spaced.calls c _ w (spaced_f c)
      have HIX : Hid (∀ w, Calls Try.prog 73 #[.string (ByteArray.mk #[40, 41, 59]), .int .u8 ((t[k]'hlt).toNat : Int)] w fun e w' => e = .returned (.int .i64 (Lib.indexByte (ByteArray.mk #[40, 41, 59]).data.toList c.toNat.toUInt8)) ∧ w' = w) := by
        intro w
        rw [← hc]
        exact Try.strings_IndexByte _ c w
      obtain ⟨hp1, hp2⟩ := paren_index hb.1 hb.2
      have hDk : Hid (c = D.getD k 0) := by show _ = _; rw [hc]; exact hcc
      clear hcc hc
      generalize Lib.indexByte (ByteArray.mk #[40, 41, 59]).data.toList c.toNat.toUInt8 = r at *
      have hfin : endsB (D.getD k 0) = true → ((((codes s).drop a).takeWhile (fun c => !endsB c)).length = k) := fun hstop => by
        rw [← HD.out]
        exact tw_len D k (fun j hj => by rw [hall.out j hj]; rfl) (by rw [HDL.out]; omega) (fun _ => by rw [hstop]; rfl)
      by_cases hsp : spacedB c = true
      · have hR := Lib.hid (hfin (by rw [← hDk.out]; unfold endsB; rw [hsp]; rfl))
        rw [hsp] at HSP
        clear hp1 hp2 hsp HIX hfin
        go_wp2_with (fail)
        refine (HSP.out _).mono ?_
        rintro e w' ⟨rfl, q, rfl⟩
        go_wp2
        go_ret
        obtain ⟨q0, hq0⟩ := hq.out
        exact ⟨ret_int (by rw [hR.out]), by rw [hq0]; exact ⟨_, World.drewN_drewN _ _ _⟩⟩
      · have hsp' : spacedB c = false := by simpa using hsp
        rw [hsp'] at HSP
        by_cases hpar : c = 40 ∨ c = 41 ∨ c = 59
        · have hR := Lib.hid (hfin (by rw [← hDk.out]; unfold endsB; rw [hsp']; rcases hpar with h | h | h <;> rw [h] <;> rfl))
          have hr := hp1 hpar
          clear hp1 hp2 hsp hsp' hfin hpar
          go_wp2_with (fail)
          refine (HSP.out _).mono ?_
          rintro e w' ⟨rfl, q, rfl⟩
          go_wp2_with (fail)
          refine (HIX.out _).mono ?_
          rintro e w' ⟨rfl, rfl⟩
          go_wp2
          go_ret
          obtain ⟨q0, hq0⟩ := hq.out
          exact ⟨ret_int (by rw [hR.out]), by rw [hq0]; exact ⟨_, World.drewN_drewN _ _ _⟩⟩
        · have hno : Hid (endsB (D.getD k 0) = false) := by
            show _ = _
            rw [← hDk.out]; unfold endsB
            rw [hsp', decide_eq_false (fun h => hpar (.inl h)), decide_eq_false (fun h => hpar (.inr (.inl h))), decide_eq_false (fun h => hpar (.inr (.inr h)))]; rfl
          have hr := hp2 hpar
          have hr' : decide (0 ≤ r) = false := by simp; omega
          clear hp1 hp2 hsp hsp' hfin hpar
          go_wp2_with (fail)
          refine (HSP.out _).mono ?_
          rintro e w' ⟨rfl, q, rfl⟩
          go_wp2_with (fail)
          refine (HIX.out _).mono ?_
          rintro e w' ⟨rfl, rfl⟩
          go_wp2
          go_roundw
          case measure => simp [intOf]; omega
          case rel =>
            obtain ⟨q0, hq0⟩ := hq.out
            refine ⟨k + 1, by omega, by go_num, fun j hj => ?_, by rw [hq0]; exact ⟨_, World.drewN_drewN _ _ _⟩⟩
            by_cases hj2 : j < k
            · exact hall.out j hj2
            · obtain rfl : j = k := by omega
              exact hno.out
    · obtain rfl : k = t.size := by omega
      have hR : Hid ((((codes s).drop a).takeWhile (fun c => !endsB c)).length = t.size) := by
        show _ = _
        rw [← HD.out]
        exact tw_len D t.size (fun j hj => by rw [hall.out j hj]; rfl) (by rw [HDL.out]; omega) (fun h => by rw [HDL.out] at h; omega)
      go_wp2
      go_ret
      exact ⟨ret_int (by rw [hR.out]), hq.out⟩
theorem length_calls (g : Nat) (s : ByteArray) (a : Nat) (v : Value) (w : World) (hg : IsLexer w g s a v) (ha : a < s.size) (hs : s.size ≤ 3000) :
    Calls Try.prog 51 #[.pointer (some ⟨g, 0, none⟩)] w fun e w' => e = .returned (.int .i64 ((wordLen ((codes s).drop a) : Nat) : Int)) ∧ ∃ n, w' = w.drewN n := by
  have hh := drop_head (L := codes s) (a := a) (by rw [codes_length]; exact ha)
  unfold wordLen
  rw [hh]
  by_cases hb : (codes s).getD a 0 = 40 ∨ (codes s).getD a 0 = 41
  · rw [if_pos (by rcases hb with h | h <;> rw [h] <;> simp)]
    exact length_bracket g s a v w hg ha hs hb
  · rw [if_neg (by simpa using hb)]
    exact length_word g s a v w hg ha hs hb
/-- A block of a token. -/
theorem tok_cells {w : World} {g : Nat} {k : Int} {t : ByteArray} {n a : Int} (h : w.heap[g]? = some (.cells #[.int .u8 k, .string t, .int .i64 n, .int .i64 a] 37 (0, 0))) :
    w.cell? ⟨g, 0, none⟩ = some (.int .u8 k) ∧ w.cell? ⟨g, 1, none⟩ = some (.string t) ∧ w.cell? ⟨g, 2, none⟩ = some (.int .i64 n) ∧ w.cell? ⟨g, 3, none⟩ = some (.int .i64 a) ∧
    w.frozen? ⟨g, 0, none⟩ = false ∧ w.frozen? ⟨g, 1, none⟩ = false ∧ w.frozen? ⟨g, 2, none⟩ = false ∧ w.frozen? ⟨g, 3, none⟩ = false :=
  ⟨by rw [blk_cell h]; rfl, by rw [blk_cell h]; rfl, by rw [blk_cell h]; rfl, by rw [blk_cell h]; rfl, blk_frozen h 0, blk_frozen h 1, blk_frozen h 2, blk_frozen h 3⟩
theorem heap_two (w : World) (o o' : Obj) : ((w.alloc o).alloc o').heap[w.heap.size]? = some o ∧ ((w.alloc o).alloc o').heap[w.heap.size + 1]? = some o' := by
  refine ⟨?_, ?_⟩
  · rw [Below.heap_alloc _ _ _ (by simp)]; exact heap_alloc_new w o
  · have := heap_alloc_new (w.alloc o) o'
    simpa using this
theorem tok_below {w w1 : World} {o o' : Obj} (h : Below ((w.alloc o).alloc o').heap.size ((w.alloc o).alloc o') w1) : Below w.heap.size w w1 :=
  ((((Below.refl _ w).alloc (Nat.le_refl _) o).alloc (by simp) o').trans (h.mono (by simp; omega)))
set_option maxHeartbeats 2000000 in
theorem token_other (t : ByteArray) (a : Nat) (w : World) (ht : t.size ≤ 3000) (h40 : codes t ≠ [40]) (h41 : codes t ≠ [41]) (hK : kindOf (codes t) ≠ 4) :
    Calls Try.prog 52 #[.string t, .int .i64 a] w fun e w' => e = .returned (.agg #[.int .u8 (kindOf (codes t)), .string t, .int .i64 0, .int .i64 a]) ∧ Below w.heap.size w w' := by
  obtain ⟨k, hk⟩ := (wordKind_ev t (by omega)).rounds
  have HKK := Lib.hid hk
  obtain ⟨K, hKe⟩ : ∃ K, K = kindOf (codes t) := ⟨_, rfl⟩
  rw [← hKe] at HKK hK
  have e1 : t.toList ≠ [40] := fun h => h40 ((toList_one t 40).1 h)
  have e2 : t.toList ≠ [41] := fun h => h41 ((toList_one t 41).1 h)
  have e3 : (t.toList == [40]) = false := by simpa using e1
  have e4 : (t.toList == [41]) = false := by simpa using e2
  have e5 : (K == 4) = false := by simpa using hK
  have HKE := Lib.hid hKe
  clear hk hKe h40 h41 e1 e2 hK
  go_enter Try.func52, Try.ntmps52
  go_wp2_with (fail)
  refine (lex_WordKind.calls k t K _ HKK.out).mono ?_
  rintro e w1 ⟨rfl, hb⟩
  obtain ⟨hA, hB⟩ := heap_two w (.cells #[.int .u8 0, .string ⟨#[]⟩, .int .i64 0, .int .i64 0] 37) (.cells #[.int .u8 0, .string t, .int .i64 0, .int .i64 (a : Int)] 37)
  have hA1 := blk_below hA hb
  have hB1 := blk_below hB hb
  obtain ⟨a0, a1, a2, a3, af0, af1, af2, af3⟩ := tok_cells hA1
  obtain ⟨b0, b1, b2, b3, bf0, bf1, bf2, bf3⟩ := tok_cells hB1
  have HB := Lib.hid hb
  clear hA hB hA1 hB1 hb
  go_wp2
  have hz : w.heap.size + 1 < w1.heap.size := by have := HB.out.size; simp at this; omega
  refine bodyPost_ret (v := .agg #[.int .u8 K, .string t, .int .i64 0, .int .i64 a]) (by simp [results, Try.results52, go_sem, hz, a0, a1, a2, a3, b0, b1, b2, b3]) rfl ⟨by rw [HKE.out], ?_⟩
  exact (((((tok_below HB.out).setCell (p := ⟨w.heap.size + 1, 0, none⟩) (Nat.le_succ _) _).setCell (p := ⟨w.heap.size, 0, none⟩) (Nat.le_refl _) _).setCell (p := ⟨w.heap.size, 1, none⟩) (Nat.le_refl _) _).setCell (p := ⟨w.heap.size, 2, none⟩) (Nat.le_refl _) _).setCell (p := ⟨w.heap.size, 3, none⟩) (Nat.le_refl _) _
set_option maxHeartbeats 2000000 in
theorem token_num (t : ByteArray) (a : Nat) (w : World) (ht : t.size ≤ 3000) (h40 : codes t ≠ [40]) (h41 : codes t ≠ [41]) (hK : kindOf (codes t) = 4) :
    Calls Try.prog 52 #[.string t, .int .i64 a] w fun e w' => e = .returned (.agg #[.int .u8 4, .string t, .int .i64 (parseOf (codes t)).1, .int .i64 a]) ∧ Below w.heap.size w w' := by
  obtain ⟨k, hk⟩ := (wordKind_ev t (by omega)).rounds
  obtain ⟨k2, hk2⟩ := (parse_ev t).rounds
  obtain ⟨⟨N, E⟩, hNe⟩ : ∃ P, P = parseOf (codes t) := ⟨_, rfl⟩
  rw [hK] at hk
  rw [← hNe] at hk2
  have HKK := Lib.hid hk
  have HPP := Lib.hid hk2
  have e1 : t.toList ≠ [40] := fun h => h40 ((toList_one t 40).1 h)
  have e2 : t.toList ≠ [41] := fun h => h41 ((toList_one t 41).1 h)
  have e3 : (t.toList == [40]) = false := by simpa using e1
  have e4 : (t.toList == [41]) = false := by simpa using e2
  have HNE := Lib.hid (congrArg Prod.fst hNe)
  clear hk hk2 hNe h40 h41 e1 e2 hK
  go_enter Try.func52, Try.ntmps52
  go_wp2_with (fail)
  refine (lex_WordKind.calls k t 4 _ HKK.out).mono ?_
  rintro e w1 ⟨rfl, hb⟩
  obtain ⟨hA, hB⟩ := heap_two w (.cells #[.int .u8 0, .string ⟨#[]⟩, .int .i64 0, .int .i64 0] 37) (.cells #[.int .u8 0, .string t, .int .i64 0, .int .i64 (a : Int)] 37)
  have HA1 := Lib.hid (blk_below hA hb)
  have HB1 := Lib.hid (blk_below hB hb)
  obtain ⟨b0, b1, b2, b3, bf0, bf1, bf2, bf3⟩ := tok_cells HB1.out
  have HB := Lib.hid (tok_below hb)
  have hz0 : w.heap.size + 1 < w1.heap.size := by have := hb.size; simp at this; omega
  clear hA hB hb
  go_wp2_with (fail)
  refine (num_Parse.calls k2 t N E _ HPP.out).mono ?_
  rintro e w2 ⟨rfl, hb⟩
  have HA2 := Lib.hid (blk_below (w := w1.setCell ⟨w.heap.size + 1, 0, none⟩ (.int .u8 4)) ((Below.heap_setCell w1 _ _ _ (by show w.heap.size ≠ w.heap.size + 1; omega)).trans HA1.out) hb)
  have HB2 := Lib.hid (blk_below (blk_set HB1.out 0 (.int .u8 4)) hb)
  have HC : Hid (Below w.heap.size w w2) := ((show Below _ _ _ from HB.out).setCell (p := ⟨w.heap.size + 1, 0, none⟩) (Nat.le_succ _) _).trans (hb.mono (by simp [World.setCell]; omega))
  have hz : w.heap.size + 1 < w2.heap.size := by have := hb.size; simp [World.setCell] at this; omega
  obtain ⟨a0, a1, a2, a3, af0, af1, af2, af3⟩ := tok_cells HA2.out
  have HB3 : Hid (w2.heap[w.heap.size + 1]? = some (.cells #[.int .u8 4, .string t, .int .i64 0, .int .i64 (a : Int)] 37 (0, 0))) := HB2.out
  clear b0 b1 b2 b3 bf0 bf1 bf2 bf3 HA1 HB1 HA2 HB2 HB hz0 hb
  obtain ⟨b0, b1, b2, b3, bf0, bf1, bf2, bf3⟩ := tok_cells HB3.out
  go_wp2
  refine bodyPost_ret (v := .agg #[.int .u8 4, .string t, .int .i64 N, .int .i64 a]) (by simp [results, Try.results52, go_sem, hz, a0, a1, a2, a3, b0, b1, b2, b3]) rfl ⟨by rw [← HNE.out], ?_⟩
  exact (((((show Below _ _ _ from HC.out).setCell (p := ⟨w.heap.size + 1, 2, none⟩) (Nat.le_succ _) _).setCell (p := ⟨w.heap.size, 0, none⟩) (Nat.le_refl _) _).setCell (p := ⟨w.heap.size, 1, none⟩) (Nat.le_refl _) _).setCell (p := ⟨w.heap.size, 2, none⟩) (Nat.le_refl _) _).setCell (p := ⟨w.heap.size, 3, none⟩) (Nat.le_refl _) _
set_option maxHeartbeats 2000000 in
theorem token_open (t : ByteArray) (a : Nat) (w : World) (h40 : codes t = [40]) :
    Calls Try.prog 52 #[.string t, .int .i64 a] w fun e w' => e = .returned (.agg #[.int .u8 1, .string t, .int .i64 0, .int .i64 a]) ∧ Below w.heap.size w w' := by
  have e1 : (t.toList == [40]) = true := by rw [beq_iff_eq]; exact (toList_one t 40).2 h40
  clear h40
  go_enter Try.func52, Try.ntmps52
  go_wp2
  exact bodyPost_ret (v := .agg #[.int .u8 1, .string t, .int .i64 0, .int .i64 a]) (by simp [results, Try.results52, go_sem]) rfl ⟨rfl, ((Below.refl _ w).alloc (Nat.le_refl _) _).alloc (by simp) _⟩
set_option maxHeartbeats 2000000 in
theorem token_close (t : ByteArray) (a : Nat) (w : World) (h41 : codes t = [41]) :
    Calls Try.prog 52 #[.string t, .int .i64 a] w fun e w' => e = .returned (.agg #[.int .u8 2, .string t, .int .i64 0, .int .i64 a]) ∧ Below w.heap.size w w' := by
  have e1 : (t.toList == [40]) = false := by rw [beq_eq_false_iff_ne]; intro h; have := (toList_one t 40).1 h; rw [h41] at this; cases this
  have e2 : (t.toList == [41]) = true := by rw [beq_iff_eq]; exact (toList_one t 41).2 h41
  clear h41
  go_enter Try.func52, Try.ntmps52
  go_wp2
  exact bodyPost_ret (v := .agg #[.int .u8 2, .string t, .int .i64 0, .int .i64 a]) (by simp [results, Try.results52, go_sem]) rfl ⟨rfl, ((Below.refl _ w).alloc (Nat.le_refl _) _).alloc (by simp) _⟩
/-- The token of a piece. -/
theorem token_calls (t : ByteArray) (a : Nat) (w : World) (ht : t.size ≤ 3000) :
    Calls Try.prog 52 #[.string t, .int .i64 a] w fun e w' => e = .returned (.agg #[.int .u8 (tokenOf (codes t) a).f0, .string (tokenOf (codes t) a).f1, .int .i64 (tokenOf (codes t) a).f2, .int .i64 (tokenOf (codes t) a).f3]) ∧ Below w.heap.size w w' := by
  unfold tokenOf
  rw [str_codes]
  by_cases h40 : codes t = [40]
  · rw [if_pos h40]; exact token_open t a w h40
  · rw [if_neg h40]
    by_cases h41 : codes t = [41]
    · rw [if_pos h41]; exact token_close t a w h41
    · rw [if_neg h41]
      by_cases hK : kindOf (codes t) = 4
      · rw [if_pos hK, hK]; exact token_num t a w ht h40 h41 hK
      · rw [if_neg hK]; exact token_other t a w ht h40 h41 hK
end Go.Proofs.Ytiojfdgagdofiaa.HK
