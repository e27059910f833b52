/-
LexBlanks' walk.
-/
import Derived.Test.YtiojfdgagdofiaaBlA
import Derived.Test.YtiojfdgagdofiaaHk3
set_option linter.unusedVariables false
set_option linter.unusedSimpArgs false
namespace Go.Proofs.Ytiojfdgagdofiaa.HK
open Go.RowKit Go.Proofs.YtiojfdgagdofiaaW.PrintWords Go.Proofs.YtiojfdgagdofiaaW.PrintLast Go.Proofs.YtiojfdgagdofiaaW.PrintMore Go.Proofs.Ytiojfdgagdofiaa.HB

theorem info5 : (Try.prog.info? 5).map (fun i => (i.zero, i.size, i.bytes)) = some (some (.int .u8 0), 1, 1) := by kernel_rfl
theorem widen_le6 (l : List Int) : (widen l).length ≤ 6 * l.length := by
  induction l with
  | nil => simp [widen]
  | cons d l ih =>
    rw [widen]
    simp only [List.length_append, List.length_cons]
    split <;> split <;> simp <;> omega
theorem widen_bytes {l : List Int} (h : ∀ x ∈ l, 0 ≤ x ∧ x ≤ 255) : ∀ x ∈ widen l, 0 ≤ x ∧ x ≤ 255 := by
  induction l with
  | nil => intro x hx; simp [widen] at hx
  | cons d l ih =>
    intro x hx
    rw [widen] at hx
    simp only [List.mem_append, List.mem_cons] at hx
    rcases hx with (hx | hx) | rfl | hx
    · split at hx
      · simp at hx; omega
      · simp at hx
    · split at hx
      · simp at hx; omega
      · simp at hx
    · exact h x (by simp)
    · exact ih (fun y hy => h y (by simp [hy])) x hx
theorem widen_take {l : List Int} {k : Nat} (h : k < l.length) : widen (l.take (k + 1)) = widen (l.take k) ++ (if l.getD k 0 = 32 then [9, 32] else []) ++ (if l.getD k 0 = 10 then [32, 59, 40, 120, 10] else []) ++ [l.getD k 0] := by
  rw [List.take_succ_eq_append_getElem h, widen_snoc, List.getD_eq_getElem?_getD, List.getElem?_eq_getElem h]
  rfl
theorem strip_eq {r q : List S37} (h : r.map strip = q.map strip) {k : Nat} (hk : k < r.length) : (rd_T37 q (k : Int)).f0 = (rd_T37 r (k : Int)).f0 ∧ (rd_T37 q (k : Int)).f1 = (rd_T37 r (k : Int)).f1 ∧ (rd_T37 q (k : Int)).f2 = (rd_T37 r (k : Int)).f2 := by
  have hl : r.length = q.length := by have := congrArg List.length h; simpa using this
  have h1 := congrArg (fun l => l[k]?) h
  simp only [List.getElem?_map, List.getElem?_eq_getElem hk, List.getElem?_eq_getElem (show k < q.length by omega), Option.map_some] at h1
  have h2 := Option.some.inj h1
  unfold strip at h2
  simp only [Prod.mk.injEq] at h2
  unfold rd_T37
  rw [Int.toNat_natCast, List.getD_eq_getElem?_getD, List.getD_eq_getElem?_getD, List.getElem?_eq_getElem hk, List.getElem?_eq_getElem (show k < q.length by omega)]
  exact ⟨h2.1.symm, h2.2.1.symm, h2.2.2.symm⟩
theorem live_call (w : World) : Calls Try.prog 27 #[] w fun e w' => e = .returned (.bool true) ∧ Below w.heap.size w w' := reticulelaw06_live.calls true w live_true
theorem own_any {w : World} {base n : Nat} {v : Value} {Y : List Int} (h : w.ownsRow base 5 1 v n (nums .u8 Y)) : w.ownsRow base 5 1 v Y.length (nums .u8 Y) := by
  have hl : n = Y.length := by have := h.1; simp [nums] at this; omega
  rw [← hl]; exact h
theorem two_reads (w : World) : ReadsInt (w.alloc (.cells #[.int .u8 9, .int .u8 32] 5)) .u8 (some ⟨w.heap.size, 0, none⟩) 2 [9, 32] := by
  refine ⟨rfl, by decide, fun _ => ⟨_, rfl, fun j hj => ?_⟩⟩
  rw [add_plain, blk_cell (heap_alloc_new w (.cells #[.int .u8 9, .int .u8 32] 5))]
  match j, hj with
  | 0, _ | 1, _ => rfl
set_option maxHeartbeats 10000000 in
set_option maxRecDepth 100000 in
theorem blanks_walk (s : ByteArray) (w : World) : Calls Try.prog 8 #[.string s] w fun e w' => e = .returned (.bool true) ∧ Below w.heap.size w w' := by
  go_enter Try.func8, Try.ntmps8
  go_upto_if 14 with (fail)
  go_cut [0] (fun v0 wc => ∃ t : ByteArray, v0 = .string t ∧ t.size ≤ 800 ∧ w = wc)
  case first =>
    by_cases h8 : 800 < s.size
    · have e8 : decide ((800 : Int) < (s.size : Int)) = true := by simp; omega
      have h8i : (800 : Int) ≤ (s.size : Int) := by omega
      go_wp2
      go_meet
      case rel => exact ⟨_, rfl, by simp [ByteArray.size_extract]; omega, rfl⟩
    · have e8 : decide ((800 : Int) < (s.size : Int)) = false := by simp; omega
      go_wp2
      go_meet
      case rel => exact ⟨_, rfl, by omega, rfl⟩
  case rest =>
    obtain ⟨t, rfl, ht, rfl⟩ := hcut
    have HL := Lib.hid (codes_length t)
    go_wp2_with (fail)
    go_loopw [3, 4] (fun wv iv wr => ∃ k : Nat, k ≤ t.size ∧ iv = .int .i64 k ∧ Hid (wr.ownsRow w.heap.size 5 1 wv (widen ((codes t).take k)).length (nums .u8 (widen ((codes t).take k)))) ∧ Hid (Below w.heap.size w wr)) (fun _ iv _ => t.size - (intOf iv).toNat)
    case atStart => exact ⟨0, Nat.zero_le _, rfl, own_nil _ _ _ _, Below.refl _ _⟩
    case round =>
      obtain ⟨k, hk, rfl, hO, hB⟩ := hrel
      by_cases hlt : k < t.size
      · have hcc := byte_code t k hlt
        have hwt := widen_take (l := codes t) (k := k) (by rw [HL.out]; exact hlt)
        have h6 := widen_le6 ((codes t).take k)
        have hkl : ((codes t).take k).length ≤ 800 := by rw [List.length_take]; omega
        have hbd : (widen ((codes t).take k)).length ≤ 4800 := by omega
        obtain ⟨c, hc⟩ : ∃ c, c = (codes t).getD k 0 := ⟨_, rfl⟩
        rw [← hc] at hcc hwt
        obtain ⟨X, hX⟩ : ∃ X, X = widen ((codes t).take k) := ⟨_, rfl⟩
        rw [← hX] at hO hwt hbd
        have HC := Lib.hid hcc
        have HW := Lib.hid hwt
        clear hwt h6 hkl hX hc
        by_cases h32 : c = 32
        · have e32 : (((t[k]'hlt).toNat : Int) == 32) = true := by rw [hcc, h32]; rfl
          have e10 : (((t[k]'hlt).toNat : Int) == 10) = false := by rw [hcc, h32]; rfl
          have HK := Lib.hid h32
          have HWX : Hid (widen ((codes t).take (k + 1)) = X ++ [9, 32, ((t[k]'hlt).toNat : Int)]) := by show _ = _; rw [HW.out, if_pos h32, if_neg (by omega), hcc]; simp
          clear hcc h32
          go_wp2_with (at_builtin; refine print_append_row (w0 := w) w.heap.size rfl (.tmp 27) (.tmp 28) 52 5 .u8 1 rfl Try.underlying52 info5 (Nat.succ_pos 0) _ X [9, 32] (some ⟨wr.heap.size, 0, none⟩) 2 2 rfl rfl (hO.out.alloc _) (two_reads wr) (hB.out.alloc hB.out.size _) ?qb ?qa ?_)
          case qb => have := hB.out.size; simp; omega
          case qa => omega
          intro v1 w1 hown hb1 _ _
          have HO1 := Lib.hid (own_any hown)
          have HB1 := Lib.hid hb1
          clear hown hb1
          go_wp2_with (at_builtin; refine print_append_num (w0 := w) w.heap.size rfl (.tmp 36) (.tmp 40) 52 5 .u8 1 rfl Try.underlying52 info5 (Nat.succ_pos 0) _ (X ++ [9, 32]) ((t[k]'hlt).toNat : Int) rfl rfl HO1.out HB1.out HB1.out.size ?qa ?_)
          case qa => simp; omega
          intro v2 w2 hown2 hb2 _ _
          go_wp2
          go_roundw
          case measure => simp [intOf]; omega
          case rel => exact ⟨k + 1, by omega, by go_num, by rw [HWX.out]; exact own_any hown2, hb2⟩
        · by_cases h10 : c = 10
          · have e32 : (((t[k]'hlt).toNat : Int) == 32) = false := by rw [hcc, h10]; rfl
            have e10 : (((t[k]'hlt).toNat : Int) == 10) = true := by rw [hcc, h10]; rfl
            have HK := Lib.hid h10
            have HWX : Hid (widen ((codes t).take (k + 1)) = X ++ [32, 59, 40, 120, 10, ((t[k]'hlt).toNat : Int)]) := by show _ = _; rw [HW.out, if_neg h32, if_pos h10, hcc]; simp
            clear hcc h32 h10
            go_wp2_with (at_builtin; refine print_append_str (w0 := w) w.heap.size rfl (.tmp 34) (.const (.string ⟨#[32, 59, 40, 120, 10]⟩)) 52 9 5 rfl Try.underlying52 Try.underlying9 info5 _ X ⟨#[32, 59, 40, 120, 10]⟩ rfl rfl hO.out hB.out hB.out.size ?qa ?_)
            case qa => simp [ByteArray.size]; omega
            intro v1 w1 hown hb1 _
            have HO1 : Hid (w1.ownsRow w.heap.size 5 1 v1 (X ++ [32, 59, 40, 120, 10]).length (nums .u8 (X ++ [32, 59, 40, 120, 10]))) := own_any (Y := X ++ [32, 59, 40, 120, 10]) hown
            have HB1 := Lib.hid hb1
            clear hown hb1
            go_wp2_with (at_builtin; refine print_append_num (w0 := w) w.heap.size rfl (.tmp 36) (.tmp 40) 52 5 .u8 1 rfl Try.underlying52 info5 (Nat.succ_pos 0) _ (X ++ [32, 59, 40, 120, 10]) ((t[k]'hlt).toNat : Int) rfl rfl HO1.out HB1.out HB1.out.size ?qa ?_)
            case qa => simp; omega
            intro v2 w2 hown2 hb2 _ _
            go_wp2
            go_roundw
            case measure => simp [intOf]; omega
            case rel => exact ⟨k + 1, by omega, by go_num, by rw [HWX.out]; exact own_any hown2, hb2⟩
          · have e32 : (((t[k]'hlt).toNat : Int) == 32) = false := by rw [hcc]; simpa using h32
            have e10 : (((t[k]'hlt).toNat : Int) == 10) = false := by rw [hcc]; simpa using h10
            have HWX : Hid (widen ((codes t).take (k + 1)) = X ++ [((t[k]'hlt).toNat : Int)]) := by show _ = _; rw [HW.out, if_neg h32, if_neg h10, hcc]; simp
            clear hcc h32 h10
            go_wp2_with (at_builtin; refine print_append_num (w0 := w) w.heap.size rfl (.tmp 36) (.tmp 40) 52 5 .u8 1 rfl Try.underlying52 info5 (Nat.succ_pos 0) _ X ((t[k]'hlt).toNat : Int) rfl rfl hO.out hB.out hB.out.size ?qa ?_)
            case qa => omega
            intro v1 w1 hown hb1 _ _
            go_wp2
            go_roundw
            case measure => simp [intOf]; omega
            case rel => exact ⟨k + 1, by omega, by go_num, by rw [HWX.out]; exact own_any hown, hb1⟩
      · obtain rfl : k = t.size := by omega
        have hall : (codes t).take t.size = codes t := List.take_of_length_le (by rw [HL.out]; exact Nat.le_refl _)
        rw [hall] at hO
        have h6 := widen_le6 (codes t)
        rw [HL.out] at h6
        have HWB := Lib.hid (widen_bytes (codes_byte t))
        have HP := Lib.hid (blanks_plain (codes t) (by rw [HL.out]; omega))
        obtain ⟨X, hX⟩ : ∃ X, X = widen (codes t) := ⟨_, rfl⟩
        rw [← hX] at hO h6 HWB HP
        have hSC : codes (strOfNums X) = X := codes_str X HWB.out
        obtain ⟨S, hS⟩ : ∃ S, S = strOfNums X := ⟨_, rfl⟩
        rw [← hS] at hSC
        obtain ⟨⟨r1, r2, r3⟩, hr⟩ : ∃ r, r = tokensOf (codes t) := ⟨_, rfl⟩
        obtain ⟨⟨q1, q2, q3⟩, hq⟩ : ∃ r, r = tokensOf X := ⟨_, rfl⟩
        have HT1 : Hid (lex_Tokens.f t = some (r1, r2, r3)) := by show some (tokensOf (codes t)) = _; rw [hr]
        have HT2 : Hid (lex_Tokens.f S = some (q1, q2, q3)) := by show some (tokensOf (codes S)) = _; rw [hSC, hq]
        rw [← hr, ← hq] at HP
        have HS := Lib.hid hS
        have HQL : Hid (3000 < X.length → q3 = 4) := by
          intro h
          have h4 : tokensOf X = ([], 0, 4) := by unfold tokensOf; rw [if_pos h]
          rw [h4] at hq
          exact congrArg (fun z => z.2.2) hq
        have hqf := tokensOf_few X
        have hrf := tokensOf_few (codes t)
        rw [← hq] at hqf
        rw [← hr] at hrf
        have hqf' : q1.length ≤ 600 := hqf
        have hrf' : r1.length ≤ 600 := hrf
        clear hall hX hSC hr hq hS hqf hrf
        obtain ⟨A, cap, rfl⟩ := own_slice hO.out
        go_wp2_with (fail)
        refine (lex_Tokens.calls t r1 r2 r3 _ HT1.out).mono ?_
        rintro e w1 ⟨v1, rfl, hv1, hb1⟩
        obtain ⟨A1, c1, rfl, _, hC1⟩ := Kd.R_reads hv1
        have HC1 := Lib.hid hC1
        have HO1 : Hid (w1.ownsRow w.heap.size 5 1 (.slice A X.length cap) X.length (nums .u8 X)) := own_move hO.out (fun k hk => hb1.block k (own_lt hO.out k hk))
        have HB1 := Lib.hid (below_then hB.out hB.out.size hb1)
        have hcv : (convert 52 9 (.slice A X.length cap)).run Try.prog w1 = .ok (.string S) w1 := by
          rw [HS.out]
          exact own_string Try.underlying52 Try.underlying5 Try.underlying9 HO1.out
        clear hv1 hb1 hC1
        go_wp2_with (fail)
        refine (lex_Tokens.calls S q1 q2 q3 _ HT2.out).mono ?_
        rintro e w2 ⟨v2, rfl, hv2, hb2⟩
        obtain ⟨A2, c2, rfl, _, hC2⟩ := Kd.R_reads hv2
        have HC2 := Lib.hid hC2
        have HC1' := Lib.hid (Kd.C_below HC1.out hb2)
        have HB2 := Lib.hid (below_then HB1.out HB1.out.size hb2)
        clear hv2 hb2 hC2 hcv
        by_cases h3 : 3000 < X.length
        · have hq4 := Lib.hid (HQL.out h3)
          have e4 : (q3 == 4) = true := by rw [hq4.out]; rfl
          have e5 : decide ((3000 : Int) < (X.length : Int)) = true := by simp; omega
          go_wp2_with (fail)
          refine (live_call _).mono ?_
          rintro e w3 ⟨rfl, hb3⟩
          go_wp2
          go_ret
          exact ⟨rfl, below_then HB2.out HB2.out.size hb3⟩
        · have e5 : decide ((3000 : Int) < (X.length : Int)) = false := by simp; omega
          obtain ⟨hp1, hp2⟩ := HP.out (by omega)
          have hp1' : r3 = q3 := hp1
          have hp2' : r1.map strip = q1.map strip := hp2
          have hll : r1.length = q1.length := by have := congrArg List.length hp2'; simpa using this
          have HM := Lib.hid hp2'
          subst hp1'
          have HLL := Lib.hid hll
          clear hp1 hp2 hp2' hll
          have HLI : Hid (((r1.length : Int) != (q1.length : Int)) = false) := by show _ = _; rw [← HLL.out]; simp
          have eL := HLI.out
          by_cases h34 : r3 = 4
          all_goals
            first
              | (have e4 : (r3 == 4) = true := by simpa using h34)
              | (have e4 : (r3 == 4) = false := by simpa using h34)
            clear h34
            go_wp2_with (fail)
            clear e4 eL e5
            go_loopw [11] (fun iv wr => ∃ k : Nat, k ≤ r1.length ∧ iv = .int .i64 k ∧ Hid (∃ q, wr = w2.drewN q)) (fun iv _ => r1.length - (intOf iv).toNat)
            case atStart => exact ⟨0, Nat.zero_le _, rfl, 0, (World.drewN_zero _).symm⟩
            case round =>
              obtain ⟨k, hk, rfl, hq⟩ := hrel
              by_cases hlt : k < r1.length
              · have hC1r : Kd.C k37 wr A1 r1.length r1 := by obtain ⟨q, rfl⟩ := hq.out; exact Kd.C_below HC1'.out (pw_below_drewN (Below.refl _ w2) q)
                have hC2r : Kd.C k37 wr A2 q1.length q1 := by obtain ⟨q, rfl⟩ := hq.out; exact Kd.C_below HC2.out (pw_below_drewN (Below.refl _ w2) q)
                have hlq : k < q1.length := by rw [← HLL.out]; exact hlt
                obtain ⟨ad1, rfl, x0, x1, x2, _⟩ := at_T37 hC1r (k : Int) (by omega) (by omega)
                obtain ⟨ad2, rfl, y0, y1, y2, _⟩ := at_T37 hC2r (k : Int) (by omega) (by omega)
                obtain ⟨s0, s1, s2⟩ := strip_eq HM.out hlt
                rw [s0] at y0
                rw [s1] at y1
                rw [s2] at y2
                generalize rd_T37 r1 (k : Int) = T at *
                rw [Int.toNat_natCast] at x0 x1 x2 y0 y1 y2
                have k0i : (0 : Int) ≤ (k : Int) := Int.natCast_nonneg k
                have k1i : (k : Int) < (r1.length : Int) := Int.ofNat_lt.2 hlt
                have k2i : (k : Int) < (q1.length : Int) := Int.ofNat_lt.2 hlq
                have n0 : (T.f0 != T.f0) = false := by simp
                have n1 : (T.f1.toList != T.f1.toList) = false := by simp
                have n2 : (T.f2 != T.f2) = false := by simp
                clear s0 s1 s2 hC1r hC2r
                go_wp2_with (fail)
                go_quiet (fail)
                go_wp2
                go_roundw
                case measure => simp [intOf]; omega
                case rel =>
                  obtain ⟨q, hq0⟩ := hq.out
                  exact ⟨k + 1, by omega, by go_num, by rw [hq0]; exact ⟨_, World.drewN_drewN _ _ _⟩⟩
              · obtain rfl : k = r1.length := by omega
                have HB3 : Hid (Below w.heap.size w wr) := by obtain ⟨q, rfl⟩ := hq.out; exact pw_below_drewN HB2.out _
                go_wp2_with (fail)
                refine (live_call _).mono ?_
                rintro e w3 ⟨rfl, hb3⟩
                go_wp2
                go_ret
                exact ⟨rfl, below_then HB3.out HB3.out.size hb3⟩
end Go.Proofs.Ytiojfdgagdofiaa.HK
