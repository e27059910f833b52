/-
TopOpen over the translation.
-/
import Derived.Test.YtiojfdgagdofiaaTrL
set_option linter.unusedVariables false
set_option linter.unusedSimpArgs false
namespace Go.Proofs.Ytiojfdgagdofiaa.HP
open Go.RowKit Go.Proofs.Ytiojfdgagdofiaa.HB Go.Proofs.Ytiojfdgagdofiaa.HK Go.Proofs.YtiojfdgagdofiaaW.PrintWords Go.Proofs.YtiojfdgagdofiaaW.PrintLast Go.Proofs.YtiojfdgagdofiaaW.PrintMore
set_option maxHeartbeats 8000000 in
set_option maxRecDepth 100000 in
theorem open_walk (M K : Nat) (hM : M ≤ 255) (hK : K ≤ 255) (w : World) :
    Calls Try.prog 11 #[.int .u8 (M : Int), .int .u8 (K : Int)] w fun e w' => e = .returned (.bool true) ∧ Below w.heap.size w w' := by
  obtain ⟨n, hn⟩ : ∃ n, n = M % 10 + 1 := ⟨_, rfl⟩
  have hn1 : 1 ≤ n ∧ n ≤ 10 := by omega
  have m1 : ((M : Int)).tmod 10 = ((M % 10 : Nat) : Int) := by rw [Int.tmod_eq_emod_of_nonneg (by omega)]; omega
  have m2 : ((K : Int)).tmod 10 = ((K % 10 : Nat) : Int) := by rw [Int.tmod_eq_emod_of_nonneg (by omega)]; omega
  have w1 : IntKind.i64.wrap (M : Int) = (M : Int) := IntWalk.i64_in _ (by omega)
  have w2 : IntKind.i64.wrap (K : Int) = (K : Int) := IntWalk.i64_in _ (by omega)
  go_enter Try.func11, Try.ntmps11
  go_wp2_with (fail)
  obtain ⟨k0, hk0⟩ : ∃ k0, k0 = K % 10 := ⟨_, rfl⟩
  rw [show ((M : Int) % 10 + 1) = (n : Int) by omega, show ((K : Int) % 10) = (k0 : Int) by omega]
  have hk9 : k0 ≤ 9 := by omega
  clear m1 m2 w1 w2 hn hk0
  go_loop [7, 8] (fun t i => ∃ j : Nat, j ≤ n ∧ t = .string (rep j) ∧ i = .int .i64 (j : Int)) (fun _ i => n - (intOf i).toNat)
  case atStart => exact ⟨0, Nat.zero_le _, rfl, rfl⟩
  case round =>
    obtain ⟨j, hj, rfl, rfl⟩ := hrel
    have hs := rep_size j
    by_cases hlt : j < n
    · have qd : decide ((j : Int) < (n : Int)) = true := decide_eq_true (by omega)
      have hw : IntKind.i64.wrap ((j : Int) + 1) = ((j + 1 : Nat) : Int) := by rw [IntWalk.i64_in _ (by omega)]; omega
      have hsz : (rep j).size + 6 ≤ 9223372036854775807 := by omega
      go_wp2
      go_round
      case measure => simp [intOf]; omega
      case rel => exact ⟨j + 1, by omega, rfl, rfl⟩
    · obtain rfl : j = n := by omega
      have qd : decide ((j : Int) < (j : Int)) = false := decide_eq_false (by omega)
      by_cases hge : j ≤ k0
      · have q2 : decide ((k0 : Int) ≥ (j : Int)) = true := decide_eq_true (by omega)
        have q3 : decide ((j : Int) ≤ (k0 : Int)) = true := decide_eq_true (by omega)
        obtain ⟨m, rfl⟩ : ∃ m, j = m + 1 := ⟨j - 1, by omega⟩
        have hw : IntKind.i64.wrap ((m : Int) + 1 - 1) = (m : Int) := by rw [show (m : Int) + 1 - 1 = (m : Int) by omega]; exact IntWalk.i64_in _ (by omega)
        have hw2 : IntKind.i64.wrap (m : Int) = (m : Int) := IntWalk.i64_in _ (by omega)
        have hw3 : IntKind.i64.wrap (((m + 1 : Nat) : Int) - 1) = (m : Int) := by rw [show ((m + 1 : Nat) : Int) - 1 = (m : Int) by omega]; exact hw2
        have q4 : decide ((m : Int) + 1 ≤ (k0 : Int)) = true := decide_eq_true (by omega)
        have hs := rep_size (m + 1)
        have w6 : IntKind.i64.wrap (6 * (m : Int)) = 6 * (m : Int) := IntWalk.i64_in _ (by omega)
        obtain ⟨P, hP⟩ : ∃ P, P = (rep (m + 1)).extract 0 (6 * m) := ⟨_, rfl⟩
        obtain ⟨S, hS⟩ : ∃ S, S = (rep (m + 1)).extract (6 * m) (rep (m + 1)).size := ⟨_, rfl⟩
        have hPs : P.size ≤ 100 := by rw [hP, ByteArray.size_extract]; omega
        have hSs : S.size ≤ 100 := by rw [hS, ByteArray.size_extract]; omega
        have hkn : m < m + 1 := by omega
        have hmb := more_bad (m + 1) (by omega) m hkn
        obtain ⟨ts1, z1, ht1, hl1, hp1⟩ := bad_is hmb.1
        obtain ⟨ts2, z2, ht2, hl2, hp2⟩ := bad_is hmb.2
        unfold moreT at ht1 ht2
        rw [← hP, ← hS] at ht1 ht2
        have hsl1 : ∀ W, (Instr.slice 9 (.string (rep (m + 1))) none (some (.int .i64 (6 * (m : Int)))) none).run Try.prog W = .ok (.string P) W := by
          intro W
          rw [hP, run_slice_string_h (P := Try.prog) W 9 (rep (m + 1)) Try.underlying9 .i64 (6 * (m : Int)) (by omega) (by omega), show (6 * (m : Int)).toNat = 6 * m by omega]
        have hsl2 : ∀ W, (Instr.slice 9 (.string (rep (m + 1))) (some (.int .i64 (6 * (m : Int)))) none none).run Try.prog W = .ok (.string S) W := by
          intro W
          rw [hS, run_slice_string_l (P := Try.prog) W 9 (rep (m + 1)) Try.underlying9 .i64 (6 * (m : Int)) (by omega) (by omega), show (6 * (m : Int)).toNat = 6 * m by omega]
        have hz1 : P.size + 1 ≤ 9223372036854775807 := by omega
        have hz2 : P.size + 1 + S.size ≤ 9223372036854775807 := by omega
        have x1 : ((6 * m : Nat) : Int) = 6 * (m : Int) := by omega
        rw [x1] at hp1 hp2
        have HP1 := Lib.hid hp1
        have HP2 := Lib.hid hp2
        have HT1 := Lib.hid ht1
        have HT2 := Lib.hid ht2
        clear hP hS hmb hp1 hp2 ht1 ht2 x1 hs
        go_wp2_with (fail)
        go_quiet (fail)
        obtain ⟨wx, hwx⟩ : ∃ wx, wx = w.drewN nq := ⟨_, rfl⟩
        rw [← hwx]
        have hbx : Below w.heap.size w wx := by rw [hwx]; exact pw_below_drewN (Below.refl _ w) _
        clear hwx
        have HBX := Lib.hid hbx
        clear hbx
        go_wp2_with (fail)
        go_quiet (fail)
        obtain ⟨wy, hwy⟩ : ∃ wy, wy = wx.drewN nq := ⟨_, rfl⟩
        rw [← hwy]
        have HBY : Hid (Below w.heap.size w wy) := by rw [hwy]; exact pw_below_drewN HBX.out _
        clear hwy hz1 hz2 hPs hSs hsl1 hsl2 hs
        go_wp2_with (fail)
        refine (lex_Tokens.calls _ ts1 z1 0 _ HT1.out).mono ?_
        rintro e w1 ⟨v1, rfl, hR1, hb1⟩
        obtain ⟨A1, c1, rfl, hr1⟩ := TRow_of_R hR1
        have HR1 := Lib.hid hr1
        have HB1 := Lib.hid hb1
        clear hR1 hr1 hb1
        go_wp2_with (fail)
        refine (lex_Tokens.calls _ ts2 z2 0 _ HT2.out).mono ?_
        rintro e w2 ⟨v2, rfl, hR2, hb2⟩
        obtain ⟨A2, c2, rfl, hr2⟩ := TRow_of_R hR2
        have HR2 := Lib.hid hr2
        have HB2 := Lib.hid hb2
        clear hR2 hr2 hb2
        go_wp2_with (fail)
        refine (parse_calls _ A1 c1 ts1 (HR1.out.below HB2.out) hl1).mono ?_
        rintro e w3 hE
        rw [HP1.out] at hE
        obtain ⟨rfl, hb3⟩ := hE
        have HB3 := Lib.hid hb3
        clear hb3
        go_wp2_with (fail)
        refine (parse_calls _ A2 c2 ts2 (HR2.out.below HB3.out) hl2).mono ?_
        rintro e w4 hE
        rw [HP2.out] at hE
        obtain ⟨rfl, hb4⟩ := hE
        have HB4 := Lib.hid hb4
        clear hb4
        go_wp2
        refine bodyPost_ret (v := .bool true) (by simp [results, Try.results11, go_sem]) rfl ⟨rfl, ?_⟩
        exact below_then (below_then (below_then (below_then HBY.out HBY.out.size HB1.out) (Nat.le_trans HBY.out.size HB1.out.size) HB2.out) (Nat.le_trans HBY.out.size (Nat.le_trans HB1.out.size HB2.out.size)) HB3.out) (Nat.le_trans HBY.out.size (Nat.le_trans HB1.out.size (Nat.le_trans HB2.out.size HB3.out.size))) HB4.out
      · have q2 : decide ((k0 : Int) ≥ (j : Int)) = false := decide_eq_false (by omega)
        have q3 : decide ((j : Int) ≤ (k0 : Int)) = false := decide_eq_false (by omega)
        have hs := rep_size (j)
        have w6 : IntKind.i64.wrap (6 * (k0 : Int)) = 6 * (k0 : Int) := IntWalk.i64_in _ (by omega)
        obtain ⟨P, hP⟩ : ∃ P, P = (rep (j)).extract 0 (6 * k0) := ⟨_, rfl⟩
        obtain ⟨S, hS⟩ : ∃ S, S = (rep (j)).extract (6 * k0) (rep (j)).size := ⟨_, rfl⟩
        have hPs : P.size ≤ 100 := by rw [hP, ByteArray.size_extract]; omega
        have hSs : S.size ≤ 100 := by rw [hS, ByteArray.size_extract]; omega
        have hkn : k0 < j := by omega
        have hmb := more_bad (j) (by omega) k0 hkn
        obtain ⟨ts1, z1, ht1, hl1, hp1⟩ := bad_is hmb.1
        obtain ⟨ts2, z2, ht2, hl2, hp2⟩ := bad_is hmb.2
        unfold moreT at ht1 ht2
        rw [← hP, ← hS] at ht1 ht2
        have hsl1 : ∀ W, (Instr.slice 9 (.string (rep (j))) none (some (.int .i64 (6 * (k0 : Int)))) none).run Try.prog W = .ok (.string P) W := by
          intro W
          rw [hP, run_slice_string_h (P := Try.prog) W 9 (rep (j)) Try.underlying9 .i64 (6 * (k0 : Int)) (by omega) (by omega), show (6 * (k0 : Int)).toNat = 6 * k0 by omega]
        have hsl2 : ∀ W, (Instr.slice 9 (.string (rep (j))) (some (.int .i64 (6 * (k0 : Int)))) none none).run Try.prog W = .ok (.string S) W := by
          intro W
          rw [hS, run_slice_string_l (P := Try.prog) W 9 (rep (j)) Try.underlying9 .i64 (6 * (k0 : Int)) (by omega) (by omega), show (6 * (k0 : Int)).toNat = 6 * k0 by omega]
        have hz1 : P.size + 1 ≤ 9223372036854775807 := by omega
        have hz2 : P.size + 1 + S.size ≤ 9223372036854775807 := by omega
        have x1 : ((6 * k0 : Nat) : Int) = 6 * (k0 : Int) := by omega
        rw [x1] at hp1 hp2
        have HP1 := Lib.hid hp1
        have HP2 := Lib.hid hp2
        have HT1 := Lib.hid ht1
        have HT2 := Lib.hid ht2
        clear hP hS hmb hp1 hp2 ht1 ht2 x1 hs
        go_wp2_with (fail)
        go_quiet (fail)
        obtain ⟨wx, hwx⟩ : ∃ wx, wx = w.drewN nq := ⟨_, rfl⟩
        rw [← hwx]
        have hbx : Below w.heap.size w wx := by rw [hwx]; exact pw_below_drewN (Below.refl _ w) _
        clear hwx
        have HBX := Lib.hid hbx
        clear hbx
        go_wp2_with (fail)
        go_quiet (fail)
        obtain ⟨wy, hwy⟩ : ∃ wy, wy = wx.drewN nq := ⟨_, rfl⟩
        rw [← hwy]
        have HBY : Hid (Below w.heap.size w wy) := by rw [hwy]; exact pw_below_drewN HBX.out _
        clear hwy hz1 hz2 hPs hSs hsl1 hsl2 hs
        go_wp2_with (fail)
        refine (lex_Tokens.calls _ ts1 z1 0 _ HT1.out).mono ?_
        rintro e w1 ⟨v1, rfl, hR1, hb1⟩
        obtain ⟨A1, c1, rfl, hr1⟩ := TRow_of_R hR1
        have HR1 := Lib.hid hr1
        have HB1 := Lib.hid hb1
        clear hR1 hr1 hb1
        go_wp2_with (fail)
        refine (lex_Tokens.calls _ ts2 z2 0 _ HT2.out).mono ?_
        rintro e w2 ⟨v2, rfl, hR2, hb2⟩
        obtain ⟨A2, c2, rfl, hr2⟩ := TRow_of_R hR2
        have HR2 := Lib.hid hr2
        have HB2 := Lib.hid hb2
        clear hR2 hr2 hb2
        go_wp2_with (fail)
        refine (parse_calls _ A1 c1 ts1 (HR1.out.below HB2.out) hl1).mono ?_
        rintro e w3 hE
        rw [HP1.out] at hE
        obtain ⟨rfl, hb3⟩ := hE
        have HB3 := Lib.hid hb3
        clear hb3
        go_wp2_with (fail)
        refine (parse_calls _ A2 c2 ts2 (HR2.out.below HB3.out) hl2).mono ?_
        rintro e w4 hE
        rw [HP2.out] at hE
        obtain ⟨rfl, hb4⟩ := hE
        have HB4 := Lib.hid hb4
        clear hb4
        go_wp2
        refine bodyPost_ret (v := .bool true) (by simp [results, Try.results11, go_sem]) rfl ⟨rfl, ?_⟩
        exact below_then (below_then (below_then (below_then HBY.out HBY.out.size HB1.out) (Nat.le_trans HBY.out.size HB1.out.size) HB2.out) (Nat.le_trans HBY.out.size (Nat.le_trans HB1.out.size HB2.out.size)) HB3.out) (Nat.le_trans HBY.out.size (Nat.le_trans HB1.out.size (Nat.le_trans HB2.out.size HB3.out.size))) HB4.out
end Go.Proofs.Ytiojfdgagdofiaa.HP
