/-
TopDigits' walk.
-/
import Derived.Test.YtbldlmolbdkabaaDigA
import Derived.Test.YtbldlmolbdkabaaDigC
set_option linter.unusedVariables false
set_option linter.unusedSimpArgs false
namespace Go.Proofs.Ytbldlmolbdkabaa.HK
open Go.RowKit Go.Proofs.YtbldlmolbdkabaaW.PrintWords Go.Proofs.YtbldlmolbdkabaaW.PrintLast Go.Proofs.YtbldlmolbdkabaaW.PrintMore Go.Proofs.Ytbldlmolbdkabaa.HC

theorem parse_digits {a : Int} (h : inW a) (w : World) :
    Calls Try.prog 7 #[.string (strOfNums (digitsOf a))] w fun e w' => e = .returned (.tuple #[.int .i64 a, .int .i64 0]) ∧ Below w.heap.size w w' := by
  obtain ⟨k, hk⟩ := (parse_ev (strOfNums (digitsOf a))).rounds
  rw [codes_str _ (digitsOf_byte a), parseOf_digits h] at hk
  exact num_Parse.calls k _ _ _ w hk
def low32 (a : Int) : Int := wrap64 (wrap32 a)
theorem narrow32 (a : Int) (w : World) : Calls Try.prog 10 #[.int .i64 32, .int .i64 a] w fun e w' => e = .returned (.int .i64 (low32 a)) ∧ Drawn0 w w' :=
  num_Narrow.calls 32 a _ w (by unfold num_Narrow.f; rw [if_neg (by decide), if_neg (by decide), if_pos rfl]; rfl)
theorem narrow8 (a : Int) (w : World) : Calls Try.prog 10 #[.int .i64 8, .int .i64 a] w fun e w' => e = .returned (.int .i64 (wrap64 (IntKind.i8.wrap a))) ∧ Drawn0 w w' :=
  num_Narrow.calls 8 a _ w (by unfold num_Narrow.f; rw [if_pos rfl])
theorem shr_at (a : Int) (n : Nat) (hn : n < 64) (w : World) : Calls Try.prog 11 #[.int .i64 a, .int .i64 (n : Int)] w fun e w' => e = .returned (.int .i64 (a / 2 ^ n)) ∧ Drawn0 w w' := by
  have e : IntKind.u64.wrap (n : Int) = (n : Int) := IntWalk.u64_in _ ⟨by omega, by omega⟩
  have e2 : Int.tmod (n : Int) 64 = (n : Int) := by rw [Int.tmod_eq_emod_of_nonneg (by omega)]; omega
  refine num_Shr.calls a n _ w ?_
  unfold num_Shr.f
  rw [e, e2, if_pos (by omega)]
  congr 1
  unfold shr
  rw [Nat.min_eq_left (by simp [IntKind.bits]; omega)]
  simp
theorem shl_at (a : Int) (n : Nat) (hn : n < 64) (w : World) : Calls Try.prog 13 #[.int .i64 a, .int .i64 (n : Int)] w fun e w' => e = .returned (.int .i64 (wrap64 (a * 2 ^ n))) ∧ Drawn0 w w' := by
  have e : IntKind.u64.wrap (n : Int) = (n : Int) := IntWalk.u64_in _ ⟨by omega, by omega⟩
  have e2 : Int.tmod (n : Int) 64 = (n : Int) := by rw [Int.tmod_eq_emod_of_nonneg (by omega)]; omega
  refine num_Shl.calls a n _ w ?_
  unfold num_Shl.f
  rw [e, e2, if_pos (by omega)]
  congr 1
  unfold shl
  rw [Nat.min_eq_left (by simp [IntKind.bits]; omega)]
  simp only [Int.toNat_natCast]
  rw [IntKind.wrap_i64]; unfold wrap64; rfl
theorem sub_at (a b : Int) (w : World) : Calls Try.prog 14 #[.int .i64 a, .int .i64 b] w fun e w' => e = .returned (.int .i64 (wrap64 (a - b))) ∧ Drawn0 w w' := num_Sub.calls a b _ w rfl
theorem add_at (a b : Int) (w : World) : Calls Try.prog 12 #[.int .i64 a, .int .i64 b] w fun e w' => e = .returned (.int .i64 (wrap64 (a + b))) ∧ Drawn0 w w' := num_Add.calls a b _ w rfl
/-- Moved back. -/
theorem halves {a : Int} (h : inW a) : wrap64 (wrap64 (wrap64 (a / 2 ^ 32 - low32 a / 2 ^ 32) * 2 ^ 32) + low32 a) = a := by
  unfold inW at h
  unfold low32 wrap32
  have e : (2 : Int) ^ 32 = 4294967296 := by decide
  rw [e]
  unfold wrap64
  omega
theorem lowest {a : Int} (h : inW a) : wrap64 (IntKind.i8.wrap a) = wrap64 (a * 2 ^ 56) / 2 ^ 56 := by
  unfold inW at h
  have e : (2 : Int) ^ 56 = 72057594037927936 := by decide
  rw [e]
  simp [IntKind.wrap, IntKind.bits, IntKind.signed]
  unfold wrap64
  omega
theorem bytes_calls2 (a : Int) (w : World) :
    Calls Try.prog 6 #[.int .i64 a] w fun e w' => e = .returned (.agg #[.int .u8 (byteOf a 0), .int .u8 (byteOf a 1), .int .u8 (byteOf a 2), .int .u8 (byteOf a 3), .int .u8 (byteOf a 4), .int .u8 (byteOf a 5), .int .u8 (byteOf a 6), .int .u8 (byteOf a 7)]) ∧ Below w.heap.size w w' := bytes_calls a w
set_option maxHeartbeats 4000000 in
theorem digits_walk (a : Int) (w : World) (h : inW a) : Calls Try.prog 3 #[.int .i64 a] w fun e w' => e = .returned (.bool true) ∧ Below w.heap.size w w' := by
  have HB := Lib.hid (bytes_calls2 a)
  have HJ := Lib.hid (fun w => join_calls (byteOf a) (fun i _ => byteOf_in a i) w)
  have HJ2 : Hid (∀ w, Calls Try.prog 9 #[.agg #[.int .u8 (byteOf a 0), .int .u8 (byteOf a 1), .int .u8 (byteOf a 2), .int .u8 (byteOf a 3), .int .u8 (byteOf a 4), .int .u8 (byteOf a 5), .int .u8 (byteOf a 6), .int .u8 (byteOf a 7)]] w fun e w' => e = .returned (.int .i64 a) ∧ Below w.heap.size w w') := by
    intro w
    have := HJ.out w
    rw [join_bytes h] at this
    exact this
  have HD := Lib.hid (fun w => digits_calls a w h)
  have HP := Lib.hid (fun w => parse_digits h w)
  have HN := Lib.hid (narrow32 a)
  have HH := Lib.hid (shr_at a 32 (by decide))
  have HN8 := Lib.hid (narrow8 a)
  have HL56 := Lib.hid (shl_at a 56 (by decide))
  have HR56 := Lib.hid (shr_at (wrap64 (a * 2 ^ 56)) 56 (by decide))
  have HLS := Lib.hid (shr_at (low32 a) 32 (by decide))
  have HSB := Lib.hid (sub_at (a / 2 ^ 32) (low32 a / 2 ^ 32))
  have HSH := Lib.hid (shl_at (wrap64 (a / 2 ^ 32 - low32 a / 2 ^ 32)) 32 (by decide))
  have HAD := Lib.hid (add_at (wrap64 (wrap64 (a / 2 ^ 32 - low32 a / 2 ^ 32) * 2 ^ 32)) (low32 a))
  rw [halves h] at HAD
  rw [← lowest h] at HR56
  clear HJ h
  generalize byteOf a 0 = b0 at *
  generalize byteOf a 1 = b1 at *
  generalize byteOf a 2 = b2 at *
  generalize byteOf a 3 = b3 at *
  generalize byteOf a 4 = b4 at *
  generalize byteOf a 5 = b5 at *
  generalize byteOf a 6 = b6 at *
  generalize byteOf a 7 = b7 at *
  generalize digitsOf a = dg at *
  generalize strOfNums dg = st at *
  generalize wrap64 (wrap64 (a / 2 ^ 32 - low32 a / 2 ^ 32) * 2 ^ 32) = sh at *
  generalize wrap64 (a / 2 ^ 32 - low32 a / 2 ^ 32) = d at *
  generalize low32 a / 2 ^ 32 = ls at *
  generalize low32 a = low at *
  generalize a / 2 ^ 32 = hi at *
  generalize wrap64 (a * 2 ^ 56) = s56 at *
  generalize wrap64 (IntKind.i8.wrap a) = n8 at *
  go_enter Try.func3, Try.ntmps3
  go_wp2_with (fail)
  refine (HB.out _).mono ?_
  rintro e w1 ⟨rfl, hb1⟩
  go_wp2_with (fail)
  refine (HJ2.out _).mono ?_
  rintro e w2 ⟨rfl, hb2⟩
  go_wp2_with (fail)
  refine (HD.out _).mono ?_
  rintro e w3 ⟨rfl, hb3⟩
  go_wp2_with (fail)
  refine (HP.out _).mono ?_
  rintro e w4 ⟨rfl, hb4⟩
  have HBB : Hid (Below w.heap.size w w4) := by
    have h1 := hb1.alloc hb1.size (.cells #[.int .u8 b0, .int .u8 b1, .int .u8 b2, .int .u8 b3, .int .u8 b4, .int .u8 b5, .int .u8 b6, .int .u8 b7] 23)
    have h2 := below_then h1 h1.size hb2
    have h3 := below_then h2 h2.size hb3
    exact below_then h3 h3.size hb4
  clear hb1 hb2 hb3 hb4
  go_wp2_with (fail)
  refine (HN.out _).mono ?_
  rintro e w' ⟨rfl, q1, rfl⟩
  go_wp2_with (fail)
  refine (HH.out _).mono ?_
  rintro e w' ⟨rfl, q2, rfl⟩
  go_wp2_with (fail)
  refine (HLS.out _).mono ?_
  rintro e w' ⟨rfl, q3, rfl⟩
  go_wp2_with (fail)
  refine (HSB.out _).mono ?_
  rintro e w' ⟨rfl, q4, rfl⟩
  go_wp2_with (fail)
  refine (HSH.out _).mono ?_
  rintro e w' ⟨rfl, q5, rfl⟩
  go_wp2_with (fail)
  refine (HAD.out _).mono ?_
  rintro e w' ⟨rfl, q6, rfl⟩
  go_wp2_with (fail)
  refine (HN8.out _).mono ?_
  rintro e w' ⟨rfl, q7, rfl⟩
  go_wp2_with (fail)
  refine (HL56.out _).mono ?_
  rintro e w' ⟨rfl, q8, rfl⟩
  go_wp2_with (fail)
  refine (HR56.out _).mono ?_
  rintro e w' ⟨rfl, q9, rfl⟩
  go_wp2
  go_ret
  exact ⟨rfl, pw_below_drewN HBB.out _⟩
theorem wf_inW {a : Int} (h : (Lit.int .i64 a).wf = true) : inW a := by
  simpa [inW, Lit.wf, IntKind.min, IntKind.max, IntKind.bits, IntKind.signed] using h
end Go.Proofs.Ytbldlmolbdkabaa.HK
