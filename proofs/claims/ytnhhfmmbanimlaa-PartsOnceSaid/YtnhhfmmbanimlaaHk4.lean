/-
The contract of perm.Number, over the translation: an order's number.
-/
import Derived.Test.YtnhhfmmbanimlaaHk2
set_option linter.unusedVariables false
set_option linter.unusedSimpArgs false
namespace Go.Proofs.Ytnhhfmmbanimlaa.HK
open Go.RowKit Go.Proofs.YtnhhfmmbanimlaaW.PrintWords Go.Proofs.YtnhhfmmbanimlaaW.PrintLast Go.Proofs.YtnhhfmmbanimlaaW.PrintMore

def perm_Number.f (l0 : List Int) : Option (Int × Int) := if rightOf l0 then some ((numberOf l0 0 : Nat), 0) else some (0, 3)
/-- 'xs[k+1:]', as the walk asks it. -/
theorem cut_next (A : Option Addr) (n c k : Nat) (h : k + 1 ≤ n) : ∃ A' : Option Addr, (∀ W : World, (Instr.slice 22 (.slice A n c) (some (.int .i64 ((k : Int) + 1))) none none).run Try.prog W = .ok (.slice A' (n - (k + 1)) (c - (k + 1))) W) ∧
    ∀ (w : World) (xs : List Int), n ≤ c → ReadsInt w .i64 A n xs → ReadsInt w .i64 A' (n - (k + 1)) (xs.drop (k + 1)) := by
  obtain ⟨i, hi, hzz⟩ := Option.map_eq_some_iff.1 info3
  simp only [Prod.mk.injEq] at hzz
  obtain ⟨A', h1, h2⟩ := print_cut (P := Try.prog) 22 3 .i64 Try.underlying22 hi hzz.2.1 A n c (k + 1) h
  exact ⟨A', h1, fun w xs hc hr => h2 w .i64 xs hc hr⟩
set_option maxHeartbeats 1000000 in
theorem number_bad (A0 : Option Addr) (c0 : Nat) (l0 : List Int) (w : World) (hr0 : Kd.C (Kd.int .i64) w A0 l0.length l0) (hc0 : l0.length ≤ c0) (h : rightOf l0 = false) :
    Calls Try.prog 20 #[.slice A0 l0.length c0] w fun e w' => e = .returned (.tuple #[.int .u64 0, .int .i64 3]) ∧ Below w.heap.size w w' := by
  have hR : Hid (perm_Right.f l0 = some false) := by show some (rightOf l0) = _; rw [h]
  clear h
  have HR := Lib.hid hr0
  clear hr0
  go_enter Try.func20, Try.ntmps20
  go_wp2_with (go_at_call 25; refine (perm_Right.calls A0 c0 l0 false _ HR.out hc0 hR.out).mono ?_; rintro e w' ⟨rfl, hb⟩)
  go_ret2
  exact ⟨rfl, hb⟩
set_option maxHeartbeats 1000000 in
theorem number_good (A0 : Option Addr) (c0 : Nat) (l0 : List Int) (w : World) (hr0 : Kd.C (Kd.int .i64) w A0 l0.length l0) (hc0 : l0.length ≤ c0) (h : rightOf l0 = true) :
    Calls Try.prog 20 #[.slice A0 l0.length c0] w fun e w' => e = .returned (.tuple #[.int .u64 (numberOf l0 0 : Nat), .int .i64 0]) ∧ Below w.heap.size w w' := by
  have h16 := (rightOf_ok h).1
  have hR : Hid (perm_Right.f l0 = some true) := by show some (rightOf l0) = _; rw [h]
  clear h
  have HR := Lib.hid hr0
  clear hr0
  go_enter Try.func20, Try.ntmps20
  go_wp2_with (go_at_call 25; refine (perm_Right.calls A0 c0 l0 true _ HR.out hc0 hR.out).mono ?_; rintro e w1 ⟨rfl, hb⟩)
  have HR1 := Lib.hid (Kd.C_below HR.out hb)
  clear HR
  go_loop [4, 14] (fun m i => ∃ (k a : Nat), k ≤ l0.length ∧ i = .int .i64 k ∧ m = .int .u64 a ∧ Hid ((a + 1) * fac (l0.length - k) ≤ fac l0.length) ∧ Hid (numberOf (l0.drop k) a = numberOf l0 0)) (fun _ i => l0.length - (intOf i).toNat)
  case atStart => exact ⟨0, 0, Nat.zero_le _, rfl, rfl, by rw [Nat.zero_add, Nat.one_mul, Nat.sub_zero]; exact Nat.le_refl _, by rw [List.drop_zero]; exact rfl⟩
  case round =>
    obtain ⟨k, a, hk, rfl, rfl, hbd, heq⟩ := hrel
    by_cases hlt : k < l0.length
    · obtain ⟨ad, rfl, hc⟩ := Kd.at_int HR1.out (k : Int) (by omega) (by omega)
      obtain ⟨x, hx⟩ : ∃ x, x = l0.getD k 0 := ⟨_, rfl⟩
      have hc' : w1.cell? (ad.add k) = some (.int .i64 x) := by rw [hx]; exact hc
      clear hc
      have hX := Lib.hid hx
      clear hx
      obtain ⟨A', hcut, hA'⟩ := cut_next (some ad) l0.length c0 k hlt
      have HR2 := Lib.hid (hA' w1 l0 hc0 (readsInt_of_C HR1.out))
      clear hA'
      have hsm := number_small h16 hbd.out
      have hml : Hid (a * (l0.length - k) ≤ 20922789888000) := by
        have := number_small h16 (number_bound hlt hbd.out (Nat.zero_le _))
        exact (by omega : a * (l0.length - k) ≤ 20922789888000)
      obtain ⟨b, hb⟩ : ∃ b, b = a * (l0.length - k) := ⟨_, rfl⟩
      have hb20 : b ≤ 20922789888000 := by rw [hb]; exact hml.out
      have eM : IntKind.u64.wrap ((a : Int) * ((l0.length : Int) - (k : Int))) = (b : Int) := by
        have : (a : Int) * ((l0.length : Int) - (k : Int)) = (b : Int) := by
          rw [hb, Int.natCast_mul, Int.natCast_sub hk]
        rw [this]
        exact IntWalk.u64_in _ ⟨by omega, by omega⟩
      have hB := Lib.hid hb
      clear hb hml
      go_wp2
      go_step3
      go_wp2
      go_step3
      go_wp2
      clear hcut eM
      go_loop [4, 31] (fun m i => ∃ (j : Nat), j ≤ l0.length - (k + 1) ∧ i = .int .i64 j ∧ m = .int .u64 ((b + lessIn x ((l0.drop (k + 1)).take j) : Nat))) (fun _ i => l0.length - (intOf i).toNat)
      case atStart => exact ⟨0, Nat.zero_le _, rfl, rfl⟩
      case round =>
        obtain ⟨j, hj, rfl, rfl⟩ := hrel
        have hls := lessIn_le x ((l0.drop (k + 1)).take j)
        have hls2 : ((l0.drop (k + 1)).take j).length ≤ j := List.length_take_le _ _
        by_cases hlt2 : j < l0.length - (k + 1)
        · obtain ⟨ad2, rfl, hc2⟩ := ReadsInt.at_ HR2.out (j : Int) (by omega) (by omega)
          obtain ⟨y, hy⟩ : ∃ y, y = (l0.drop (k + 1)).getD j 0 := ⟨_, rfl⟩
          have hc2' : w1.cell? (ad2.add j) = some (.int .i64 y) := by rw [hy]; exact hc2
          clear hc2
          have hstep : Hid ((l0.drop (k + 1)).take (j + 1) = (l0.drop (k + 1)).take j ++ [y]) := by rw [hy]; exact take_snoc (by rw [List.length_drop]; exact hlt2)
          clear hy
          obtain ⟨c, hcdef⟩ : ∃ c, c = lessIn x ((l0.drop (k + 1)).take j) := ⟨_, rfl⟩
          rw [← hcdef] at hls ⊢
          have hC := Lib.hid hcdef
          clear hcdef
          by_cases hyx : x < y
          · go_wp2
            go_round
            case measure => simp [intOf]; omega
            case rel => exact ⟨j + 1, by omega, by go_num, by rw [hstep.out, lessIn_snoc, if_neg (by omega), ← hC.out]; rfl⟩
          · go_wp2
            go_round
            case measure => simp [intOf]; omega
            case rel => exact ⟨j + 1, by omega, by go_num, by rw [hstep.out, lessIn_snoc, if_pos (by omega), ← hC.out]; go_num⟩
        · go_wp2
          have hall : Hid ((l0.drop (k + 1)).take j = l0.drop (k + 1)) := List.take_of_length_le (by rw [List.length_drop]; omega)
          have hle := lessIn_le x (l0.drop (k + 1))
          go_round
          case measure => simp [intOf]; omega
          case rel =>
            refine ⟨k + 1, b + lessIn x ((l0.drop (k + 1)).take j), by omega, by go_num, rfl, ?_, ?_⟩
            · rw [hall.out, hB.out]
              exact number_bound hlt hbd.out (by rw [List.length_drop] at hle; exact hle)
            · have := numberOf_step (m := a) hlt
              rw [heq.out, ← hX.out, ← hB.out] at this
              rw [hall.out]
              exact this.symm
    · go_wp2
      go_ret2
      obtain rfl : k = l0.length := by omega
      refine ⟨?_, hb⟩
      have := heq.out
      rw [List.drop_length, numberOf] at this
      rw [← this]
      rfl
theorem perm_Number.calls (A0 : Option Addr) (c0 : Nat) (l0 : List Int) (r1 r2 : Int) (w : World) (hr0 : Kd.C (Kd.int .i64) w A0 l0.length l0) (hc0 : l0.length ≤ c0) (h : perm_Number.f l0 = some (r1, r2)) :
    Calls Try.prog 20 #[.slice A0 l0.length c0] w fun e w' => e = .returned (.tuple #[.int .u64 r1, .int .i64 r2]) ∧ Below w.heap.size w w' := by
  unfold perm_Number.f at h
  split at h
  case isTrue h1 =>
    simp only [Option.some.injEq, Prod.mk.injEq] at h
    obtain ⟨rfl, rfl⟩ := h
    exact number_good A0 c0 l0 w hr0 hc0 h1
  case isFalse h1 =>
    simp only [Option.some.injEq, Prod.mk.injEq] at h
    obtain ⟨rfl, rfl⟩ := h
    exact number_bad A0 c0 l0 w hr0 hc0 (by simpa using h1)
end Go.Proofs.Ytnhhfmmbanimlaa.HK
