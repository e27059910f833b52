/-
The contracts of Even and Order, over the translation.
-/
import Derived.Test.YtnhhfmmbanimlaaRd
import Derived.Test.YtnhhfmmbanimlaaQt
set_option linter.unusedVariables false
set_option linter.unusedSimpArgs false
namespace Go.Proofs.Ytnhhfmmbanimlaa.HP
open Go.RowKit Go.Proofs.Ytnhhfmmbanimlaa.HK Go.Proofs.Ytnhhfmmbanimlaa.HQ Go.Proofs.YtnhhfmmbanimlaaW.PrintWords Go.Proofs.YtnhhfmmbanimlaaW.PrintLast Go.Proofs.YtnhhfmmbanimlaaW.PrintMore

/-- How many nodes a worker has. -/
def lenAt (f : Nat → Nat) (n i : Nat) : Nat := (nodesOf f n i).length
def leastOf (f : Nat → Nat) (n : Nat) : Nat → Nat
  | 0 => n
  | k + 1 => min (leastOf f n k) (lenAt f n k)
def mostOf (f : Nat → Nat) (n : Nat) : Nat → Nat
  | 0 => 0
  | k + 1 => max (mostOf f n k) (lenAt f n k)
theorem leastOf_le (f : Nat → Nat) (n : Nat) : ∀ k, leastOf f n k ≤ n
  | 0 => Nat.le_refl _
  | k + 1 => Nat.le_trans (Nat.min_le_left _ _) (leastOf_le f n k)
theorem mostOf_le (f : Nat → Nat) (n : Nat) : ∀ k, mostOf f n k ≤ n
  | 0 => Nat.zero_le _
  | k + 1 => Nat.max_le.2 ⟨mostOf_le f n k, nodesOf_length_le f n k⟩
def evenOf (f : Nat → Nat) (n W : Nat) : Bool := decide (mostOf f n W < leastOf f n W + 2)
set_option maxHeartbeats 2000000 in
set_option maxRecDepth 100000 in
theorem even_calls (g : Nat) (f : Nat → Nat) (n W : Nat) (w : World) (hn : n ≤ 12) (hW : W ≤ 4) (h : IsParts w g f n W) :
    Calls Try.prog 40 #[.pointer (some ⟨g, 0, none⟩)] w fun e w' => e = .returned (.bool (evenOf f n W)) ∧ Drawn0 w w' := by
  obtain ⟨A0, c0, hc0, _, hc5⟩ := h.open_
  have HP := Lib.hid h
  clear h
  go_enter Try.func40, Try.ntmps40
  go_wp2
  have hsl : ∀ wq, (Instr.sliceAt 62 (.pointer (some ⟨g, 1, none⟩)) none (some (.int .i64 (W : Int))) none).run Try.prog wq = .ok (.slice (some ⟨g, 1, none⟩) W 4) wq := fun wq => by
    rw [run_sliceAt_array_h wq 62 ⟨g, 1, none⟩ (by kernel_rfl) .i64 (W : Int) (by omega) (by have : Try.prog.arrayLen 62 = 4 := by kernel_rfl
                                                                                             rw [this]; omega)]
    go_simp
  go_quiet (fail)
  go_wp2
  go_loop [3, 4, 23] (fun lv mv iv => ∃ k : Nat, k ≤ W ∧ iv = .int .i64 k ∧ lv = .int .i64 (leastOf f n k : Nat) ∧ mv = .int .i64 (mostOf f n k : Nat)) (fun _ _ iv => W - (intOf iv).toNat)
  case atStart => exact ⟨0, Nat.zero_le _, rfl, rfl, rfl⟩
  case round =>
    obtain ⟨k, hk, rfl, rfl, rfl⟩ := hrel
    by_cases hlt : k < W
    · obtain ⟨A, c, hcell, _⟩ := HP.out.row (show k < 4 by omega)
      have hcell2 : w.cell? ⟨g, 1 + k, none⟩ = some (.slice A (lenAt f n k) c) := hcell
      clear hcell
      have hq := nodesOf_length_le f n k
      have hl := leastOf_le f n k
      have hm := mostOf_le f n k
      have q : lenAt f n k ≤ 12 := Nat.le_trans hq hn
      have E1 : Hid (leastOf f n (k + 1) = min (leastOf f n k) (lenAt f n k)) := rfl
      have E2 : Hid (mostOf f n (k + 1) = max (mostOf f n k) (lenAt f n k)) := rfl
      generalize lenAt f n k = q0 at *
      generalize leastOf f n k = l0 at *
      generalize mostOf f n k = m0 at *
      go_wp2
      refine ⟨⟨k + 1, by omega, by go_num, by rw [E1.out]; congr 1; omega, by rw [E2.out]; congr 1; omega⟩, ?_⟩
      simp [intOf]; omega
    · obtain rfl : k = W := by omega
      have hl := leastOf_le f n k
      have hm := mostOf_le f n k
      have E : Hid (evenOf f n k = decide (mostOf f n k < leastOf f n k + 2)) := rfl
      generalize leastOf f n k = l0 at *
      generalize mostOf f n k = m0 at *
      go_wp2
      go_ret
      rw [E.out]
      have e : decide ((m0 : Int) - l0 < 2) = decide (m0 < l0 + 2) := decide_eq_decide.2 (by omega)
      rw [← e]
      exact ⟨rfl, _, rfl⟩
/-- The order in which a worker takes its nodes. -/
def orderOf (f : Nat → Nat) (n i K : Nat) : List Int :=
  turned (fromOf (lenAt f n i) (upTo (lenAt f n i)) (fac (lenAt f n i)) (K % fac (lenAt f n i))) (nodesOf f n i)
set_option maxHeartbeats 1000000 in
theorem order_calls (g : Nat) (f : Nat → Nat) (n W i K : Nat) (w : World) (hi : i < 4) (hn : n ≤ 12) (hK : K ≤ 18446744073709551615) (h : IsParts w g f n W) :
    Calls Try.prog 43 #[.pointer (some ⟨g, 0, none⟩), .int .i64 i, .int .u64 K] w fun e w' => ∃ A c, e = .returned (.slice A (orderOf f n i K).length c) ∧ IsInts w' A c (orderOf f n i K) ∧ Below w.heap.size w w' := by
  have HP := Lib.hid h
  clear h
  have hq : Hid ((nodesOf f n i).length ≤ n) := nodesOf_length_le f n i
  obtain ⟨hPr, hPl, _⟩ := HQ.from_number (lenAt f n i) (K % fac (lenAt f n i)) (by unfold lenAt; have := hq.out; omega) (Nat.mod_lt _ (fac_pos _))
  have hO : Hid (orderOf f n i K = turned (fromOf (lenAt f n i) (upTo (lenAt f n i)) (fac (lenAt f n i)) (K % fac (lenAt f n i))) (nodesOf f n i)) := rfl
  generalize hP : fromOf (lenAt f n i) (upTo (lenAt f n i)) (fac (lenAt f n i)) (K % fac (lenAt f n i)) = P at *
  have HPP := Lib.hid hP
  have HPr := Lib.hid hPr
  have HPl := Lib.hid hPl
  clear hP hPr hPl
  go_enter Try.func43, Try.ntmps43
  go_wp2_with (fail)
  refine (members_calls g f n W i w hi hn HP.out).mono ?_
  rintro e wa ⟨A1, c1, rfl, hI, hb1⟩
  have HI := Lib.hid hI
  have HB := Lib.hid hb1
  clear hI hb1
  go_wp2_with (fail)
  refine (HQ.from_call (nodesOf f n i).length K P _ (by have := hq.out; omega) hK HPP.out).mono ?_
  rintro e wb ⟨A2, c2, rfl, hI2, hb2⟩
  have HI2 := Lib.hid hI2
  have HB2 := Lib.hid (below_then HB.out HB.out.size hb2)
  have HI1 := Lib.hid (HI.out.below hb2)
  clear hI2 hb2 HI HB
  go_wp2_with (fail)
  refine (HQ.turn_call P (nodesOf f n i) (turned P (nodesOf f n i)) _ _ _ _ _ HI2.out HI1.out ?tk).mono ?_
  case tk => unfold turnOf; rw [if_pos ⟨HPr.out, HPl.out.symm⟩]
  rintro e wc ⟨A3, c3, rfl, hI3, hb3⟩
  have HI3 := Lib.hid hI3
  have HB3 := Lib.hid (below_then HB2.out HB2.out.size hb3)
  clear hI3 hb3
  rw [← hO.out] at HI3 ⊢
  go_wp2
  go_ret
  exact ⟨A3, c3, rfl, HI3.out, HB3.out⟩
end Go.Proofs.Ytnhhfmmbanimlaa.HP
