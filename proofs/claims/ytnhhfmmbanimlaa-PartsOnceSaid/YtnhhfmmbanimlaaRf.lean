/-
The contracts of the statements' own helpers few and live, over the translation.
-/
import Derived.Test.YtnhhfmmbanimlaaRe
set_option linter.unusedVariables false
set_option linter.unusedSimpArgs false
namespace Go.Proofs.Ytnhhfmmbanimlaa.HP
open Go.RowKit Go.Proofs.Ytnhhfmmbanimlaa.HK Go.Proofs.Ytnhhfmmbanimlaa.HQ Go.Proofs.YtnhhfmmbanimlaaW.PrintWords Go.Proofs.YtnhhfmmbanimlaaW.PrintLast Go.Proofs.YtnhhfmmbanimlaaW.PrintMore

theorem IsInts.take {w : World} {A : Option Addr} {c : Nat} {l : List Int} (h : IsInts w A c l) (m : Nat) (hm : m ≤ l.length) : IsInts w A c (l.take m) :=
  ⟨by rw [List.length_take]; have := h.1; omega, Kd.C_take h.2 hm⟩
theorem few_calls (A : Option Addr) (c : Nat) (l : List Int) (w : World) (h : IsInts w A c l) :
    Calls Try.prog 13 #[.slice A l.length c] w fun e w' => e = .returned (.slice A (l.take 20).length c) ∧ IsInts w A c (l.take 20) ∧ w' = w := by
  have hc := h.1
  by_cases hl : 20 < l.length
  · have hI := Lib.hid (h.take 20 (by omega))
    have e20 : (l.take 20).length = 20 := by rw [List.length_take]; omega
    rw [e20]
    clear h e20
    go_enter Try.func13, Try.ntmps13
    go_wp2
    go_ret
    exact ⟨rfl, hI.out, rfl⟩
  · have e : l.take 20 = l := List.take_of_length_le (by omega)
    rw [e]
    have hI := Lib.hid h
    clear h e
    go_enter Try.func13, Try.ntmps13
    go_wp2
    go_ret
    exact ⟨rfl, hI.out, rfl⟩
theorem edges_lit (w : World) : IsEdges (w.alloc (.cells #[.int .i64 0, .int .i64 1, .int .i64 1, .int .i64 2] 30)) (some ⟨w.heap.size, 0, none⟩) 2 [(0, 1), (1, 2)] := by
  refine ⟨Nat.le_refl _, rfl, by decide, fun _ => ⟨_, rfl, fun j p hj => ?_⟩⟩
  have hb := blk_new w (.cells #[.int .i64 0, .int .i64 1, .int .i64 1, .int .i64 2] 30)
  match j, hj with
  | 0, hj =>
    obtain rfl : (0, 1) = p := by simpa using hj
    refine ⟨[.int .i64 0, .int .i64 1], rfl, ⟨_, _, rfl, rfl, rfl⟩, fun i u hu => ?_⟩
    match i, hu with
    | 0, hu => exact (blk_cell hb 0).trans hu
    | 1, hu => exact (blk_cell hb 1).trans hu
    | i + 2, hu => simp at hu
  | 1, hj =>
    obtain rfl : (1, 2) = p := by simpa using hj
    refine ⟨[.int .i64 1, .int .i64 2], rfl, ⟨_, _, rfl, rfl, rfl⟩, fun i u hu => ?_⟩
    match i, hu with
    | 0, hu => exact (blk_cell hb 2).trans hu
    | 1, hu => exact (blk_cell hb 3).trans hu
    | i + 2, hu => simp at hu
  | j + 2, hj => simp at hj
set_option maxHeartbeats 2000000 in
set_option maxRecDepth 100000 in
theorem live_calls (w : World) : Calls Try.prog 14 #[] w fun e w' => e = .returned (.bool true) ∧ Below w.heap.size w w' := by
  have hlit := IsInts.of_own (own_lit w w.heap.size 3 .i64 [0, 1, -1] (Nat.le_refl _) (by decide))
  obtain ⟨A, c, hv, hI⟩ := hlit
  have hA : A = some ⟨w.heap.size, 0, none⟩ := by injection hv with h1; exact h1.symm
  have hc : c = 3 := by injection hv with _ _ h3; exact h3.symm
  subst hA hc
  clear hv
  have HI := Lib.hid hI
  clear hI
  go_enter Try.func14, Try.ntmps14
  go_wp2_with (fail)
  refine (new_made 4 2 (some ⟨w.heap.size, 0, none⟩) 3 [0, 1, -1] _ (by omega) (by omega) HI.out).mono ?_
  rintro e wa ⟨g, rfl, hP, hg, hb1⟩
  have HB1 := Lib.hid (below_then ((Below.refl _ w).alloc (Nat.le_refl _) _) (by simp) hb1)
  have HP := Lib.hid hP
  clear hb1 hP HI
  go_wp2_with (fail)
  refine (members_calls g _ 4 2 1 _ (by omega) (by omega) HP.out).mono ?_
  rintro e wb ⟨A1, c1, rfl, hI, hb2⟩
  have e2 : nodesOf (workerAt 2 [0, 1, -1]) 4 1 = [1, 2] := by decide
  rw [e2] at hI ⊢
  clear e2
  have HB2 := Lib.hid (below_then HB1.out HB1.out.size hb2)
  have HP2 := Lib.hid (HP.out.below hb2)
  obtain ⟨ad, rfl, hcell⟩ := Kd.at_int hI.2 1 (by decide) (by decide)
  have hcell2 : wb.cell? ⟨ad.block, ad.off + 1, none⟩ = some (.int .i64 2) := hcell
  clear hb2 HB1 HP hI hcell
  go_wp2_with (fail)
  refine (of_calls g _ 4 2 3 _ HP2.out).mono ?_
  rintro e wc ⟨rfl, rfl⟩
  have e3 : ofAt (workerAt 2 [0, 1, -1]) 4 3 = 0 := by decide
  rw [e3]
  clear e3 hcell2
  go_wp2_with (fail)
  have HP3 := Lib.hid (HP2.out.below ((Below.refl _ wb).alloc (Nat.le_refl _) (.cells #[.int .i64 0, .int .i64 1, .int .i64 1, .int .i64 2] 30)))
  refine (cut_calls g _ 4 2 _ 2 [(0, 1), (1, 2)] _ HP3.out (edges_lit wb) (by decide)).mono ?_
  rintro e wd ⟨rfl, hb3⟩
  have HP4 := Lib.hid (HP3.out.below hb3)
  have HB3 := Lib.hid (below_then (HB2.out.alloc HB2.out.size (.cells #[.int .i64 0, .int .i64 1, .int .i64 1, .int .i64 2] 30)) (by have := HB2.out.size; simp; omega) hb3)
  have e3 : cutOf (workerAt 2 [0, 1, -1]) 4 [(0, 1), (1, 2)] = 1 := by decide
  rw [e3]
  clear hb3 HP2 HP3 HB2 e3
  go_wp2_with (fail)
  refine (even_calls g _ 4 2 _ (by omega) (by omega) HP4.out).mono ?_
  rintro e we ⟨rfl, n, rfl⟩
  have e3 : evenOf (workerAt 2 [0, 1, -1]) 4 2 = true := by decide
  rw [e3]
  clear e3
  go_wp2_with (fail)
  go_ret
  exact ⟨rfl, pw_below_drewN HB3.out n⟩
end Go.Proofs.Ytnhhfmmbanimlaa.HP
