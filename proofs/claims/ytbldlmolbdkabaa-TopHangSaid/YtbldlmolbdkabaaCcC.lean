/-
math/bits.Mul of small numbers, slices.Repeat of one number, over the translation.
-/
import Derived.Test.YtbldlmolbdkabaaCcB
import Derived.Deep.RegionLaw
import Derived.StillTailTactics
set_option linter.unusedVariables false
set_option linter.unusedSimpArgs false
namespace Go.Proofs.Ytbldlmolbdkabaa.HP
open Go.RowKit Go.Proofs.YtbldlmolbdkabaaW.PrintWords Go.Proofs.YtbldlmolbdkabaaW.PrintLast Go.Proofs.YtbldlmolbdkabaaW.PrintMore
set_option maxHeartbeats 16000000 in
set_option maxRecDepth 100000 in
theorem mul64_calls (w : World) (x : Int) (hx : 1 ≤ x ∧ x ≤ 12) : Calls Try.prog 45 #[.int .u64 1, .int .u64 x] w fun e w' => e = .returned (.tuple #[.int .u64 0, .int .u64 x]) ∧ w' = w := by
  rcases (show x = 1 ∨ x = 2 ∨ x = 3 ∨ x = 4 ∨ x = 5 ∨ x = 6 ∨ x = 7 ∨ x = 8 ∨ x = 9 ∨ x = 10 ∨ x = 11 ∨ x = 12 by omega) with rfl | rfl | rfl | rfl | rfl | rfl | rfl | rfl | rfl | rfl | rfl | rfl
  all_goals
    clear hx
    go_enter Try.func45, Try.ntmps45
    go_wp2
    refine bodyPost_ret (v := .tuple #[.int .u64 0, .int .u64 _]) (by simp [results, Try.results45, go_sem]; rfl) rfl ⟨rfl, rfl⟩
set_option maxHeartbeats 4000000 in
set_option maxRecDepth 100000 in
theorem mul_calls (w : World) (x : Int) (hx : 1 ≤ x ∧ x ≤ 12) : Calls Try.prog 42 #[.int .u64 1, .int .u64 x] w fun e w' => e = .returned (.tuple #[.int .u64 0, .int .u64 x]) ∧ w' = w := by
  have HM := Lib.hid (mul64_calls w x hx)
  clear hx
  go_enter Try.func42, Try.ntmps42
  go_wp2_with (fail)
  refine HM.out.mono ?_
  rintro e w' ⟨rfl, rfl⟩
  go_wp2
  exact bodyPost_ret (v := .tuple #[.int .u64 0, .int .u64 x]) (by simp [results, Try.results42, go_sem]) rfl ⟨rfl, rfl⟩
theorem fill_nums (n i : Nat) : nums .i64 (fillL n i) = List.replicate i (.int .i64 (-1)) ++ List.replicate (n - i) (.int .i64 0) := by unfold nums fillL; simp
theorem fill_splice {n j : Nat} (hj : j ≤ n) (m : Nat) (hm : j + m ≤ n) : splice (nums .i64 (fillL n j)) j (nums .i64 (List.replicate m (-1))) = nums .i64 (fillL n (j + m)) := by
  have e : nums .i64 (List.replicate m (-1)) = List.replicate m (.int .i64 (-1)) := by unfold nums; simp
  rw [fill_nums, fill_nums, e]
  unfold splice
  rw [List.take_left' (by simp), List.length_replicate, List.drop_append, List.drop_replicate, List.drop_replicate, List.length_replicate]
  rw [show j - (j + m) = 0 by omega, show n - j - (j + m - j) = n - (j + m) by omega]
  rw [List.replicate_zero, List.nil_append, ← List.append_assoc, List.replicate_append_replicate]
theorem fill_at {n j i : Nat} (hi : i < j) (hj : j ≤ n) : (nums .i64 (fillL n j))[i]? = some (.int .i64 (-1)) := by
  rw [fill_nums, List.getElem?_append_left (by simpa using hi)]
  simp [hi]
theorem size37 (W : World) : (sizeOf (Try.prog.elem 37)).run Try.prog W = .ok 1 W := by simp [go_sem]
theorem isz3 : (Try.prog.info? 3).map (·.size) = some 1 := by kernel_rfl
theorem one_minus (m : Nat) : ∀ v ∈ nums .i64 (List.replicate m (-1)), v.oneCell' = true := by
  intro v hv
  unfold nums at hv
  obtain ⟨x, _, rfl⟩ := List.mem_map.1 hv
  rfl
theorem minus_at {m j : Nat} {v : Value} (h : (nums .i64 (List.replicate m (-1)))[j]? = some v) : j < m ∧ v = .int .i64 (-1) := by
  unfold nums at h
  rw [List.getElem?_map, List.getElem?_replicate] at h
  by_cases hj : j < m
  · rw [if_pos hj] at h; injection h with h; exact ⟨hj, h.symm⟩
  · rw [if_neg hj] at h; simp at h
set_option maxHeartbeats 8000000 in
set_option maxRecDepth 100000 in
theorem repeat_calls (w : World) (Bx n : Nat) (hB : w.heap[Bx]? = some (.cells #[.int .i64 (-1)] 3 (0, 0))) (h1 : 1 ≤ n) (h12 : n ≤ 12) : Calls Try.prog 31 #[.slice (some ⟨Bx, 0, none⟩) 1 1, .int .i64 (n : Int)] w fun e w' =>
    e = .returned (.slice (some ⟨w.heap.size, 0, none⟩) n n) ∧ w'.heap[w.heap.size]? = some (.cells (nums .i64 (List.replicate n (-1))).toArray 3 (0, 0)) ∧ Below w.heap.size w w' := by
  have HM := Lib.hid (fun W => mul_calls W (n : Int) (by omega))
  have hmk := fun W => hmk37 n (by omega) W
  have HH1 := Lib.hid h1
  have HH12 := Lib.hid h12
  have q1 : decide ((n : Int) < 0) = false := decide_eq_false (by omega)
  have q2 : decide ((n : Int) > 9223372036854775807) = false := decide_eq_false (by omega)
  have q3 : decide ((9223372036854775807 : Int) < (n : Int)) = false := decide_eq_false (by omega)
  have hu : IntKind.u64.wrap (n : Int) = (n : Int) := IntWalk.u64_in _ (by omega)
  have hi : IntKind.i64.wrap (n : Int) = (n : Int) := IntWalk.i64_in _ (by omega)
  have hBl := blk_lt hB
  have hb1 : Below w.heap.size w (w.alloc (.cells (nums .i64 (List.replicate n 0)).toArray 3)) := (Below.refl _ w).alloc (Nat.le_refl _) _
  have hs1 := blk_alloc hB (.cells (nums .i64 (List.replicate n 0)).toArray 3)
  have hn1 : (w.alloc (.cells (nums .i64 (List.replicate n 0)).toArray 3)).heap[w.heap.size]? = some (.cells (nums .i64 (fillL n 0)).toArray 3 (0, 0)) := by
    rw [fillL_zero]; exact blk_new w _
  obtain ⟨w1, hw1⟩ : ∃ w1, w1 = w.alloc (.cells (nums .i64 (List.replicate n 0)).toArray 3) := ⟨_, rfl⟩
  rw [← hw1] at hb1 hs1 hn1
  have HB1 := Lib.hid hb1
  have HS1 := Lib.hid hs1
  have HN1 := Lib.hid hn1
  have HW1 := Lib.hid hw1
  clear hb1 hs1 hn1 hw1 hB hBl h1 h12
  go_enter Try.func31, Try.ntmps31
  go_wp2_with (fail)
  refine (HM.out w).mono ?_
  rintro e w' ⟨rfl, hww⟩
  rw [hww]
  clear hww w'
  go_upto_region 7 with (fail)
  rw [← HW1.out]
  clear hmk
  go_wp2_with (refine wpList_copy_splice rfl (.tmp 31) (.tmp 32) 37 37 rfl 3 Try.underlying37 isz3 (some ⟨w.heap.size, 0, none⟩) (some ⟨Bx, 0, none⟩) n n 1 1 rfl rfl w.heap.size 0 (nums .i64 (fillL n 0)) 3 HN1.out (nums .i64 (List.replicate 1 (-1))) ?len ?pos ?fit (one_minus 1) w.heap.size w HB1.out (Nat.le_refl _) ?_)
  case len => have := HH1.out; rw [nums_length, List.length_replicate]; exact (Nat.min_eq_left this).symm
  case pos =>
    intro _
    first | (refine ⟨rfl, _, rfl, ?_⟩) | skip
    intro j v h
    obtain ⟨hj, rfl⟩ := minus_at (m := 1) h
    obtain rfl : j = 0 := by omega
    exact (blk_cell HS1.out 0).trans rfl
  case fit => rw [nums_length, nums_length, List.length_replicate, fillL_len (Nat.zero_le _)]; have := HH1.out; omega
  intro w2 HG2 hB2
  have HG3 : Hid (w2.heap[w.heap.size]? = some (.cells (nums .i64 (fillL n 1)).toArray 3 (0, 0))) := by
    have := HG2.out
    have e : splice (nums .i64 (fillL n 0)) 0 (nums .i64 [-1]) = nums .i64 (fillL n 1) := fill_splice (Nat.zero_le _) 1 (by have := HH1.out; omega)
    rw [e] at this
    exact this
  have HB2 := Lib.hid hB2
  clear HG2 hB2 HB1 HS1 HN1 HW1 HM
  rw [nums_length, show (([-1] : List Int).length : Int) = 1 from rfl]
  go_wp2_with (fail)
  go_loopw [8] (fun x wr => ∃ j : Nat, x = .int .i64 (j : Int) ∧ 1 ≤ j ∧ j ≤ n ∧ Hid (wr.heap[w.heap.size]? = some (.cells (nums .i64 (fillL n j)).toArray 3 (0, 0)) ∧ Below w.heap.size w wr)) (fun x _ => n - (intOf x).toNat)
  case atStart => exact ⟨1, rfl, Nat.le_refl _, HH1.out, HG3.out, HB2.out⟩
  case round =>
    obtain ⟨j, rfl, hj1, hj, hR⟩ := hrel
    have HJ1 := Lib.hid hj1
    by_cases hlt : j < n
    · have qd : decide ((j : Int) < (n : Int)) = true := decide_eq_true (by omega)
      have HLT := Lib.hid hlt
      have HJ := Lib.hid hj
      have hsl : ∀ W, (Instr.slice 37 (.slice (some ⟨w.heap.size, 0, none⟩) n n) (some (.int .i64 (j : Int))) none none).run Try.prog W = .ok (.slice (some ⟨w.heap.size, j, none⟩) (n - j) (n - j)) W := by
        intro W
        rw [run_slice_l (P := Try.prog) W 37 (some ⟨w.heap.size, 0, none⟩) n n Try.underlying37 .i64 (j : Int) (by omega) (by omega), size37]
        have a1 : ¬ n = j := by omega
        have a2 : ¬ j = 0 := by omega
        simp [sliced, Result.andThen, Addr.add, a1, a2]
      have hsh : ∀ W, (Instr.slice 37 (.slice (some ⟨w.heap.size, 0, none⟩) n n) none (some (.int .i64 (j : Int))) none).run Try.prog W = .ok (.slice (some ⟨w.heap.size, 0, none⟩) j n) W := by
        intro W
        rw [run_slice_h (P := Try.prog) W 37 (some ⟨w.heap.size, 0, none⟩) n n Try.underlying37 .i64 (j : Int) (by omega) (by omega), size37]
        have : ¬ n = 0 := by omega
        simp [sliced, Result.andThen, Addr.add, this]
      obtain ⟨m, hm⟩ : ∃ m, m = Nat.min j (n - j) := ⟨_, rfl⟩
      have HMM := Lib.hid hm
      have hmj : m ≤ j ∧ m ≤ n - j ∧ 1 ≤ m := by
        have h1 := Nat.min_le_left j (n - j)
        have h2 := Nat.min_le_right j (n - j)
        have h3 : 1 ≤ Nat.min j (n - j) := Nat.le_min.2 ⟨by omega, by omega⟩
        rw [hm]; exact ⟨h1, h2, h3⟩
      have HMJ := Lib.hid hmj
      have HN12 := HH12.out
      have hw : IntKind.i64.wrap ((j : Int) + (m : Int)) = ((j + m : Nat) : Int) := by rw [IntWalk.i64_in _ (by omega)]; omega
      have HD : Hid (wr.drew.heap[w.heap.size]? = some (.cells (nums .i64 (fillL n j)).toArray 3 (0, 0)) ∧ Below w.heap.size w wr.drew) := ⟨hR.out.1, below_drew hR.out.2⟩
      clear hj1 hj hlt hm hmj HN12
      have hlen : (nums .i64 (List.replicate m (-1))).length = Nat.min j (n - j) := by rw [nums_length, List.length_replicate]; exact HMM.out
      have hpos : 0 < (nums .i64 (List.replicate m (-1))).length → (some (⟨w.heap.size, j, none⟩ : Addr)) = some ⟨w.heap.size, j, none⟩ ∧ ∃ ad, (some (⟨w.heap.size, 0, none⟩ : Addr)) = some ad ∧ ∀ i v, (nums .i64 (List.replicate m (-1)))[i]? = some v → wr.drew.cell? (ad.add i) = some v := by
        intro _
        refine ⟨rfl, _, rfl, ?_⟩
        intro i v h
        obtain ⟨hi, rfl⟩ := minus_at h
        have := HMJ.out
        have hc := (blk_cell HD.out.1 i).trans (by simpa using fill_at (n := n) (j := j) (i := i) (by omega) (HJ.out))
        have e : (Addr.add ⟨w.heap.size, 0, none⟩ i) = ⟨w.heap.size, i, none⟩ := by
          by_cases hi0 : i = 0
          · subst hi0; rfl
          · simp [Addr.add, hi0]
        rw [e]
        exact hc
      have hfit : j + (nums .i64 (List.replicate m (-1))).length ≤ (nums .i64 (fillL n j)).length := by rw [nums_length, nums_length, List.length_replicate, fillL_len HJ.out]; have := HMJ.out; have := HLT.out; omega
      have HLE := Lib.hid hlen
      have HPO := Lib.hid hpos
      have HFI := Lib.hid hfit
      have hml : (nums .i64 (List.replicate m (-1))).length = m := by rw [nums_length, List.length_replicate]
      have HGO : Hid (∀ w3 : World, Hid (w3.heap[w.heap.size]? = some (.cells (splice (nums .i64 (fillL n j)) j (nums .i64 (List.replicate m (-1)))).toArray 3 (0, 0))) → Hid (w3.heap[w.heap.size]? = some (.cells (nums .i64 (fillL n (j + m))).toArray 3 (0, 0)))) := by
        intro w3 HG4
        have := HG4.out
        rw [fill_splice HJ.out m (by have := HMJ.out; have := HLT.out; omega)] at this
        exact this
      have HML := Lib.hid hml
      clear hlen hpos hfit hml
      go_upto_region 9 with (fail)
      refine wp_region_any (by kernel_rfl) ?_
      change wpAny _ _ _ _ _ _ _ (World.drew wr)
      have hHeld : (fun _ : World => True) wr.drew := trivial
      refine wpAny_of_held (S := fun _ : World => True) _ _ _ _ ?_
      refine take_at (i := 0) (d := 38) (v := ?_) rfl rfl (by kernel_rfl) (by kernel_rfl) (by kernel_rfl) (fun _ _ _ h => h) (Or.inl ⟨by rfl, ?hy0⟩) (by assumption) ?rest0
      case hy0 => intro w' _; go_simp; try with_reducible rfl
      simp only [List.setIfInBounds_toArray, List.set_cons_zero, List.set_cons_succ]
      refine take_at (i := 1) (d := 39) (v := ?_) rfl rfl (by kernel_rfl) (by kernel_rfl) (by kernel_rfl) (fun _ _ _ h => h) (Or.inl ⟨by rfl, ?hy1⟩) (by assumption) ?rest1
      case hy1 => intro w' _; go_simp; try with_reducible rfl
      simp only [List.setIfInBounds_toArray, List.set_cons_zero, List.set_cons_succ]
      refine take_at (i := 2) (d := 40) (v := ?_) rfl rfl (by kernel_rfl) (by kernel_rfl) (by kernel_rfl) (fun _ _ _ h => h) (Or.inl ⟨by rfl, ?hy2⟩) (by assumption) ?rest2
      case hy2 => intro w' _; go_simp; try with_reducible rfl
      simp only [List.setIfInBounds_toArray, List.set_cons_zero, List.set_cons_succ]
      refine take_at (i := 3) (d := 41) (v := ?_) rfl rfl (by kernel_rfl) (by kernel_rfl) (by kernel_rfl) (fun _ _ _ h => h) (Or.inl ⟨by rfl, ?hy3⟩) (by assumption) ?rest3
      case hy3 => intro w' _; go_simp; try with_reducible rfl
      simp only [List.setIfInBounds_toArray, List.set_cons_zero, List.set_cons_succ]
      refine take_at (i := 4) (d := 42) (v := ?_) rfl rfl (by kernel_rfl) (by kernel_rfl) (by kernel_rfl) (fun _ _ _ h => h) (Or.inl ⟨by rfl, ?hy4⟩) (by assumption) ?rest4
      case hy4 => intro w' _; go_simp; try with_reducible rfl
      simp only [List.setIfInBounds_toArray, List.set_cons_zero, List.set_cons_succ]
      refine take_at (i := 5) (d := 43) (v := ?_) rfl rfl (by kernel_rfl) (by kernel_rfl) (by kernel_rfl) (fun _ _ _ h => h) (Or.inl ⟨by rfl, ?hy5⟩) (by assumption) ?rest5
      case hy5 => intro w' _; go_simp; try with_reducible rfl
      simp only [List.setIfInBounds_toArray, List.set_cons_zero, List.set_cons_succ]
      refine take_at (i := 6) (d := 44) (v := ?_) rfl rfl (by kernel_rfl) (by kernel_rfl) (by kernel_rfl) (fun _ _ _ h => h) (Or.inl ⟨by rfl, ?hy6⟩) (by assumption) ?rest6
      case hy6 => intro w' _; go_simp; try with_reducible rfl
      simp only [List.setIfInBounds_toArray, List.set_cons_zero, List.set_cons_succ]
      refine wpAnyH_ready (rs := [7]) (by kernel_rfl) (by simp) ?_
      refine AllReadyH.cons rfl (fun K hK => ?_) AllReadyH.nil
      refine step_copy_splice rfl (.tmp 41) (.tmp 44) 37 37 rfl 3 Try.underlying37 isz3 (some ⟨w.heap.size, j, none⟩) (some ⟨w.heap.size, 0, none⟩) (n - j) (n - j) j n rfl rfl w.heap.size j (nums .i64 (fillL n j)) 3 HD.out.1 (nums .i64 (List.replicate m (-1))) HLE.out HPO.out HFI.out (one_minus m) w.heap.size w HD.out.2 (Nat.le_refl _) ?_
      intro w3 HG4 hB4
      rw [HML.out]
      refine hK.out _ _ trivial (fun hHeld => ?_)
      clear hK K
      change wpAnyH _ _ _ _ _ _ _ (Act.put _ (some 45) _) _
      simp only [Act.put, List.setIfInBounds_toArray, List.set_cons_zero, List.set_cons_succ]
      refine take_at (i := 8) (d := 46) (v := ?_) rfl rfl (by kernel_rfl) (by kernel_rfl) (by kernel_rfl) (fun _ _ _ h => h) (Or.inl ⟨by rfl, ?hy8⟩) (by assumption) ?rest8
      case hy8 => intro w' _; go_simp; try with_reducible rfl
      simp only [List.setIfInBounds_toArray, List.set_cons_zero, List.set_cons_succ]
      refine wpAnyH_ready (rs := [9]) (by kernel_rfl) (by simp) ?_
      refine AllReadyH.cons rfl (fun K hK => ?_) AllReadyH.nil
      go_simp
      refine hK.out _ _ trivial (fun hHeld => ?_)
      clear hK K
      refine wpAnyH_done (by kernel_rfl) ?_ _
      have HG5 : Hid (w3.heap[w.heap.size]? = some (.cells (nums .i64 (fillL n (j + m))).toArray 3 (0, 0)) ∧ Below w.heap.size w w3) := ⟨(HGO.out _ HG4).out, hB4⟩
      clear HG4 hB4 hsl hsh
      go_wp2
      go_roundw
      case measure => have := HMJ.out; have := HLT.out; have := HJ1.out; simp [intOf]; omega
      case rel => exact ⟨j + m, by first | rfl | (rw [hw]) | simp, by have := HMJ.out; omega, by have := HMJ.out; have := HLT.out; omega, HG5⟩
    · obtain rfl : j = n := by omega
      have qd : decide ((j : Int) < (j : Int)) = false := decide_eq_false (by omega)
      clear hj1 hj hlt
      have HF : Hid (wr.heap[w.heap.size]? = some (.cells (nums .i64 (List.replicate j (-1))).toArray 3 (0, 0)) ∧ Below w.heap.size w wr) := by
        have := hR.out
        rw [fillL_all] at this
        exact this
      clear hR
      go_wp2
      go_ret
      exact ⟨rfl, HF.out⟩
end Go.Proofs.Ytbldlmolbdkabaa.HP
