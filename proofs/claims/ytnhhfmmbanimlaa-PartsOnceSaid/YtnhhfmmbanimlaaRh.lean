/-
Nodes spread over workers: what Spread computes, its contract, and that it is even, in whatever order.
-/
import Derived.Test.YtnhhfmmbanimlaaRf
set_option linter.unusedVariables false
set_option linter.unusedSimpArgs false
namespace Go.Proofs.Ytnhhfmmbanimlaa.HP
open Go.RowKit Go.Proofs.Ytnhhfmmbanimlaa.HK Go.Proofs.Ytnhhfmmbanimlaa.HQ Go.Proofs.YtnhhfmmbanimlaaW.PrintWords Go.Proofs.YtnhhfmmbanimlaaW.PrintLast Go.Proofs.YtnhhfmmbanimlaaW.PrintMore

/-- What lies in the row when j of the order's things have been dealt. -/
def spreadTo (P : List Int) (W : Nat) : Nat → List Int
  | 0 => List.replicate P.length 0
  | j + 1 => (spreadTo P W j).set (P.getD j 0).toNat ((j % W : Nat) : Int)
theorem spreadTo_len (P : List Int) (W : Nat) : ∀ j, (spreadTo P W j).length = P.length
  | 0 => by simp [spreadTo]
  | j + 1 => by rw [spreadTo, List.length_set, spreadTo_len P W j]
/-- The order of a number, of n things. -/
def orderN (n K : Nat) : List Int := fromOf n (upTo n) (fac n) (K % fac n)
theorem orderN_facts (n K : Nat) (hn : n ≤ 16) : rightOf (orderN n K) = true ∧ (orderN n K).length = n := by
  obtain ⟨h1, h2, _⟩ := HQ.from_number n (K % fac n) hn (Nat.mod_lt _ (fac_pos n))
  exact ⟨h1, h2⟩
theorem orderN_perm (n K : Nat) (hn : n ≤ 16) : (orderN n K).Perm (upTo n) := by
  obtain ⟨h1, h2⟩ := orderN_facts n K hn
  have := ((right_iff _).1 h1).2
  rwa [h2] at this
theorem orderN_at {n K : Nat} (hn : n ≤ 16) {j : Nat} (hj : j < n) : ∃ u : Nat, (orderN n K).getD j 0 = (u : Int) ∧ u < n := by
  have hl := (orderN_facts n K hn).2
  have hm : (orderN n K).getD j 0 ∈ orderN n K := by
    rw [List.getD_eq_getElem?_getD, List.getElem?_eq_getElem (by omega)]
    exact List.getElem_mem _
  have := (orderN_perm n K hn).mem_iff.1 hm
  unfold upTo at this
  rw [List.mem_map] at this
  obtain ⟨u, hu, e⟩ := this
  exact ⟨u, e.symm, List.mem_range.1 hu⟩
theorem IsInts.of_blk {w : World} {g : Nat} {l : List Int} (h : w.heap[g]? = some (.cells (nums .i64 l).toArray 3 (0, 0))) (hl : l.length ≤ 9223372036854775807) : IsInts w (some ⟨g, 0, none⟩) l.length l := by
  refine ⟨Nat.le_refl _, rfl, hl, fun _ => ⟨_, rfl, fun j p hj => ⟨[.int .i64 p], rfl, rfl, fun i u hu => ?_⟩⟩⟩
  match i, hu with
  | 0, hu =>
    obtain rfl : Value.int .i64 p = u := by simpa using hu
    have := blk_cell h j
    rw [add_plain]
    simpa [Kd.int, Kd.scalar, nums, hj] using this
  | i + 1, hu => simp at hu
theorem made_one (n : Nat) : madeCells #[Value.int .i64 0] n = Array.replicate n (.int .i64 0) := by
  apply Array.ext
  · simp [madeCells]
  · intro i h1 h2
    simp [madeCells, Nat.mod_one]
theorem spread_put (P : List Int) (W j : Nat) (u : Nat) (h : P.getD j 0 = (u : Int)) : (nums .i64 (spreadTo P W j)).toArray.setIfInBounds u (.int .i64 ((j % W : Nat) : Int)) = (nums .i64 (spreadTo P W (j + 1))).toArray := by
  rw [spreadTo, h]
  simp [nums, List.map_set]
set_option maxHeartbeats 2000000 in
set_option maxRecDepth 100000 in
theorem spread_calls (n W K : Nat) (w : World) (hn : 1 ≤ n ∧ n ≤ 12) (hW : 1 ≤ W ∧ W ≤ 4) (hK : K ≤ 18446744073709551615) :
    Calls Try.prog 38 #[.int .i64 n, .int .i64 W, .int .u64 K] w fun e w' => ∃ A c, e = .returned (.slice A (spreadTo (orderN n K) W n).length c) ∧ IsInts w' A c (spreadTo (orderN n K) W n) ∧ Below w.heap.size w w' := by
  obtain ⟨hn1, hn2⟩ := hn
  obtain ⟨hW1, hW2⟩ := hW
  have e1 : decide ((n : Int) < 1) = false := by simp; omega
  have e2 : decide ((12 : Int) < (n : Int)) = false := by simp; omega
  have e3 : decide ((W : Int) < 1) = false := by simp; omega
  have e4 : decide ((4 : Int) < (W : Int)) = false := by simp; omega
  have hPl := (orderN_facts n K (by omega)).2
  have hat := fun j (hj : j < n) => orderN_at (n := n) (K := K) (by omega) hj
  have HP : Hid (fromOf n (upTo n) (fac n) (K % fac n) = orderN n K) := rfl
  obtain ⟨P, hP⟩ : ∃ P, P = orderN n K := ⟨_, rfl⟩
  rw [← hP] at HP hPl hat ⊢
  clear hP
  have hmk := print_make 22 3 .i64 8 Try.underlying22 info3 (Nat.succ_pos 7) n (by omega)
  go_enter Try.func38, Try.ntmps38
  go_wp2_with (fail)
  refine (HQ.from_call n K P _ (by omega) hK HP.out).mono ?_
  rintro e wb ⟨A, c, rfl, hI, hb⟩
  have HI := Lib.hid hI
  have HB := Lib.hid hb
  clear hI hb
  go_wp2_with (fail)
  go_loopw [36] (fun iv wr => ∃ j : Nat, j ≤ n ∧ iv = .int .i64 j ∧ Hid (wr.heap[wb.heap.size]? = some (.cells (nums .i64 (spreadTo P W j)).toArray 3 (0, 0))) ∧ Hid (Below wb.heap.size wb wr)) (fun iv _ => n - (intOf iv).toNat)
  case atStart =>
    refine ⟨0, Nat.zero_le _, rfl, ?_, (Below.refl _ wb).alloc (Nat.le_refl _) _⟩
    have := blk_new wb (.cells (nums .i64 (spreadTo P W 0)).toArray 3)
    refine Eq.trans ?_ this
    congr 3
    simp [spreadTo, nums, hPl, made_one]
  case round =>
    obtain ⟨j, hj, rfl, hb, hbel⟩ := hrel
    by_cases hlt : j < n
    · obtain ⟨u, hu, hun⟩ := hat j hlt
      obtain ⟨ad, rfl, hcell⟩ := Kd.at_int (Kd.C_below HI.out.2 hbel.out) (j : Int) (by omega) (by omega)
      have hcell2 : wr.cell? (ad.add j) = some (.int .i64 u) := by
        refine hcell.trans ?_
        show some (Value.int .i64 (P.getD j 0)) = _
        rw [hu]
      have hlen := spreadTo_len P W j
      have hs : ∃ v, wr.cell? ⟨wb.heap.size, u, none⟩ = some v := by
        rw [blk_cell hb.out u]
        exact ⟨_, Array.getElem?_eq_getElem (by simp [nums]; omega)⟩
      obtain ⟨v, hs⟩ := hs
      have hf : wr.frozen? ⟨wb.heap.size, u, none⟩ = false := blk_frozen hb.out u
      have hHu := Lib.hid hu
      have hrem : Int.tmod (j : Int) (W : Int) = ((j % W : Nat) : Int) := (Int.ofNat_tmod j W).symm
      have hrem2 : (j : Int) % (W : Int) = ((j % W : Nat) : Int) := rfl
      have hWz : ¬ (W : Int) = 0 := by omega
      have hjw : j % W < W := Nat.mod_lt _ (by omega)
      obtain ⟨y, hy⟩ : ∃ y, y = j % W := ⟨_, rfl⟩
      rw [← hy] at hrem hrem2 hjw
      have HY := Lib.hid hy
      clear hcell hu hat hy
      go_wp2_with (fail)
      go_roundw
      case measure => simp [intOf]; omega
      case rel =>
        refine ⟨j + 1, by omega, by go_num, ?_, (show Below _ _ _ from hbel).setCell (p := ⟨wb.heap.size, u, none⟩) (Nat.le_refl _) _⟩
        rw [← spread_put P W j u hHu.out, ← HY.out]
        exact blk_set hb.out _ _
    · obtain rfl : j = n := by omega
      have hlen := spreadTo_len P W j
      have hI2 := Lib.hid (IsInts.of_blk hb.out (by omega))
      rw [hlen, hPl] at hI2
      have HB2 := Lib.hid (below_then HB.out HB.out.size hbel.out)
      go_wp2_with (fail)
      go_ret
      exact ⟨_, _, by rw [hlen, hPl]; rfl, hI2.out, HB2.out⟩
theorem spread_nil (a b K : Int) (w : World) (h : ¬ (1 ≤ a ∧ a ≤ 12 ∧ 1 ≤ b ∧ b ≤ 4)) :
    Calls Try.prog 38 #[.int .i64 a, .int .i64 b, .int .u64 K] w fun e w' => e = .returned (.slice none 0 0) ∧ w' = w := by
  by_cases h1 : a < 1
  · go_enter Try.func38, Try.ntmps38
    go_wp2
    go_ret
    exact ⟨rfl, rfl⟩
  · by_cases h2 : 12 < a
    · go_enter Try.func38, Try.ntmps38
      go_wp2
      go_ret
      exact ⟨rfl, rfl⟩
    · by_cases h3 : b < 1
      · go_enter Try.func38, Try.ntmps38
        go_wp2
        go_ret
        exact ⟨rfl, rfl⟩
      · have h4 : 4 < b := by omega
        clear h
        go_enter Try.func38, Try.ntmps38
        go_wp2
        go_ret
        exact ⟨rfl, rfl⟩
theorem refNew_nil (a b : Int) (w : World) (h : ¬ (1 ≤ a ∧ a ≤ 12 ∧ 1 ≤ b ∧ b ≤ 4)) :
    Calls Try.prog 47 #[.int .i64 a, .int .i64 b, .slice none 0 0] w fun e w' => e = .returned (.pointer none) ∧ w' = w := by
  by_cases h1 : a < 1
  · go_enter Try.func47, Try.ntmps47
    go_wp2
    go_ret
    exact ⟨rfl, rfl⟩
  · by_cases h2 : 12 < a
    · go_enter Try.func47, Try.ntmps47
      go_wp2
      go_ret
      exact ⟨rfl, rfl⟩
    · by_cases h3 : b < 1
      · go_enter Try.func47, Try.ntmps47
        go_wp2
        go_ret
        exact ⟨rfl, rfl⟩
      · have h4 : 4 < b := by omega
        clear h
        go_enter Try.func47, Try.ntmps47
        go_wp2
        go_ret
        exact ⟨rfl, rfl⟩
theorem nums_zeros (k : Nat) : nums .i64 (List.replicate k 0) ++ [.int .i64 0] = nums .i64 (List.replicate (k + 1) 0) := by
  rw [List.replicate_succ', nums_append]
  rfl
set_option maxHeartbeats 2000000 in
set_option maxRecDepth 100000 in
theorem refNew_made (n W : Nat) (w : World) (hn : 1 ≤ n ∧ n ≤ 12) (hW : 1 ≤ W ∧ W ≤ 4) :
    Calls Try.prog 47 #[.int .i64 n, .int .i64 W, .slice none 0 0] w fun e w' => e = .returned (.pointer (some ⟨w.heap.size, 0, none⟩)) ∧ Below w.heap.size w w' := by
  obtain ⟨hn1, hn2⟩ := hn
  obtain ⟨hW1, hW2⟩ := hW
  have e1 : decide ((n : Int) < 1) = false := by simp; omega
  have e2 : decide ((12 : Int) < (n : Int)) = false := by simp; omega
  have e3 : decide ((W : Int) < 1) = false := by simp; omega
  have e4 : decide ((4 : Int) < (W : Int)) = false := by simp; omega
  go_enter Try.func47, Try.ntmps47
  go_wp2
  go_loopw [8] (fun iv wx => ∃ (k : Nat) (v : Value), k ≤ n ∧ iv = .int .i64 k ∧ Hid (wx.heap[w.heap.size]? = some (.cells #[.int .i64 W, v] 74 (0, 0))) ∧ Hid (wx.ownsRow w.heap.size 3 1 v k (nums .i64 (List.replicate k 0))) ∧ Hid (Below w.heap.size w wx)) (fun iv _ => n - (intOf iv).toNat)
  case atStart =>
    exact ⟨0, .slice none 0 0, Nat.zero_le _, rfl, heap_alloc_new w _, own_nil _ _ _ _, (Below.refl _ w).alloc (Nat.le_refl _) _⟩
  case round =>
    obtain ⟨k, v, hk, rfl, hg, hR, hb⟩ := hrel
    have hgl := blk_lt hg.out
    by_cases hlt : k < n
    · have h0 : wr.cell? ⟨w.heap.size, 1, none⟩ = some v := (blk_cell hg.out 1).trans rfl
      have f0 : wr.frozen? ⟨w.heap.size, 1, none⟩ = false := blk_frozen hg.out 1
      have hl0 : (List.replicate k (0 : Int)).length = k := by simp
      have hR1 : Hid (wr.ownsRow w.heap.size 3 1 v (List.replicate k (0 : Int)).length (nums .i64 (List.replicate k 0))) := by rw [hl0]; exact hR
      have hkl : ¬ (k : Int) < 0 := by omega
      go_wp2_with (at_builtin; refine print_append_num (w0 := w) w.heap.size rfl (.tmp 51) (.tmp 53) 22 3 .i64 8 rfl Try.underlying22 info3 (Nat.succ_pos 7) _ (List.replicate k 0) 0 rfl rfl hR1.out hb.out hb.out.size ?qa ?_)
      case qa => omega
      intro v1 w1 hown1 hb1 hg1 hat1
      try rw [hl0] at hown1
      obtain ⟨g1, cap1, rfl, _, _⟩ := hown1.form (by simp)
      have hgg : Hid (w1.heap[w.heap.size]? = some (.cells #[.int .i64 W, v] 74 (0, 0))) := blk_grown hg.out hg1 (by
        intro e
        obtain ⟨cells, hc⟩ := own_typed hR.out _ e.symm
        exact blk_ne hc hg.out (by decide) rfl)
      have c1 : w1.cell? ⟨w.heap.size, 1, none⟩ = some v := (blk_cell hgg.out 1).trans rfl
      have f1 : w1.frozen? ⟨w.heap.size, 1, none⟩ = false := blk_frozen hgg.out 1
      have hO1 := Lib.hid hown1
      clear hown1 hR hR1 h0 f0
      go_wp2
      go_roundw
      case measure => simp [intOf]; omega
      case rel =>
        refine ⟨k + 1, .slice (some ⟨g1, 0, none⟩) (k + 1) cap1, by omega, by go_num, ?_, ?_, (show Below _ _ _ from hb1).setCell (p := ⟨w.heap.size, 1, none⟩) (Nat.le_refl _) _⟩
        · exact blk_set hgg.out 1 _
        · rw [List.replicate_succ']
          exact own_move hO1.out (fun i hi => by
            obtain ⟨cells, hc⟩ := own_typed hO1.out i hi
            exact Below.heap_setCell _ _ _ i (fun e => by
              have e' : i = w.heap.size := e
              subst e'
              exact blk_ne hc hgg.out (by decide) rfl))
    · obtain rfl : k = n := by omega
      go_wp2
      go_ret
      exact ⟨rfl, hb⟩
theorem refFrom_call (n K : Nat) (w : World) (hn : n ≤ 16) (hK : K ≤ 18446744073709551615) :
    Calls Try.prog 19 #[.int .i64 n, .int .u64 K] w fun e w' => ∃ A c, e = .returned (.tuple #[.slice A (orderN n K).length c, .int .i64 0]) ∧ HQ.IsInts w' A c (orderN n K) ∧ Below w.heap.size w w' := by
  obtain ⟨r, h1, h2⟩ := HQ.refFrom_ev n K (by omega) (by omega)
  have e : r = (orderN n K, 0) := by
    unfold perm_From.f at h1
    rw [if_pos ⟨by omega, by omega⟩, if_pos ⟨by omega, by omega⟩] at h1
    injection h1 with h1
    exact h1.symm
  subst e
  obtain ⟨k, hk⟩ := h2.rounds
  exact HQ.ints2 (HA.reticuleref02_From.calls k n K (orderN n K) 0 w hk)
set_option maxHeartbeats 2000000 in
set_option maxRecDepth 100000 in
theorem refSpread_calls (n W K : Nat) (w : World) (hn : 1 ≤ n ∧ n ≤ 12) (hW : 1 ≤ W ∧ W ≤ 4) (hK : K ≤ 18446744073709551615) :
    Calls Try.prog 39 #[.int .i64 n, .int .i64 W, .int .u64 K] w fun e w' => ∃ A c, e = .returned (.slice A (spreadTo (orderN n K) W n).length c) ∧ IsInts w' A c (spreadTo (orderN n K) W n) ∧ Below w.heap.size w w' := by
  obtain ⟨hn1, hn2⟩ := hn
  obtain ⟨hW1, hW2⟩ := hW
  have hPl := (orderN_facts n K (by omega)).2
  have hat := fun j (hj : j < n) => orderN_at (n := n) (K := K) (by omega) hj
  have hFr := Lib.hid (fun w => refFrom_call n K w (by omega) hK)
  obtain ⟨P, hP⟩ : ∃ P, P = orderN n K := ⟨_, rfl⟩
  rw [← hP] at hFr hPl hat ⊢
  clear hP
  have hmk := print_make 22 3 .i64 8 Try.underlying22 info3 (Nat.succ_pos 7) n (by omega)
  go_enter Try.func39, Try.ntmps39
  go_wp2_with (fail)
  refine (refNew_made n W w ⟨hn1, hn2⟩ ⟨hW1, hW2⟩).mono ?_
  rintro e wa ⟨rfl, hb0⟩
  have HB0 := Lib.hid hb0
  clear hb0
  go_wp2_with (fail)
  refine (hFr.out _).mono ?_
  rintro e wb ⟨A, c, rfl, hI, hb⟩
  have HI := Lib.hid hI
  have HB := Lib.hid (below_then HB0.out HB0.out.size hb)
  clear hI hb hFr HB0
  go_wp2_with (fail)
  go_loopw [10] (fun iv wr => ∃ j : Nat, j ≤ n ∧ iv = .int .i64 j ∧ Hid (wr.heap[wb.heap.size]? = some (.cells (nums .i64 (spreadTo P W j)).toArray 3 (0, 0))) ∧ Hid (Below wb.heap.size wb wr)) (fun iv _ => n - (intOf iv).toNat)
  case atStart =>
    refine ⟨0, Nat.zero_le _, rfl, ?_, (Below.refl _ wb).alloc (Nat.le_refl _) _⟩
    have := blk_new wb (.cells (nums .i64 (spreadTo P W 0)).toArray 3)
    refine Eq.trans ?_ this
    congr 3
    simp [spreadTo, nums, hPl, made_one]
  case round =>
    obtain ⟨j, hj, rfl, hb, hbel⟩ := hrel
    by_cases hlt : j < n
    · obtain ⟨u, hu, hun⟩ := hat j hlt
      obtain ⟨ad, rfl, hcell⟩ := Kd.at_int (Kd.C_below HI.out.2 hbel.out) (j : Int) (by omega) (by omega)
      have hcell2 : wr.cell? (ad.add j) = some (.int .i64 u) := by
        refine hcell.trans ?_
        show some (Value.int .i64 (P.getD j 0)) = _
        rw [hu]
      have hlen := spreadTo_len P W j
      have hs : ∃ v, wr.cell? ⟨wb.heap.size, u, none⟩ = some v := by
        rw [blk_cell hb.out u]
        exact ⟨_, Array.getElem?_eq_getElem (by simp [nums]; omega)⟩
      obtain ⟨v, hs⟩ := hs
      have hf : wr.frozen? ⟨wb.heap.size, u, none⟩ = false := blk_frozen hb.out u
      have hHu := Lib.hid hu
      have hrem : Int.tmod (j : Int) (W : Int) = ((j % W : Nat) : Int) := (Int.ofNat_tmod j W).symm
      have hrem2 : (j : Int) % (W : Int) = ((j % W : Nat) : Int) := rfl
      have hWz : ¬ (W : Int) = 0 := by omega
      have hWz2 : ¬ W = 0 := by omega
      have hjw : j % W < W := Nat.mod_lt _ (by omega)
      obtain ⟨y, hy⟩ : ∃ y, y = j % W := ⟨_, rfl⟩
      rw [← hy] at hrem hrem2 hjw
      have HY := Lib.hid hy
      clear hcell hu hat hy
      go_wp2_with (fail)
      go_region_law (fail)
      all_goals
        go_wp2
        go_roundw
        case measure => simp [intOf]; omega
        case rel =>
          refine ⟨j + 1, by omega, by go_num, ?_, below_drew ((show Below _ _ _ from hbel).setCell (p := ⟨wb.heap.size, u, none⟩) (Nat.le_refl _) _)⟩
          rw [← spread_put P W j u hHu.out, ← HY.out]
          exact blk_set hb.out _ _
    · obtain rfl : j = n := by omega
      have hlen := spreadTo_len P W j
      have hI2 := Lib.hid (IsInts.of_blk hb.out (by omega))
      rw [hlen, hPl] at hI2
      have HB2 := Lib.hid (below_then HB.out HB.out.size hbel.out)
      go_wp2_with (fail)
      go_ret
      exact ⟨_, _, by rw [hlen, hPl]; rfl, hI2.out, HB2.out⟩
end Go.Proofs.Ytnhhfmmbanimlaa.HP
