/-
The contract of parts.New, over the translation: it makes the object that lies as the document says; nil where it may not.
-/
import Derived.Test.YtnhhfmmbanimlaaRa
set_option linter.unusedVariables false
set_option linter.unusedSimpArgs false
namespace Go.Proofs.Ytnhhfmmbanimlaa.HP
open Go.RowKit Go.Proofs.Ytnhhfmmbanimlaa.HK Go.Proofs.YtnhhfmmbanimlaaW.PrintWords Go.Proofs.YtnhhfmmbanimlaaW.PrintLast Go.Proofs.YtnhhfmmbanimlaaW.PrintMore

set_option maxHeartbeats 1000000 in
set_option maxRecDepth 100000 in
theorem new_nil (a b : Int) (A : Option Addr) (c : Nat) (l : List Int) (w : World) (h : ¬ (1 ≤ a ∧ a ≤ 12 ∧ 1 ≤ b ∧ b ≤ 4)) :
    Calls Try.prog 12 #[.int .i64 a, .int .i64 b, .slice A l.length c] w fun e w' => e = .returned (.pointer none) ∧ w' = w := by
  by_cases h1 : a < 1
  · go_enter Try.func12, Try.ntmps12
    go_wp2
    go_ret
    exact ⟨rfl, rfl⟩
  · by_cases h2 : 12 < a
    · go_enter Try.func12, Try.ntmps12
      go_wp2
      go_ret
      exact ⟨rfl, rfl⟩
    · by_cases h3 : b < 1
      · go_enter Try.func12, Try.ntmps12
        go_wp2
        go_ret
        exact ⟨rfl, rfl⟩
      · have h4 : 4 < b := by omega
        clear h
        go_enter Try.func12, Try.ntmps12
        go_wp2
        go_ret
        exact ⟨rfl, rfl⟩
theorem worker_go {W : Nat} (h : 0 < W) (x : Int) : ∃ t : Int, Int.tmod x W = t ∧ -(W : Int) < t ∧ t < W ∧ Int.tmod (t + W) W = x % W ∧ (t + W) % W = x % W := by
  refine ⟨_, rfl, ?_⟩
  have hW : (0 : Int) < W := by omega
  have h1 : Int.tmod x W < W := Int.tmod_lt_of_pos x hW
  have h2 : -(W : Int) < Int.tmod x W := by
    rcases Int.le_total 0 x with hx | hx
    · have := Int.tmod_nonneg (a := x) W hx; omega
    · have e : Int.tmod x W = -Int.tmod (-x) W := by rw [Int.neg_tmod]; omega
      have := Int.tmod_lt_of_pos (-x) hW
      omega
  have h3 : (Int.tmod x W + W) % W = x % W := by
    rw [Int.add_emod_right, Int.tmod_eq_emod]
    split
    · simp
    · rw [Int.sub_emod]; simp
  refine ⟨h2, h1, ?_, h3⟩
  rw [Int.tmod_eq_emod_of_nonneg (by omega)]
  exact h3
theorem worker_is {W : Nat} (h : 0 < W) {l : List Int} {k : Nat} (hk : k < l.length) : ((workerAt W l k : Nat) : Int) = l.getD k 0 % (W : Int) := by
  unfold workerAt
  rw [if_pos hk]
  exact Int.toNat_of_nonneg (Int.emod_nonneg _ (by omega))
theorem blk_apart {w w1 : World} {g t base n : Nat} {cs : Array Value} {v : Value} {xs : List Value} (hg : w.heap[g]? = some (.cells cs t (0, 0))) (ho : w.drew.ownsRow base 3 1 v n xs) (ht : 3 ≠ t) (hgr : w.drew.grownBy w1 v.ownBlock) : w1.heap[g]? = some (.cells cs t (0, 0)) :=
  blk_grown (w := w.drew) hg hgr (by
    intro e
    obtain ⟨cells, hc⟩ := own_typed ho _ e.symm
    exact blk_ne (w := w.drew) hc hg ht rfl)
theorem obj_cell {w : World} {g j : Nat} {vs : Nat → Value} {n : Int} (hg : w.heap[g]? = some (.cells (cellsAt vs n) 64 (0, 0))) (hj : j < 4) : w.cell? ⟨g, 1 + j, none⟩ = some (vs (j + 1)) :=
  (blk_cell hg (1 + j)).trans (by rw [Nat.add_comm]; exact cellsAt_get vs n (by omega))
theorem one_cell (k : Nat) : ∀ u ∈ [Value.int .i64 (k : Int)], u.oneCell' = true := by
  intro u hu
  rw [List.mem_singleton.1 hu]
  rfl
set_option maxHeartbeats 2000000 in
set_option maxRecDepth 100000 in
theorem new_made (n W : Nat) (A : Option Addr) (c : Nat) (l : List Int) (w : World) (hn : 1 ≤ n ∧ n ≤ 12) (hW : 1 ≤ W ∧ W ≤ 4) (hl : IsInts w A c l) :
    Calls Try.prog 12 #[.int .i64 n, .int .i64 W, .slice A l.length c] w fun e w' => ∃ g, e = .returned (.pointer (some ⟨g, 0, none⟩)) ∧ IsParts w' g (workerAt W l) n W ∧ w.heap.size ≤ g ∧ Below w.heap.size w w' := by
  obtain ⟨hn1, hn2⟩ := hn
  obtain ⟨hW1, hW2⟩ := hW
  have e1 : decide ((n : Int) < 1) = false := by simp; omega
  have e2 : decide ((12 : Int) < (n : Int)) = false := by simp; omega
  have e3 : decide ((W : Int) < 1) = false := by simp; omega
  have e4 : decide ((4 : Int) < (W : Int)) = false := by simp; omega
  have HL := Lib.hid hl
  clear hl
  go_enter Try.func12, Try.ntmps12
  go_wp2
  go_loopw [28] (fun iv wx => ∃ (k : Nat) (vs : Nat → Value), k ≤ n ∧ iv = .int .i64 k ∧ Hid (wx.heap[w.heap.size]? = some (.cells (cellsAt vs W) 64 (0, 0))) ∧ Hid (Rows5 wx w.heap.size vs (rowsAt (workerAt W l) k)) ∧ Hid (Below w.heap.size w wx)) (fun iv _ => n - (intOf iv).toNat)
  case atStart =>
    refine ⟨0, fun _ => .slice none 0 0, Nat.zero_le _, rfl, heap_alloc_new w _, ?_, (Below.refl _ w).alloc (Nat.le_refl _) _⟩
    have : rowsAt (workerAt W l) 0 = fun _ => [] := by funext i; unfold rowsAt; split <;> rfl
    rw [this]
    exact Rows5.nil _ _
  case round =>
    obtain ⟨k, vs, hk, rfl, hg, hR, hb⟩ := hrel
    have hgl := blk_lt hg.out
    by_cases hlt : k < n
    · obtain ⟨j, hj⟩ : ∃ j, j = workerAt W l k := ⟨_, rfl⟩
      have hj4 : j < 4 := by rw [hj]; exact Nat.lt_of_lt_of_le (workerAt_lt (by omega) l k) hW2
      go_upto_if 34 with (fail)
      go_cut [9] (fun v9 wc => v9 = .int .i64 j ∧ Hid (wc = wr))
      case first =>
        by_cases hkl : k < l.length
        · obtain ⟨ad, rfl, hc⟩ := Kd.at_int (Kd.C_below HL.out.2 (by exact hb.out)) (k : Int) (by omega) (by omega)
          obtain ⟨x, hx⟩ : ∃ x, x = l.getD k 0 := ⟨_, rfl⟩
          have hc' : wr.cell? (ad.add k) = some (.int .i64 x) := by rw [hx]; exact hc
          clear hc
          obtain ⟨t, et, ht1, ht2, et2, et3⟩ := worker_go (W := W) (by omega) x
          have hjx : x % (W : Int) = (j : Int) := by rw [hj, worker_is (by omega) hkl, hx]
          rw [hjx] at et2 et3
          have hJ := Lib.hid hj
          have hX := Lib.hid hx
          clear hj hx hjx
          have hz : ¬ (W : Int) = 0 := by omega
          go_wp2
          go_meet
          case rel => exact ⟨rfl, rfl⟩
        · have hj0 : j = 0 := by rw [hj]; unfold workerAt; rw [if_neg hkl]
          have hJ0 := Lib.hid hj0
          clear hj0 hj
          go_wp2
          go_meet
          case rel => exact ⟨by rw [hJ0.out]; rfl, rfl⟩
      case rest =>
        obtain ⟨rfl, hwc⟩ := hcut
        obtain rfl := hwc.out
        clear hwc
        have hJ := Lib.hid hj
        clear hj
        have h0 : wc.cell? ⟨w.heap.size, 0, none⟩ = some (vs 0) := (blk_cell hg.out 0).trans (cellsAt_get vs W (by omega))
        have f0 : wc.frozen? ⟨w.heap.size, 0, none⟩ = false := blk_frozen hg.out 0
        have hO := Lib.hid (hR.out.1 0 (by omega))
        have hl0 := rowsAt_length_le (workerAt W l) k 0
        go_wp2_with (at_builtin; refine print_append_num (w0 := w) w.heap.size rfl (.tmp 49) (.tmp 51) 22 3 .i64 8 rfl Try.underlying22 info3 (Nat.succ_pos 7) _ (rowsAt (workerAt W l) k 0) j rfl rfl hO.out hb.out hb.out.size ?qa ?_)
        case qa => omega
        intro v1 w1 hown1 hb1 hg1 hat1
        obtain ⟨g1, cap1, rfl, _, _⟩ := hown1.form (by simp)
        have hR1 := Lib.hid (Rows5.appended (x := (j : Int)) hR.out (i := 0) (by omega) (by simpa [nums] using hown1) hg1 hat1)
        have hgg : Hid (w1.heap[w.heap.size]? = some (.cells (cellsAt vs W) 64 (0, 0))) := blk_grown hg.out hg1 (by
          intro e
          obtain ⟨cells, hc⟩ := own_typed hO.out _ e.symm
          exact blk_ne hc hg.out (by decide) rfl)
        have c1 : w1.cell? ⟨w.heap.size, 0, none⟩ = some (vs 0) := (blk_cell hgg.out 0).trans (cellsAt_get vs W (by omega))
        have f1 : w1.frozen? ⟨w.heap.size, 0, none⟩ = false := blk_frozen hgg.out 0
        have hB1 := Lib.hid hb1
        clear hown1 hb1 hg1 hat1 h0 f0 hO
        go_wp2
        -- members[w] = append(members[w], v): its order is open
        obtain ⟨vs2, hvs2⟩ : ∃ vs2, vs2 = upd vs 0 (Value.slice (some ⟨g1, 0, none⟩) ((rowsAt (workerAt W l) k 0).length + 1) cap1) := ⟨_, rfl⟩
        obtain ⟨ls2, hls2⟩ : ∃ ls2, ls2 = upd (rowsAt (workerAt W l) k) 0 (rowsAt (workerAt W l) k 0 ++ [(j : Int)]) := ⟨_, rfl⟩
        obtain ⟨w2, hw2⟩ : ∃ w2, w2 = w1.setCell ⟨w.heap.size, 0, none⟩ (Value.slice (some ⟨g1, 0, none⟩) ((rowsAt (workerAt W l) k 0).length + 1) cap1) := ⟨_, rfl⟩
        rw [← hw2]
        have hg2 : Hid (w2.heap[w.heap.size]? = some (.cells (cellsAt vs2 W) 64 (0, 0))) := by
          rw [hw2, hvs2, ← cellsAt_set vs W (by omega)]
          exact blk_set hgg.out 0 _
        have hR2 : Hid (Rows5 w2 w.heap.size vs2 ls2) := by
          rw [hw2, hvs2, hls2]
          exact Rows5.far hR1.out hgg.out (by decide) 0 _
        have hB2 : Hid (Below w.heap.size w w2) := by
          rw [hw2]
          exact (show Below _ _ _ from hB1.out).setCell (p := ⟨w.heap.size, 0, none⟩) (Nat.le_refl _) _
        have hlj : Hid (ls2 (j + 1) = rowsAt (workerAt W l) k (j + 1)) := by rw [hls2]; exact upd_other _ _ (by omega)
        have hLS := Lib.hid hls2
        clear hw2 hR1 hgg c1 f1 hB1 hvs2 hls2
        have hlen := rowsAt_length_le (workerAt W l) k (j + 1)
        have hgw := blk_lt hg2.out
        have c2 : w2.cell? ⟨w.heap.size, 1 + j, none⟩ = some (vs2 (j + 1)) := (blk_cell hg2.out (1 + j)).trans (by rw [Nat.add_comm]; exact cellsAt_get vs2 W (by omega))
        have f2 : w2.frozen? ⟨w.heap.size, 1 + j, none⟩ = false := blk_frozen hg2.out _
        have hO2 := Lib.hid (hR2.out.drew.1 (j + 1) (by omega))
        have hj4i : (j : Int) < 4 := by omega
        have hlong : ((ls2 (j + 1)).length + 1) * 8 ≤ 140737488355328 := by rw [hlj.out]; omega
        go_region_law (refine step_append_cells (W := w2.drew) (w0 := w) w.heap.size rfl (.tmp 62) (.tmp 64) 22 3 (.int .i64 0) 1 8 rfl Try.underlying22 info3 rfl Nat.one_pos (Nat.succ_pos 7) (vs2 (j + 1)) (ls2 (j + 1)).length (nums .i64 (ls2 (j + 1))) [.int .i64 k] rfl rfl rfl (one_cell k) hO2.out (below_drew hB2.out) (below_drew hB2.out).size hlong ?_; intro v3 w3 hown3 hb3 hg3 hat3; obtain ⟨g3, cap3, rfl, _, _⟩ := hown3.form (Nat.succ_pos _); have hgg3 := Lib.hid (blk_apart hg2.out hO2.out (by decide) hg3); have c3 := obj_cell hgg3.out hj4; have f3 := blk_frozen hgg3.out (1 + j); have HO3 := Lib.hid hown3; clear hown3)
        all_goals
          go_wp2
          go_roundw
          case measure => simp [intOf]; omega
          case rel =>
            have hr3 := Rows5.appended (x := (k : Int)) hR2.out.drew (i := j + 1) (by omega) HO3.out hg3 hat3
            refine ⟨k + 1, upd vs2 (j + 1) (.slice (some ⟨g3, 0, none⟩) ((ls2 (j + 1)).length + 1) cap3), by omega, by go_num, ?_, ?_, (show Below _ _ _ from hb3).setCell (p := ⟨w.heap.size, 1 + j, none⟩) (Nat.le_refl _) _⟩
            · rw [← cellsAt_set vs2 W (by omega), Nat.add_comm j 1]
              exact blk_set hgg3.out (1 + j) _
            · have hrow : rowsAt (workerAt W l) (k + 1) = upd ls2 (j + 1) (ls2 (j + 1) ++ [(k : Int)]) := by
                rw [rowsAt_succ _ _ (by rw [← hJ.out]; exact hj4), ← hJ.out, ← hLS.out, hlj.out]
              rw [hrow]
              exact Rows5.far hr3 hgg3.out (by decide) (1 + j) _
    · obtain rfl : k = n := by omega
      go_wp2
      go_ret
      refine ⟨_, rfl, ⟨vs, hg.out, fun i hi => IsInts.of_own (hR.out.1 i hi)⟩, Nat.le_refl _, hb⟩
end Go.Proofs.Ytnhhfmmbanimlaa.HP
