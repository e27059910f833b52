/-
Nodes that are spread are even, in whatever order: plain, with no program in sight.
-/
import Derived.Test.YtnhhfmmbanimlaaRh
set_option linter.unusedVariables false
set_option linter.unusedSimpArgs false
namespace Go.Proofs.Ytnhhfmmbanimlaa.HP
open Go.RowKit Go.Proofs.Ytnhhfmmbanimlaa.HK Go.Proofs.Ytnhhfmmbanimlaa.HQ Go.Proofs.YtnhhfmmbanimlaaW.PrintWords Go.Proofs.YtnhhfmmbanimlaaW.PrintLast Go.Proofs.YtnhhfmmbanimlaaW.PrintMore

/-- The j-th thing of an order, as a place. -/
def placeAt (P : List Int) (j : Nat) : Nat := (P.getD j 0).toNat
theorem places (P : List Int) : (List.range P.length).map (placeAt P) = P.map Int.toNat := by
  apply List.ext_getElem
  · simp
  · intro i h1 h2
    simp [placeAt, List.getD_eq_getElem?_getD, List.getElem?_eq_getElem (show i < P.length by simpa using h2)]
theorem places_perm {n K : Nat} (hn : n ≤ 16) : ((List.range n).map (placeAt (orderN n K))).Perm (List.range n) := by
  have h := places (orderN n K)
  rw [(orderN_facts n K hn).2] at h
  rw [h]
  have hp := (orderN_perm n K hn).map Int.toNat
  refine hp.trans ?_
  unfold upTo
  rw [List.map_map]
  have : (Int.toNat ∘ fun i : Nat => (i : Int)) = id := by funext i; simp
  rw [this, List.map_id]
theorem places_inj {n K : Nat} (hn : n ≤ 16) {i j : Nat} (hi : i < n) (hj : j < n) (h : placeAt (orderN n K) i = placeAt (orderN n K) j) : i = j := by
  have hnd : ((List.range n).map (placeAt (orderN n K))).Nodup := (places_perm hn).nodup_iff.2 List.nodup_range
  have hl : ((List.range n).map (placeAt (orderN n K))).length = n := by simp
  have hq := List.pairwise_iff_getElem.1 hnd
  rcases Nat.lt_trichotomy i j with h1 | h1 | h1
  · exact absurd (by rw [List.getElem_map, List.getElem_map, List.getElem_range, List.getElem_range]; exact h) (hq i j (by omega) (by omega) h1)
  · exact h1
  · exact absurd (by rw [List.getElem_map, List.getElem_map, List.getElem_range, List.getElem_range]; exact h.symm) (hq j i (by omega) (by omega) h1)
theorem spread_at {n K W : Nat} (hn : n ≤ 16) : ∀ j, j ≤ n → ∀ i, i < j → (spreadTo (orderN n K) W j).getD (placeAt (orderN n K) i) 0 = ((i % W : Nat) : Int)
  | 0, _, i, hi => by omega
  | j + 1, hj, i, hi => by
    have hl := spreadTo_len (orderN n K) W j
    rw [(orderN_facts n K hn).2] at hl
    have hpl : ∀ k, k < n → placeAt (orderN n K) k < n := by
      intro k hk
      obtain ⟨u, hu, hun⟩ := orderN_at (n := n) (K := K) hn hk
      unfold placeAt
      rw [hu]
      simpa using hun
    show ((spreadTo (orderN n K) W j).set (placeAt (orderN n K) j) ((j % W : Nat) : Int)).getD (placeAt (orderN n K) i) 0 = _
    by_cases h : i = j
    · subst h
      rw [List.getD_eq_getElem?_getD, List.getElem?_set_self (by rw [hl]; exact hpl i (by omega))]
      rfl
    · rw [List.getD_eq_getElem?_getD, List.getElem?_set_ne (fun e => h (places_inj hn (by omega) (by omega) e.symm)), ← List.getD_eq_getElem?_getD]
      exact spread_at hn j (by omega) i (by omega)
theorem spread_worker {n K W : Nat} (hn : n ≤ 16) (hW : 1 ≤ W) {i : Nat} (hi : i < n) : workerAt W (spreadTo (orderN n K) W n) (placeAt (orderN n K) i) = i % W := by
  have hl := spreadTo_len (orderN n K) W n
  rw [(orderN_facts n K hn).2] at hl
  have hp : placeAt (orderN n K) i < n := by
    obtain ⟨u, hu, hun⟩ := orderN_at (n := n) (K := K) hn hi
    unfold placeAt
    rw [hu]
    simpa using hun
  unfold workerAt
  rw [if_pos (by rw [hl]; exact hp), spread_at hn n (Nat.le_refl _) i hi]
  have h1 : ((i % W : Nat) : Int) % (W : Int) = ((i % W % W : Nat) : Int) := rfl
  rw [h1, Nat.mod_mod]
  rfl
theorem lenAt_count (f : Nat → Nat) (n i : Nat) : lenAt f n i = (List.range n).countP (fun v => f v == i) := by
  unfold lenAt nodesOf
  rw [List.length_map, List.countP_eq_length_filter]
theorem spread_len {n K W : Nat} (hn : n ≤ 16) (hW : 1 ≤ W) (i : Nat) : lenAt (workerAt W (spreadTo (orderN n K) W n)) n i = lenAt (fun v => v % W) n i := by
  rw [lenAt_count, lenAt_count, ← (places_perm (K := K) hn).countP_eq, List.countP_map]
  apply List.countP_congr
  intro v hv
  simp only [Function.comp]
  rw [spread_worker hn hW (List.mem_range.1 hv)]
theorem evenOf_congr {f g : Nat → Nat} {n : Nat} (h : ∀ i, lenAt f n i = lenAt g n i) (W : Nat) : evenOf f n W = evenOf g n W := by
  have h1 : ∀ k, leastOf f n k = leastOf g n k := fun k => by
    induction k with
    | zero => rfl
    | succ k ih => rw [leastOf, leastOf, ih, h]
  have h2 : ∀ k, mostOf f n k = mostOf g n k := fun k => by
    induction k with
    | zero => rfl
    | succ k ih => rw [mostOf, mostOf, ih, h]
  unfold evenOf
  rw [h1, h2]
theorem turns_even : ∀ n, n < 13 → ∀ W, W < 5 → 1 ≤ W → evenOf (fun v => v % W) n W = true := by decide +kernel
theorem spread_even {n K W : Nat} (hn : n ≤ 12) (hW : 1 ≤ W ∧ W ≤ 4) : evenOf (workerAt W (spreadTo (orderN n K) W n)) n W = true := by
  rw [evenOf_congr (spread_len (K := K) (by omega) hW.1)]
  exact turns_even n (by omega) W (by omega) hW.1

theorem refSpread_nil (a b K : Int) (w : World) (h : ¬ (1 ≤ a ∧ a ≤ 12 ∧ 1 ≤ b ∧ b ≤ 4)) :
    Calls Try.prog 39 #[.int .i64 a, .int .i64 b, .int .u64 K] w fun e w' => e = .returned (.slice none 0 0) ∧ w' = w := by
  have hN := Lib.hid (fun w => refNew_nil a b w h)
  clear h
  go_enter Try.func39, Try.ntmps39
  go_wp2_with (fail)
  refine (hN.out _).mono ?_
  rintro e wa ⟨rfl, rfl⟩
  go_wp2_with (fail)
  go_ret
  exact ⟨rfl, rfl⟩
set_option maxHeartbeats 4000000 in
set_option maxRecDepth 100000 in
theorem spread_walk (a b : Int) (K : Nat) (w : World) (hK : K ≤ 18446744073709551615) :
    Calls Try.prog 9 #[.agg #[.int .i64 a, .int .i64 b], .int .u64 K] w fun e w' => e = .returned (.bool true) ∧ Below w.heap.size w w' := by
  by_cases hok : 1 ≤ a ∧ a ≤ 12 ∧ 1 ≤ b ∧ b ≤ 4
  · obtain ⟨n, rfl⟩ := Int.eq_ofNat_of_zero_le (show 0 ≤ a by omega)
    obtain ⟨W, rfl⟩ := Int.eq_ofNat_of_zero_le (show 0 ≤ b by omega)
    have hn : 1 ≤ n ∧ n ≤ 12 := ⟨by omega, by omega⟩
    have hW : 1 ≤ W ∧ W ≤ 4 := ⟨by omega, by omega⟩
    have hev := Lib.hid (spread_even (K := K) hn.2 hW)
    have hS := Lib.hid (fun w => spread_calls n W K w hn hW hK)
    have hR := Lib.hid (fun w => refSpread_calls n W K w hn hW hK)
    have hSl : (spreadTo (orderN n K) W n).length = n := by rw [spreadTo_len, (orderN_facts n K (by omega)).2]
    obtain ⟨S, hs⟩ : ∃ S, S = spreadTo (orderN n K) W n := ⟨_, rfl⟩
    rw [← hs] at hev hS hR hSl
    have HSl := Lib.hid hSl
    clear hs hok hSl
    go_enter Try.func9, Try.ntmps9
    go_wp2_with (fail)
    have hbk := Lib.hid (blk_new w (.cells #[.int .i64 n, .int .i64 W] 54))
    refine (hS.out _).mono ?_
    rintro e wa ⟨A1, c1, rfl, hI1, hb1⟩
    have hk1 := Lib.hid (blk_below hbk.out hb1)
    have HI1 := Lib.hid hI1
    have HB1 := Lib.hid (below_then ((Below.refl _ w).alloc (Nat.le_refl _) _) (by simp) hb1)
    clear hb1 hI1 hbk
    go_wp2_with (fail)
    refine (live_calls _).mono ?_
    rintro e wb ⟨rfl, hb2⟩
    have hk2 := blk_below hk1.out hb2
    have HI2 := Lib.hid (HI1.out.below hb2)
    have HB2 := Lib.hid (below_then HB1.out HB1.out.size hb2)
    have x0 : wb.cell? ⟨w.heap.size, 0, none⟩ = some (.int .i64 n) := (blk_cell hk2 0).trans rfl
    have x1 : wb.cell? ⟨w.heap.size, 1, none⟩ = some (.int .i64 W) := (blk_cell hk2 1).trans rfl
    have HK2 := Lib.hid hk2
    clear hb2 hk2 hk1 HI1 HB1
    go_wp2_with (fail)
    refine (hR.out _).mono ?_
    rintro e wc ⟨A2, c2, rfl, hI3, hb3⟩
    have HK3 := Lib.hid (blk_below HK2.out hb3)
    have HI3 := Lib.hid (HI2.out.below hb3)
    have HI4 := Lib.hid hI3
    have HB3 := Lib.hid (below_then HB2.out HB2.out.size hb3)
    clear hb3 hI3 HK2 HI2 HB2 x0 x1
    go_wp2_with (fail)
    refine (HQ.same_call S _ _ _ _ _ HI3.out HI4.out (by rw [HSl.out]; omega)).mono ?_
    rintro e wd ⟨rfl, hb4⟩
    have hk4 := blk_below HK3.out hb4
    have HI5 := Lib.hid (HI3.out.below hb4)
    have HB4 := Lib.hid (below_then HB3.out HB3.out.size hb4)
    have x0 : wd.cell? ⟨w.heap.size, 0, none⟩ = some (.int .i64 n) := (blk_cell hk4 0).trans rfl
    have x1 : wd.cell? ⟨w.heap.size, 1, none⟩ = some (.int .i64 W) := (blk_cell hk4 1).trans rfl
    clear hb4 hk4 HI3 HI4 HB3 HK3
    go_wp2_with (fail)
    refine (new_made n W A1 c1 S _ hn hW HI5.out).mono ?_
    rintro e we ⟨g, rfl, hP, _, hb5⟩
    have HP := Lib.hid hP
    have HB5 := Lib.hid (below_then HB4.out HB4.out.size hb5)
    have hSl := HSl.out
    have hnz : ((n : Int) == 0) = false := by simp; omega
    clear hP hb5 HI5 HB4 x0 x1
    go_wp2_with (fail)
    refine (even_calls g _ n W _ (by omega) (by omega) HP.out).mono ?_
    rintro e wf ⟨rfl, q, rfl⟩
    have HP2 := Lib.hid (HP.out.below (pw_below_drewN (Below.refl _ _) q))
    have HB6 := Lib.hid (pw_below_drewN HB5.out q)
    rw [hev.out]
    clear HP HB5
    go_wp2_with (fail)
    refine (nodes_calls g _ n W _ HP2.out).mono ?_
    rintro e wg ⟨rfl, rfl⟩
    go_wp2_with (fail)
    go_ret
    exact ⟨rfl, HB6.out⟩
  · have hS := Lib.hid (fun w => spread_nil a b K w hok)
    have hN := Lib.hid (fun w => refSpread_nil a b K w hok)
    have hM := Lib.hid (fun w => new_nil a b none 0 [] w hok)
    clear hok
    go_enter Try.func9, Try.ntmps9
    go_wp2_with (fail)
    have hbk := Lib.hid (blk_new w (.cells #[.int .i64 a, .int .i64 b] 54))
    refine (hS.out _).mono ?_
    rintro e wa ⟨rfl, rfl⟩
    go_wp2_with (fail)
    refine (live_calls _).mono ?_
    rintro e wb ⟨rfl, hb2⟩
    have hk2 := blk_below hbk.out hb2
    have HB2 := Lib.hid (below_then ((Below.refl _ w).alloc (Nat.le_refl _) _) (by simp) hb2)
    have x0 : wb.cell? ⟨w.heap.size, 0, none⟩ = some (.int .i64 a) := (blk_cell hk2 0).trans rfl
    have x1 : wb.cell? ⟨w.heap.size, 1, none⟩ = some (.int .i64 b) := (blk_cell hk2 1).trans rfl
    have HK2 := Lib.hid hk2
    clear hb2 hk2 hbk
    go_wp2_with (fail)
    refine (hN.out _).mono ?_
    rintro e wc ⟨rfl, rfl⟩
    go_wp2_with (fail)
    refine (HQ.same_call [] none none 0 0 _ ⟨Nat.le_refl _, rfl, by decide, fun h => absurd h (by decide)⟩ ⟨Nat.le_refl _, rfl, by decide, fun h => absurd h (by decide)⟩ (by decide)).mono ?_
    rintro e wd ⟨rfl, hb4⟩
    have hk4 := blk_below HK2.out hb4
    have HB4 := Lib.hid (below_then HB2.out HB2.out.size hb4)
    have x0 : wd.cell? ⟨w.heap.size, 0, none⟩ = some (.int .i64 a) := (blk_cell hk4 0).trans rfl
    have x1 : wd.cell? ⟨w.heap.size, 1, none⟩ = some (.int .i64 b) := (blk_cell hk4 1).trans rfl
    clear hb4 hk4 HB2 HK2
    go_wp2_with (fail)
    refine (hM.out _).mono ?_
    rintro e we ⟨rfl, rfl⟩
    go_wp2_with (fail)
    go_ret
    exact ⟨rfl, HB4.out⟩
end Go.Proofs.Ytnhhfmmbanimlaa.HP
