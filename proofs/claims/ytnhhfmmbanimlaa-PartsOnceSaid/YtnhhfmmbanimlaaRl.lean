/-
The walk of the statement PartsOnce: for every number of nodes and workers, numbers, and an order's number.
-/
import Derived.Test.YtnhhfmmbanimlaaRk
import Derived.StillTailTactics
import Derived.BigQuiet
set_option linter.unusedVariables false
set_option linter.unusedSimpArgs false
namespace Go.Proofs.Ytnhhfmmbanimlaa.HP
open Go.RowKit Go.Proofs.Ytnhhfmmbanimlaa.HK Go.Proofs.Ytnhhfmmbanimlaa.HQ Go.Proofs.YtnhhfmmbanimlaaW.PrintWords Go.Proofs.YtnhhfmmbanimlaaW.PrintLast Go.Proofs.YtnhhfmmbanimlaaW.PrintMore

/-- The row of counts, at its block. -/
def Seen (w : World) (g : Nat) (l : List Int) : Prop := w.heap[g]? = some (.cells (nums .i64 l).toArray 3 (0, 0))
theorem Seen.below {w w1 : World} {g : Nat} {l : List Int} (h : Seen w g l) (hb : Below w.heap.size w w1) : Seen w1 g l := blk_below h hb
theorem Seen.at_ {w : World} {g : Nat} {l : List Int} (h : Seen w g l) {u : Nat} (hu : u < l.length) : w.cell? ⟨g, u, none⟩ = some (.int .i64 (l.getD u 0)) ∧ w.frozen? ⟨g, u, none⟩ = false := by
  refine ⟨?_, blk_frozen h u⟩
  rw [blk_cell h u]
  simp [nums, hu, List.getD_eq_getElem?_getD]
theorem Seen.put {w : World} {g : Nat} {l : List Int} (h : Seen w g l) (u : Nat) (x : Int) : Seen (w.setCell ⟨g, u, none⟩ (.int .i64 x)) g (l.set u x) := by
  have := blk_set h u (.int .i64 x)
  rw [show (nums .i64 l).toArray.setIfInBounds u (.int .i64 x) = (nums .i64 (l.set u x)).toArray from by simp [nums, List.map_set]] at this
  exact this
theorem back_one {j n m : Nat} (h : j + 1 < n) (hn : m + n ≤ 12) : ((j + 1 : Nat) : Int) - 1 = (j : Int) ∧ IntKind.i64.wrap (((j + 1 : Nat) : Int) - 1) = (j : Int) ∧ wrap64 (j : Int) = (j : Int) ∧ (0 : Int) < ((j + 1 : Nat) : Int) := by
  have e1 : ((j + 1 : Nat) : Int) - 1 = (j : Int) := by omega
  exact ⟨e1, by rw [e1]; exact IntWalk.i64_in _ ⟨by omega, by omega⟩, w64 (by omega) (by omega), by omega⟩
set_option maxHeartbeats 4000000 in
set_option maxRecDepth 100000 in
theorem once_walk (n0 n1 K : Nat) (A : Option Addr) (c : Nat) (l : List Int) (w : World) (h0 : n0 ≤ 255) (h1 : n1 ≤ 255) (hK : K ≤ 18446744073709551615) (hI : IsInts w A c l) :
    Calls Try.prog 10 #[.agg #[.int .u8 n0, .int .u8 n1], .slice A l.length c, .int .u64 K] w fun e w' => e = .returned (.bool true) ∧ Below w.heap.size w w' := by
  obtain ⟨m0, hm0⟩ : ∃ m, m = n0 % 12 := ⟨_, rfl⟩
  obtain ⟨m1, hm1⟩ : ∃ m, m = n1 % 4 := ⟨_, rfl⟩
  have x1 : wrap64 (n0 : Int) = (n0 : Int) := w64 (by clear hm0 hm1; omega) (by clear hm0 hm1; omega)
  have x2 : Int.tmod (n0 : Int) 12 = (m0 : Int) := by rw [hm0]; rfl
  have x2' : (n0 : Int) % 12 = (m0 : Int) := by rw [hm0]; rfl
  have y1 : wrap64 (n1 : Int) = (n1 : Int) := w64 (by clear hm0 hm1; omega) (by clear hm0 hm1; omega)
  have y2 : Int.tmod (n1 : Int) 4 = (m1 : Int) := by rw [hm1]; rfl
  have y2' : (n1 : Int) % 4 = (m1 : Int) := by rw [hm1]; rfl
  have hm0l : m0 < 12 := by rw [hm0]; exact Nat.mod_lt _ (by decide)
  have hm1l : m1 < 4 := by rw [hm1]; exact Nat.mod_lt _ (by decide)
  clear hm0 hm1
  obtain ⟨N, hN⟩ : ∃ N, N = m0 + 1 := ⟨_, rfl⟩
  obtain ⟨W, hW⟩ : ∃ W, W = m1 + 1 := ⟨_, rfl⟩
  have hN1 : 1 ≤ N ∧ N ≤ 12 := by omega
  have hW1 : 1 ≤ W ∧ W ≤ 4 := by omega
  have z1 : (m0 : Int) + 1 = (N : Int) := by omega
  have z2 : (m1 : Int) + 1 = (W : Int) := by omega
  clear hN hW
  have hmk := print_make 22 3 .i64 8 Try.underlying22 info3 (Nat.succ_pos 7) N (by omega)
  have HI := Lib.hid (hI.below ((Below.refl _ w).alloc (Nat.le_refl _) (.cells #[.int .u8 n0, .int .u8 n1] 58)))
  clear hI
  go_enter Try.func10, Try.ntmps10
  go_wp2_with (fail)
  obtain ⟨wa, hwa⟩ : ∃ wa, wa = w.alloc (.cells #[.int .u8 n0, .int .u8 n1] 58) := ⟨_, rfl⟩
  have q0 : wa.cell? ⟨w.heap.size, 0, none⟩ = some (.int .u8 n0) := by rw [hwa]; exact (blk_cell (blk_new w _) 0).trans rfl
  have q1 : wa.cell? ⟨w.heap.size, 1, none⟩ = some (.int .u8 n1) := by rw [hwa]; exact (blk_cell (blk_new w _) 1).trans rfl
  have HBa : Hid (Below w.heap.size w wa) := by rw [hwa]; exact (Below.refl _ w).alloc (Nat.le_refl _) _
  rw [← hwa] at HI ⊢
  clear hwa
  have hF : ∀ W', Below wa.heap.size wa W' → Calls Try.prog 13 #[.slice A l.length c] W' fun e w' => e = .returned (.slice A (l.take 20).length c) ∧ w' = W' := by
    intro W' hb
    refine (few_calls A c l W' (HI.out.below hb)).mono ?_
    rintro e w' ⟨rfl, _, rfl⟩
    exact ⟨rfl, rfl⟩
  have hN : ∀ W', Below wa.heap.size wa W' → Calls Try.prog 12 #[.int .i64 N, .int .i64 W, .slice A (l.take 20).length c] W' fun e w' => ∃ g, e = .returned (.pointer (some ⟨g, 0, none⟩)) ∧ IsParts w' g (workerAt W (l.take 20)) N W ∧ W'.heap.size ≤ g ∧ Below W'.heap.size W' w' := by
    intro W' hb
    have hI2 : IsInts W' A c (l.take 20) := by
      by_cases hl : 20 ≤ l.length
      · exact (HI.out.below hb).take 20 hl
      · rw [List.take_of_length_le (by omega)]; exact HI.out.below hb
    exact new_made N W A c (l.take 20) W' hN1 hW1 hI2
  generalize l.take 20 = l1 at *
  have HF := Lib.hid hF
  have HNw := Lib.hid hN
  clear hF hN HI
  have X1 : IntKind.i64.wrap (n0 : Int) = (n0 : Int) := IntWalk.i64_in _ ⟨by omega, by omega⟩
  have Y1 : IntKind.i64.wrap (n1 : Int) = (n1 : Int) := IntWalk.i64_in _ ⟨by omega, by omega⟩
  have Z1 : IntKind.i64.wrap (N : Int) = (N : Int) := IntWalk.i64_in _ ⟨by omega, by omega⟩
  have Z2 : IntKind.i64.wrap (W : Int) = (W : Int) := IntWalk.i64_in _ ⟨by omega, by omega⟩
  go_still_tail 12, (by kernel_rfl)

  still_call (HF.out _ (below_drew (Below.refl _ _)))
  refine wpStill_nil ?_
  change wpList _ _ _ _ _ wa.drew
  have HN2 := Lib.hid (HNw.out wa.drew (below_drew (Below.refl _ _)))
  have HBb := Lib.hid (below_drew HBa.out)
  generalize wa.drew = wb at *
  clear HF HNw HBa q0 q1 x1 x2 x2' y1 y2 y2' z1 z2 X1 Y1 Z1 Z2
  go_wp2_with (fail)
  refine HN2.out.mono ?_
  rintro e wc ⟨g, rfl, hP, hg, hb1⟩
  have HP := Lib.hid hP
  have HB := Lib.hid (below_then HBb.out HBb.out.size hb1)
  have hfl : Hid (∀ v, workerAt W l1 v < W) := workerAt_lt (by omega) l1
  obtain ⟨f, hf⟩ : ∃ f, f = workerAt W l1 := ⟨_, rfl⟩
  rw [← hf] at HP hfl
  clear hP hb1 HN2 HBb hf hg hm0l hm1l
  go_wp2_with (fail)
  refine (live_calls _).mono ?_
  rintro e wd ⟨rfl, hb2⟩
  have HP2 := Lib.hid (HP.out.below hb2)
  have HB2 := Lib.hid (below_then HB.out HB.out.size hb2)
  clear hb2 HP HB
  go_wp2_with (fail)
  refine (nodes_calls g f N W _ HP2.out).mono ?_
  rintro e we ⟨rfl, rfl⟩
  go_wp2_with (fail)
  have HS0 : Hid (Seen (wd.alloc (.cells (madeCells #[.int .i64 0] N) 3)) wd.heap.size (tally N [])) := by
    have := blk_new wd (.cells (madeCells #[.int .i64 0] N) 3)
    show _ = _
    rw [this, made_one, tally_nil]
    simp [nums]
  have HP3 := Lib.hid (HP2.out.below ((Below.refl _ wd).alloc (Nat.le_refl _) (.cells (madeCells #[.int .i64 0] N) 3)))
  have HB3 : Hid (Below w.heap.size w (wd.alloc (.cells (madeCells #[.int .i64 0] N) 3))) := HB2.out.alloc HB2.out.size _
  obtain ⟨B, hB⟩ : ∃ B, B = wd.heap.size := ⟨_, rfl⟩
  rw [← hB] at HS0 ⊢
  have HBs : Hid (B < (wd.alloc (.cells (madeCells #[.int .i64 0] N) 3)).heap.size) := by show _ < _; rw [World.size_alloc, hB]; omega
  have hgB : Hid (w.heap.size ≤ B) := by rw [hB]; exact HB2.out.size
  have hP0 : Hid (∀ W', Below B wd W' → IsParts W' g f N W) := fun W' hb => HP2.out.below (by rw [hB] at hb; exact hb)
  have hBel : Hid (Below B wd (wd.alloc (.cells (madeCells #[.int .i64 0] N) 3))) := by rw [hB]; exact (Below.refl _ _).alloc (Nat.le_refl _) _
  have HBw : Hid (∀ W', Below B wd W' → Below w.heap.size w W') := fun W' hb => below_then HB2.out HB2.out.size (by rw [hB] at hb; exact hb)
  generalize (wd.alloc (.cells (madeCells #[.int .i64 0] N) 3)) = w1 at *
  clear hB HP2 HP3 HB2 HB3
  go_loopw [9] (fun iv wr => ∃ k : Nat, k ≤ W ∧ iv = .int .i64 k ∧ Hid (Seen wr B (tally N (ordersTo f N K k))) ∧ Hid (Below B wd wr)) (fun iv _ => W - (intOf iv).toNat)
  case atStart => exact ⟨0, Nat.zero_le _, rfl, HS0.out, hBel.out⟩
  case round =>
    obtain ⟨k, hk, rfl, hS, hbr⟩ := hrel
    have HPr := Lib.hid (hP0.out _ hbr.out)
    have hBr := blk_lt hS.out
    go_wp2_with (fail)
    refine (workers_calls g f N W _ HPr.out).mono ?_
    rintro e wr' ⟨rfl, rfl⟩
    by_cases hlt : k < W
    · go_wp2_with (fail)
      refine (members_made g f N W k _ (by omega) (by omega) HPr.out).mono ?_
      rintro e we ⟨A1, c1, rfl, ⟨hI1, hM1⟩, hb1⟩
      have HP2 := Lib.hid (HPr.out.below hb1)
      have HS2 := Lib.hid (hS.out.below hb1)
      have HB2 := Lib.hid (below_then hbr.out (Nat.le_of_lt hBr) hb1)
      have HI1 := Lib.hid hI1
      have HM1 : Hid (Made (B + 1) A1 (nodesOf f N k).length) := hM1.le hBr
      clear hI1 hM1 hb1 HPr hS hbr
      go_wp2_with (fail)
      have hBr2 := blk_lt HS2.out
      refine (order_made g f N W k K _ (by omega) (by omega) hK HP2.out).mono ?_
      rintro e wf ⟨A2, c2, rfl, ⟨hI2, hM2⟩, hb2⟩
      have HP3 := Lib.hid (HP2.out.below hb2)
      have HS3 := Lib.hid (HS2.out.below hb2)
      have HB3 := Lib.hid (below_then HB2.out (Nat.le_of_lt hBr2) hb2)
      have HI1b := Lib.hid (HI1.out.below hb2)
      have HI2 := Lib.hid hI2
      have HM2 : Hid (Made (B + 1) A2 (orderOf f N k K).length) := hM2.le hBr2
      have hol := orderOf_len f N k K (by omega)
      have hll : (nodesOf f N k).length = lenAt f N k := rfl
      have HO1 := Lib.hid (orderOf_perm f N k K (by omega))
      have hsum := ordersTo_len f N K (by omega) (k + 1)
      have hsle := sumLens_le f N (k + 1)
      rw [hsum.symm] at hsle
      have hcat : ordersTo f N K (k + 1) = ordersTo f N K k ++ orderOf f N k K := rfl
      have HC := Lib.hid hcat
      rw [hcat, List.length_append] at hsle
      have HUP : Hid (∀ i, i + 1 < (nodesOf f N k).length → (nodesOf f N k).getD i 0 < (nodesOf f N k).getD (i + 1) 0) := fun i hi => nodesOf_up hi
      have HME : Hid (∀ x ∈ nodesOf f N k, ∃ u : Nat, x = u ∧ u < N ∧ f u = k) := fun x hx => mem_nodesOf hx
      rw [← hol] at hll
      clear hI2 hM2 hb2 HP2 HS2 HB2 HI1 hol hsum hcat
      generalize nodesOf f N k = L1 at *
      generalize orderOf f N k K = O at *
      generalize ordersTo f N K k = T at *
      have HLL := Lib.hid hll
      have HSL := Lib.hid hsle
      clear hll hsle
      rw [HLL.out]
      go_wp2_with (fail)
      go_loopw [12] (fun iv wr => ∃ i : Nat, i ≤ O.length ∧ iv = .int .i64 i ∧ Hid (Seen wr B (tally N (T ++ O.take i))) ∧ Hid (Below B wd wr) ∧ Hid (IsInts wr A1 c1 L1) ∧ Hid (IsInts wr A2 c2 O)) (fun iv _ => O.length - (intOf iv).toNat)
      case atStart => exact ⟨0, Nat.zero_le _, rfl, by rw [List.take_zero, List.append_nil]; exact HS3.out, HB3.out, HI1b.out, HI2.out⟩
      case round =>
        clear HS3 HP3 HB3 HI1b HI2 HS0 hBel hBr hBr2
        obtain ⟨i, hi, rfl, hS, hbr, hJ1, hJ2⟩ := hrel
        by_cases hlti : i < O.length
        · have HPr := Lib.hid (hP0.out _ hbr.out)
          obtain ⟨ad2, rfl, hcell2⟩ := Kd.at_int hJ2.out.2 (i : Int) (by omega) (by omega)
          obtain ⟨ad1, rfl, hcell1⟩ := Kd.at_int hJ1.out.2 (i : Int) (by omega) (by rw [HLL.out]; omega)
          have hmem : O.getD i 0 ∈ O := by
            rw [List.getD_eq_getElem?_getD, List.getElem?_eq_getElem hlti]
            exact List.getElem_mem _
          obtain ⟨u, hu, huN, hfu⟩ := HME.out _ (HO1.out.mem_iff.1 hmem)
          have hcu : wr.cell? (ad2.add i) = some (.int .i64 u) := by
            refine hcell2.trans ?_
            show some (Value.int .i64 (O.getD i 0)) = _
            rw [hu]
          obtain ⟨y1, hy1⟩ : ∃ y, y = L1.getD i 0 := ⟨_, rfl⟩
          have hc1 : wr.cell? (ad1.add i) = some (.int .i64 y1) := by rw [hy1]; exact hcell1
          have hOf : Hid (∀ q, Calls Try.prog 15 #[.pointer (some ⟨g, 0, none⟩), .int .i64 u] (wr.drewN q) fun e w' => e = .returned (.int .i64 k) ∧ w' = wr.drewN q) := by
            intro q
            refine (of_calls g f N W u _ (HPr.out.below (pw_below_drewN (Below.refl _ _) q))).mono ?_
            rintro e w' ⟨rfl, rfl⟩
            refine ⟨?_, rfl⟩
            unfold ofAt
            rw [if_pos ⟨by omega, by omega⟩, Int.toNat_natCast, hfu]
          have htk : T ++ O.take (i + 1) = (T ++ O.take i) ++ [(u : Int)] := by
            rw [List.take_succ_eq_append_getElem hlti, ← List.append_assoc, ← hu, List.getD_eq_getElem?_getD, List.getElem?_eq_getElem hlti]
            rfl
          have htl := tally_len N (T ++ O.take i)
          obtain ⟨hcs, hfz⟩ := hS.out.at_ (u := u) (by rw [htl]; exact huN)
          have hza := tally_at N (T ++ O.take i) huN
          have hzl : (T ++ O.take i).count (u : Int) ≤ (T ++ O.take i).length := List.count_le_length
          rw [List.length_append, List.length_take] at hzl
          have hsn := Lib.hid (tally_snoc N (T ++ O.take i) huN)
          obtain ⟨z, hz⟩ : ∃ z, z = (T ++ O.take i).count (u : Int) := ⟨_, rfl⟩
          rw [← hz] at hza hzl
          rw [hza] at hcs
          rw [hza] at hsn
          have hz13 : z ≤ 13 := by have := HSL.out; omega
          have HTK := Lib.hid htk
          have hBl := blk_lt hS.out
          clear hcell2 hcell1 hmem hu hfu htk htl hza hzl hz HPr
          have hnu1 : ¬ ((u : Int) < 0) := by omega
          have hnu2 : ¬ ((N : Int) ≤ (u : Int)) := by omega
          have hd1 : decide ((u : Int) < 0) = false := decide_eq_false hnu1
          have hd2 : decide ((N : Int) ≤ (u : Int)) = false := decide_eq_false hnu2
          have hd2' : decide (N ≤ u) = false := decide_eq_false (by omega)
          have hd3 : ((k : Int) != (k : Int)) = false := by simp
          by_cases hi0 : i = 0
          · subst hi0
            have hcu0 : wr.cell? ad2 = some (.int .i64 u) := hcu
            have hc10 : wr.cell? ad1 = some (.int .i64 y1) := hc1
            go_wp2_with (fail)
            go_quiet ((go_at_call 15; with_reducible exact Calls.quiet_of_same (hOf.out _)))
            clear hOf HME HUP
            go_wp2_with (fail)
            go_roundw
            case measure => simp [intOf]; omega
            case rel =>
              have hw2 : Below B wd ((wr.drewN nq).setCell ⟨B, u, none⟩ (.int .i64 ((z : Int) + 1))) := (pw_below_drewN hbr.out nq).setCell (p := ⟨B, u, none⟩) (Nat.le_refl _) _
              refine ⟨0 + 1, by omega, by go_num, ?_, hw2, IsInts.far (hJ1.out.below (pw_below_drewN (Below.refl _ _) nq)) HM1.out (Nat.lt_succ_self B) _, IsInts.far (hJ2.out.below (pw_below_drewN (Below.refl _ _) nq)) HM2.out (Nat.lt_succ_self B) _⟩
              rw [HTK.out, hsn.out]
              exact Seen.put (w := wr.drewN nq) (blk_drewN hS.out nq) u _
          · have hup := HUP.out (i - 1) (by rw [HLL.out]; omega)
            rw [show i - 1 + 1 = i by omega, ← hy1] at hup
            obtain ⟨ad3, e3, hcell3⟩ := Kd.at_int hJ1.out.2 ((i : Int) - 1) (by omega) (by rw [HLL.out]; omega)
            obtain rfl := Option.some.inj e3
            have ei : ((i : Int) - 1).toNat = i - 1 := by omega
            obtain ⟨y0, hy0⟩ : ∃ y, y = L1.getD (i - 1) 0 := ⟨_, rfl⟩
            have hc0 : wr.cell? (ad1.add ((i : Int) - 1).toNat) = some (.int .i64 y0) := by rw [hy0, hcell3]; show some (Value.int .i64 (L1.getD ((i : Int) - 1).toNat 0)) = _; rw [ei]
            have hc0' : wr.cell? (ad1.add (i - 1)) = some (.int .i64 y0) := by rw [← ei]; exact hc0
            rw [← hy0] at hup
            have hi12 : i ≤ 12 := by have := HSL.out; omega
            have hpos : (0 : Int) < (i : Int) := by omega
            have hpos2 : 0 < i := by omega
            have hd5 : decide ((0 : Int) < (i : Int)) = true := decide_eq_true hpos
            have hd6 : decide (0 < i) = true := decide_eq_true hpos2
            have hnle : ¬ (y1 ≤ y0) := by omega
            have hd4 : decide (y1 ≤ y0) = false := decide_eq_false hnle
            clear hcell3 e3 hy0 hy1 ei
            go_wp2_with (fail)
            go_quiet ((go_at_call 15; with_reducible exact Calls.quiet_of_same (hOf.out _)))
            clear hOf HME HUP
            go_wp2_with (fail)
            go_roundw
            case measure => simp [intOf]; omega
            case rel =>
              have hw2 : Below B wd ((wr.drewN nq).setCell ⟨B, u, none⟩ (.int .i64 ((z : Int) + 1))) := (pw_below_drewN hbr.out nq).setCell (p := ⟨B, u, none⟩) (Nat.le_refl _) _
              refine ⟨i + 1, by omega, by go_num, ?_, hw2, IsInts.far (hJ1.out.below (pw_below_drewN (Below.refl _ _) nq)) HM1.out (Nat.lt_succ_self B) _, IsInts.far (hJ2.out.below (pw_below_drewN (Below.refl _ _) nq)) HM2.out (Nat.lt_succ_self B) _⟩
              rw [HTK.out, hsn.out]
              exact Seen.put (w := wr.drewN nq) (blk_drewN hS.out nq) u _
        · obtain rfl : i = O.length := by omega
          rw [List.take_length, ← HC.out] at hS
          go_wp2_with (fail)
          go_roundw
          case measure => simp [intOf]; omega
          case rel => exact ⟨k + 1, by omega, by go_num, hS.out, hbr.out⟩
    · obtain rfl : k = W := by omega
      have hall : Hid (Seen wr B (List.replicate N 1)) := by
        have := hS.out
        rw [ordersTo_all (by omega) hfl.out] at this
        exact this
      have HB4 := Lib.hid (HBw.out _ hbr.out)
      clear hS hbr HPr HS0 hBel hP0 HBw hBr
      go_wp2_with (fail)
      go_loop [13] (fun iv => ∃ i : Nat, i ≤ N ∧ iv = .int .i64 i) (fun iv => N - (intOf iv).toNat)
      case atStart => exact ⟨0, Nat.zero_le _, rfl⟩
      case round =>
        obtain ⟨i, hi, rfl⟩ := hrel
        by_cases hlti : i < N
        · have hc := (hall.out.at_ (u := i) (by simpa using hlti)).1
          have e1 : (List.replicate N (1 : Int)).getD i 0 = 1 := by simp [List.getD_eq_getElem?_getD, hlti]
          rw [e1] at hc
          go_wp2_with (fail)
          case roundEnd =>
            refine ⟨⟨i + 1, by omega, by go_num⟩, ?_⟩
            simp [intOf]; omega
        · obtain rfl : i = N := by omega
          go_wp2_with (fail)
          go_ret
          exact ⟨rfl, HB4.out⟩
end Go.Proofs.Ytnhhfmmbanimlaa.HP
