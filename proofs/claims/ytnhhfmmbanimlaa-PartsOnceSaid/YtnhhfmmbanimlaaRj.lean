/-
The walk of the statement TopDealt: for every number of nodes and workers, an order's number, and edges.
-/
import Derived.Test.YtnhhfmmbanimlaaRi
import Derived.Test.YtnhhfmmbanimlaaRg
set_option linter.unusedVariables false
set_option linter.unusedSimpArgs false
namespace Go.Proofs.Ytnhhfmmbanimlaa.HP
open Go.RowKit Go.Proofs.Ytnhhfmmbanimlaa.HK Go.Proofs.Ytnhhfmmbanimlaa.HQ Go.Proofs.YtnhhfmmbanimlaaW.PrintWords Go.Proofs.YtnhhfmmbanimlaaW.PrintLast Go.Proofs.YtnhhfmmbanimlaaW.PrintMore

def sumLens (f : Nat → Nat) (n : Nat) : Nat → Nat
  | 0 => 0
  | k + 1 => sumLens f n k + lenAt f n k
theorem count_split (f : Nat → Nat) (k : Nat) : ∀ l : List Nat, l.countP (fun v => decide (f v < k + 1)) = l.countP (fun v => decide (f v < k)) + l.countP (fun v => f v == k)
  | [] => rfl
  | a :: l => by
    rw [List.countP_cons, List.countP_cons, List.countP_cons, count_split f k l]
    rcases Nat.lt_trichotomy (f a) k with h | h | h
    · have h1 : f a < k + 1 := by omega
      have h2 : ¬ f a = k := by omega
      simp [h, h1, h2]; omega
    · have h1 : f a < k + 1 := by omega
      have h2 : ¬ f a < k := by omega
      simp [h]; omega
    · have h1 : ¬ f a < k + 1 := by omega
      have h2 : ¬ f a = k := by omega
      have h3 : ¬ f a < k := by omega
      simp [h1, h2, h3]
theorem sumLens_count (f : Nat → Nat) (n : Nat) : ∀ k, sumLens f n k = (List.range n).countP (fun v => decide (f v < k))
  | 0 => by
    rw [sumLens]
    symm
    rw [List.countP_eq_zero]
    simp
  | k + 1 => by rw [sumLens, sumLens_count f n k, lenAt_count, count_split]
theorem sumLens_le (f : Nat → Nat) (n k : Nat) : sumLens f n k ≤ n := by
  rw [sumLens_count]
  exact Nat.le_trans List.countP_le_length (by simp)
theorem sumLens_all {f : Nat → Nat} {W : Nat} (hf : ∀ v, f v < W) (n : Nat) : sumLens f n W = n := by
  rw [sumLens_count, List.countP_eq_length.2 (by intro a _; exact decide_eq_true (hf a)), List.length_range]
theorem orderOf_len (f : Nat → Nat) (n i K : Nat) (hn : n ≤ 16) : (orderOf f n i K).length = lenAt f n i := by
  have hq := nodesOf_length_le f n i
  unfold orderOf
  rw [turned_len]
  exact (HQ.from_number (lenAt f n i) (K % fac (lenAt f n i)) (by unfold lenAt; omega) (Nat.mod_lt _ (fac_pos _))).2.1
theorem cutOf_le (f : Nat → Nat) (n : Nat) (es : List (Int × Int)) : cutOf f n es ≤ es.length := List.length_filter_le _ _

set_option maxHeartbeats 4000000 in
set_option maxRecDepth 100000 in
theorem dealt_walk (n0 n1 K : Nat) (B : Option Addr) (d : Nat) (es : List (Int × Int)) (w : World) (h0 : n0 ≤ 255) (h1 : n1 ≤ 255) (hK : K ≤ 18446744073709551615) (hE : IsEdges w B d es) :
    Calls Try.prog 11 #[.agg #[.int .u8 n0, .int .u8 n1], .int .u64 K, .slice B es.length d] w fun e w' => e = .returned (.bool true) ∧ Below w.heap.size w w' := by
  have HE := Lib.hid hE
  have hd := hE.1
  clear hE
  obtain ⟨m0, hm0⟩ : ∃ m, m = n0 % 12 := ⟨_, rfl⟩
  obtain ⟨m1, hm1⟩ : ∃ m, m = n1 % 4 := ⟨_, rfl⟩
  have x1 : wrap64 (n0 : Int) = (n0 : Int) := w64 (by clear hm0 hm1; omega) (by clear hm0 hm1; omega)
  have x2 : Int.tmod (n0 : Int) 12 = (m0 : Int) := by rw [hm0]; rfl
  have x2' : (n0 : Int) % 12 = (m0 : Int) := by rw [hm0]; rfl
  have y1 : wrap64 (n1 : Int) = (n1 : Int) := w64 (by clear hm0 hm1; omega) (by clear hm0 hm1; omega)
  have y2 : Int.tmod (n1 : Int) 4 = (m1 : Int) := by rw [hm1]; rfl
  have y2' : (n1 : Int) % 4 = (m1 : Int) := by rw [hm1]; rfl
  have hm0l : m0 < 12 := by rw [hm0]; exact Nat.mod_lt _ (by decide)
  have hm1l : m1 < 4 := by rw [hm1]; exact Nat.mod_lt _ (by decide)
  clear hm0 hm1
  obtain ⟨N, hN⟩ : ∃ N, N = m0 + 1 := ⟨_, rfl⟩
  obtain ⟨W, hW⟩ : ∃ W, W = m1 + 1 := ⟨_, rfl⟩
  have hN1 : 1 ≤ N ∧ N ≤ 12 := by omega
  have hW1 : 1 ≤ W ∧ W ≤ 4 := by omega
  have z1 : (m0 : Int) + 1 = (N : Int) := by omega
  have z2 : (m1 : Int) + 1 = (W : Int) := by omega
  clear hN hW
  go_enter Try.func11, Try.ntmps11
  go_upto_if 14 with (fail)
  go_cut [2] (fun v1 wc => v1 = .slice B (es.take 40).length d ∧ Hid (wc = w.alloc (.cells #[.int .u8 n0, .int .u8 n1] 58)))
  case first =>
    by_cases hl : 40 < es.length
    · have e40 : (es.take 40).length = 40 := by rw [List.length_take]; omega
      go_wp2_with (fail)
      go_meet
      case rel => exact ⟨by rw [e40], rfl⟩
    · have e : es.take 40 = es := List.take_of_length_le (by omega)
      go_wp2_with (fail)
      go_meet
      case rel => exact ⟨by rw [e], rfl⟩
  case rest =>
    obtain ⟨rfl, hwc⟩ := hcut
    obtain rfl := hwc.out
    clear hwc
    have hHE0 : IsEdges w B d (es.take 40) := by
      by_cases hl : 40 ≤ es.length
      · exact HE.out.take 40 hl
      · rw [List.take_of_length_le (by omega)]; exact HE.out
    have h40 : (es.take 40).length ≤ 40 := by rw [List.length_take]; omega
    have HE1 := Lib.hid (hHE0.below ((Below.refl _ w).alloc (Nat.le_refl _) (.cells #[.int .u8 n0, .int .u8 n1] 58)))
    clear HE hd hHE0
    generalize es.take 40 = es1 at *
    go_wp2_with (fail)
    go_quiet (fail)
    go_wp2_with (fail)
    have HE2 := Lib.hid (HE1.out.below (pw_below_drewN (Below.refl _ _) nq))
    have HB0 : Hid (Below w.heap.size w ((w.alloc (.cells #[.int .u8 n0, .int .u8 n1] 58)).drewN nq)) := pw_below_drewN ((Below.refl _ w).alloc (Nat.le_refl _) _) nq
    refine (spread_calls N W K _ hN1 hW1 hK).mono ?_
    rintro e wa ⟨A1, c1, rfl, hI1, hb1⟩
    have HI1 := Lib.hid hI1
    have HB1 := Lib.hid (below_then HB0.out HB0.out.size hb1)
    have HE3 := Lib.hid (HE2.out.below hb1)
    have hev := Lib.hid (spread_even (K := K) hN1.2 hW1)
    obtain ⟨S, hS⟩ : ∃ S, S = spreadTo (orderN N K) W N := ⟨_, rfl⟩
    rw [← hS] at HI1 hev ⊢
    clear hb1 hI1 HB0 HE1 HE2 hS
    go_wp2_with (fail)
    refine (new_made N W A1 c1 S _ hN1 hW1 HI1.out).mono ?_
    rintro e wb ⟨g, rfl, hP, _, hb2⟩
    have HP := Lib.hid hP
    have HB2 := Lib.hid (below_then HB1.out HB1.out.size hb2)
    have HE4 := Lib.hid (HE3.out.below hb2)
    have hfl : Hid (∀ v, workerAt W S v < W) := workerAt_lt (by omega) S
    obtain ⟨f, hf⟩ : ∃ f, f = workerAt W S := ⟨_, rfl⟩
    rw [← hf] at HP hev hfl
    clear hP hb2 HI1 HB1 HE3 hf
    go_wp2_with (fail)
    go_loopw [10, 11] (fun nv iv wr => ∃ k : Nat, k ≤ W ∧ iv = .int .i64 k ∧ nv = .int .i64 (sumLens f N k : Nat) ∧ Hid (Below wb.heap.size wb wr)) (fun _ iv _ => W - (intOf iv).toNat)
    case atStart => exact ⟨0, Nat.zero_le _, rfl, rfl, Below.refl _ _⟩
    case round =>
      obtain ⟨k, hk, rfl, rfl, hbr⟩ := hrel
      by_cases hlt : k < W
      · have HP2 := Lib.hid (HP.out.below hbr.out)
        have hsl := sumLens_le f N k
        have hsl2 := sumLens_le f N (k + 1)
        have hsum : Hid (sumLens f N (k + 1) = sumLens f N k + lenAt f N k) := rfl
        rw [hsum.out] at hsl2
        have hol := orderOf_len f N k K (by omega)
        have HO := Lib.hid (fun w h => order_calls g f N W k K w (by omega) (by omega) hK h)
        generalize orderOf f N k K = O at *
        have hol2 : O.length ≤ N := by omega
        have HOL := Lib.hid hol
        generalize sumLens f N k = s0 at *
        clear hol hsl2
        go_wp2_with (fail)
        refine (HO.out _ HP2.out).mono ?_
        rintro e wc ⟨A3, c3, rfl, _, hb3⟩
        have HB3 := Lib.hid (below_then hbr.out hbr.out.size hb3)
        clear hb3 hbr HP2 HO
        go_wp2_with (fail)
        go_roundw
        case measure => simp [intOf]; omega
        case rel => exact ⟨k + 1, by omega, by go_num, by rw [hsum.out, ← HOL.out]; go_num, HB3.out⟩
      · obtain rfl : k = W := by omega
        have HP2 := Lib.hid (HP.out.below hbr.out)
        have HE5 := Lib.hid (HE4.out.below hbr.out)
        have HB3 := Lib.hid (below_then HB2.out HB2.out.size hbr.out)
        rw [sumLens_all hfl.out]
        clear hbr HP HE4 HB2
        go_wp2_with (fail)
        refine (even_calls g f N k _ (by omega) (by omega) HP2.out).mono ?_
        rintro e wc ⟨rfl, q, rfl⟩
        rw [hev.out]
        have HP3 := Lib.hid (HP2.out.below (pw_below_drewN (Below.refl _ _) q))
        have HE6 := Lib.hid (HE5.out.below (pw_below_drewN (Below.refl _ _) q))
        have HB4 := Lib.hid (pw_below_drewN HB3.out q)
        have hcl := cutOf_le f N es1
        have HC := Lib.hid (fun w h hE => cut_calls g f N k B d es1 w h hE (by omega))
        generalize cutOf f N es1 = C at *
        clear HP2 HE5 HB3
        go_wp2_with (fail)
        refine (HC.out _ HP3.out HE6.out).mono ?_
        rintro e wd ⟨rfl, hb5⟩
        have HB5 := Lib.hid (below_then HB4.out HB4.out.size hb5)
        have HP4 := Lib.hid (HP3.out.below hb5)
        have HE7 := Lib.hid (HE6.out.below hb5)
        clear hb5 HP3 HE6 HB4
        go_wp2_with (fail)
        refine (HC.out _ HP4.out HE7.out).mono ?_
        rintro e we ⟨rfl, hb6⟩
        have HB6 := Lib.hid (below_then HB5.out HB5.out.size hb6)
        clear hb6 HP4 HE7 HB5
        go_wp2_with (fail)
        go_ret
        exact ⟨rfl, HB6.out⟩
end Go.Proofs.Ytnhhfmmbanimlaa.HP
