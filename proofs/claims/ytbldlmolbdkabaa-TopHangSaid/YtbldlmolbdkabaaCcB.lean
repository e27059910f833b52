/-
graph's Joined, math/bits.Mul of small numbers, slices.Repeat of one number, over the translation.
-/
import Derived.Test.YtbldlmolbdkabaaCcA
import Derived.Laws.CopyOwn
set_option linter.unusedVariables false
set_option linter.unusedSimpArgs false
namespace Go.Proofs.Ytbldlmolbdkabaa.HP
open Go.RowKit Go.Proofs.YtbldlmolbdkabaaW.PrintWords Go.Proofs.YtbldlmolbdkabaaW.PrintLast Go.Proofs.YtbldlmolbdkabaaW.PrintMore
theorem hmk37 (n : Nat) (hn : n ≤ 1000000) (W : World) : (Instr.makeSlice 37 (.int .i64 (n : Int)) (.int .i64 (n : Int))).run Try.prog W = .ok (.slice (some ⟨W.heap.size, 0, none⟩) n n) (W.alloc (.cells (nums .i64 (List.replicate n 0)).toArray 3)) := by
  obtain ⟨i0, hi, hz0, hz1, hz2⟩ := info_parts info3
  have h := run_make (P := Try.prog) (w := W) 37 3 i0 _ Try.underlying37 hi hz0 .i64 .i64 (n : Int) (n : Int) (by omega) (Int.le_refl _) (by rw [hz2]; omega) (by omega)
  have e : madeCells (Value.int .i64 0).cells ((n : Int).toNat * i0.size) = (nums .i64 (List.replicate n 0)).toArray := by
    rw [Int.toNat_natCast, hz1, Nat.mul_one]
    unfold madeCells nums
    apply Array.ext_getElem?
    intro j
    by_cases hj : j < n
    · simp [hj, Value.cells, Nat.mod_one]
    · simp [hj]
  rw [h, e, Int.toNat_natCast]
theorem made_row (w : World) (base B n t : Nat) (l : List Int) (h : w.heap[B]? = some (.cells (nums .i64 l).toArray t (0, 0))) (hl : l.length = n) (hb : base ≤ B) (hn : n ≤ maxLen) : w.ownsRow base t 1 (.slice (some ⟨B, 0, none⟩) n n) n (nums .i64 l) := by
  refine ⟨by rw [nums_length, hl, Nat.mul_one], .inr ⟨B, n, _, rfl, hb, h, Nat.le_refl _, hn, by simp [nums_length, hl], ?_⟩⟩
  simp only [Nat.mul_one]
  exact List.take_of_length_le (by rw [nums_length, hl]; exact Nat.le_refl _)
/-- The first j are -1. -/
def fillL (n j : Nat) : List Int := List.replicate j (-1) ++ List.replicate (n - j) 0
theorem fillL_len {n j : Nat} (h : j ≤ n) : (fillL n j).length = n := by unfold fillL; simp; omega
theorem fillL_zero (n : Nat) : fillL n 0 = List.replicate n 0 := by unfold fillL; simp
theorem fillL_all (n : Nat) : fillL n n = List.replicate n (-1) := by unfold fillL; simp
theorem fillL_set {n j : Nat} (h : j < n) : (fillL n j).set j (-1) = fillL n (j + 1) := by
  unfold fillL
  rw [List.set_append_right _ _ (by simp), List.length_replicate, Nat.sub_self, show n - j = (n - (j + 1)) + 1 by omega, List.replicate_succ, List.set_cons_zero, List.replicate_succ', List.append_assoc]
  rfl
def JoinedEnds (w : World) (n : Nat) (es : List EdgeP) (e : Ending) (w' : World) : Prop := ∃ A c o, e = .returned (.slice A n c) ∧ JInv n es o n ∧ IRow w' A o ∧ Below w.heap.size w w'
set_option maxHeartbeats 8000000 in
set_option maxRecDepth 100000 in
theorem joined_calls (w : World) (G n : Nat) (es : List EdgeP) (hI : IsGraph w G n es) (hG : okG (n : Int) es) : Calls Try.prog 16 #[.pointer (some ⟨G, 0, none⟩)] w fun e w' => JoinedEnds w n es e w' := by
  have hn12 : n ≤ 12 := by have := hG.1; omega
  have hmk := fun W => hmk37 n (by omega) W
  have HI := Lib.hid hI
  obtain ⟨AE, cE, Ob, Ib, M, i1, _, _, _⟩ := hI
  have c1 : w.cell? ⟨G, 1, none⟩ = some (.slice (some ⟨Ob, 0, none⟩) n n) := by rw [blk_cell i1]; rfl
  have HG := Lib.hid hG
  obtain ⟨w1, hw1⟩ : ∃ w1, w1 = w.alloc (.cells (nums .i64 (List.replicate n 0)).toArray 3) := ⟨_, rfl⟩
  have hb1 : Below w.heap.size w w1 := by rw [hw1]; exact (Below.refl _ w).alloc (Nat.le_refl _) _
  have ho1 : w1.ownsRow w.heap.size 3 1 (.slice (some ⟨w.heap.size, 0, none⟩) n n) n (nums .i64 (fillL n 0)) := by
    rw [fillL_zero]
    exact made_row w1 _ _ n 3 _ (by rw [hw1]; exact blk_new w _) (by simp) (Nat.le_refl _) (by unfold maxLen; omega)
  have HB1 := Lib.hid hb1
  have HO1 := Lib.hid ho1
  have HW1 := Lib.hid hw1
  clear i1 hG hb1 ho1 hw1
  go_enter Try.func16, Try.ntmps16
  go_upto_region 4 with (fail)
  rw [← HW1.out]
  clear hmk c1
  go_wp2_with (fail)
  go_loopw [16] (fun x wr => ∃ j : Nat, x = .int .i64 (j : Int) ∧ j ≤ n ∧ Hid (wr.ownsRow w.heap.size 3 1 (.slice (some ⟨w.heap.size, 0, none⟩) n n) n (nums .i64 (fillL n j)) ∧ Below w.heap.size w wr)) (fun x _ => n - (intOf x).toNat)
  case atStart => exact ⟨0, rfl, Nat.zero_le _, HO1.out, HB1.out⟩
  case round =>
    clear HO1 HB1 HW1
    obtain ⟨j, rfl, hj, hR⟩ := hrel
    obtain ⟨hO, hB⟩ := hR.out
    by_cases hlt : j < n
    · have c0 : wr.cell? ⟨w.heap.size, j, none⟩ = some (.int .i64 (lb (fillL n j) j)) := lb_cell hO (fillL_len hj) hlt
      have f0 : wr.frozen? ⟨w.heap.size, j, none⟩ = false := hO.frozenAt _
      have hst := own_store hO (j : Int) (-1)
      rw [Int.toNat_natCast, fillL_set hlt] at hst
      have HN : Hid ((wr.setCell ⟨w.heap.size, j, none⟩ (.int .i64 (-1))).ownsRow w.heap.size 3 1 (.slice (some ⟨w.heap.size, 0, none⟩) n n) n (nums .i64 (fillL n (j + 1))) ∧ Below w.heap.size w (wr.setCell ⟨w.heap.size, j, none⟩ (.int .i64 (-1)))) := ⟨hst.1, hB.setCell (p := ⟨w.heap.size, j, none⟩) (Nat.le_refl _) _⟩
      have qd : decide ((j : Int) < (n : Int)) = true := decide_eq_true (by omega)
      have z1 : (j : Int) < (n : Int) := by omega
      have z0 : (0 : Int) ≤ (j : Int) := by omega
      have hw : IntKind.i64.wrap ((j : Int) + 1) = ((j + 1 : Nat) : Int) := by rw [IntWalk.i64_in _ (by omega)]; omega
      clear hO hB hR hst
      go_wp2
      go_roundw
      case measure => simp [intOf]; omega
      case rel => exact ⟨j + 1, by first | rfl | (rw [hw]) | simp, by omega, HN⟩
    · obtain rfl : j = n := by omega
      have qd : decide ((j : Int) < (j : Int)) = false := decide_eq_false (by omega)
      rw [fillL_all] at hO
      have HS : Hid (∃ o, JInv j es o 0 ∧ wr.ownsRow w.heap.size 3 1 (.slice (some ⟨w.heap.size, 0, none⟩) j j) j (nums .i64 o) ∧ Below w.heap.size w wr) := ⟨_, JInv.start j es, hO, hB⟩
      clear hO hB hR hlt
      go_wp2_with (fail)
      go_loopw [25] (fun x wr => ∃ v : Nat, x = .int .i64 (v : Int) ∧ v ≤ j ∧ Hid (∃ o, JInv j es o v ∧ wr.ownsRow w.heap.size 3 1 (.slice (some ⟨w.heap.size, 0, none⟩) j j) j (nums .i64 o) ∧ Below w.heap.size w wr)) (fun x _ => j - (intOf x).toNat)
      case atStart => exact ⟨0, rfl, Nat.zero_le _, HS.out⟩
      case round =>
        clear HS
        obtain ⟨v, rfl, hv, hR⟩ := hrel
        obtain ⟨o, hJ, hO, hB⟩ := hR.out
        by_cases hlt : v < j
        · have HC := Lib.hid (join_calls w G w.heap.size j es HI.out HG.out _ wr o v v (Nat.le_refl _) hlt hJ.len hO hB)
          have HJ := Lib.hid hJ
          have qv : decide ((v : Int) < (j : Int)) = true := decide_eq_true (by omega)
          have hw : IntKind.i64.wrap ((v : Int) + 1) = ((v + 1 : Nat) : Int) := by rw [IntWalk.i64_in _ (by omega)]; omega
          clear hJ hO hB hR
          go_wp2_with (fail)
          refine HC.out.mono ?_
          rintro e w2 ⟨rfl, o', hk, hO2, hB2⟩
          have HN : Hid (∃ o, JInv j es o (v + 1) ∧ w2.ownsRow w.heap.size 3 1 (.slice (some ⟨w.heap.size, 0, none⟩) j j) j (nums .i64 o) ∧ Below w.heap.size w w2) := ⟨o', HJ.out.next hlt hk, hO2, hB2⟩
          clear hk hO2 hB2 HC
          go_wp2
          go_roundw
          case measure => simp [intOf]; omega
          case rel => exact ⟨v + 1, by first | rfl | (rw [hw]) | simp, by omega, HN⟩
        · obtain rfl : v = j := by omega
          have qv : decide ((v : Int) < (v : Int)) = false := decide_eq_false (by omega)
          have hO' := hO
          rw [show v = o.length from hJ.len.symm] at hO'
          obtain ⟨A, c, hA, _, hIr⟩ := own_irow (l := o) (by simpa using hO')
          have hA1 : A = some ⟨w.heap.size, 0, none⟩ := by injection hA with h1 _ _; exact h1.symm
          subst hA1
          have HFIN : Hid (JInv v es o v ∧ IRow wr (some ⟨w.heap.size, 0, none⟩) o ∧ Below w.heap.size w wr) := ⟨hJ, hIr, hB⟩
          clear hJ hO hO' hB hR hA hIr hlt
          go_wp2
          go_ret
          exact ⟨_, _, o, rfl, HFIN.out.1, HFIN.out.2.1, HFIN.out.2.2⟩
end Go.Proofs.Ytbldlmolbdkabaa.HP
