/-
The contract of perm.Right, over the translation: it tells whether numbers are an order.
-/
import Derived.Test.YtnhhfmmbanimlaaHk1
set_option linter.unusedVariables false
set_option linter.unusedSimpArgs false
namespace Go.Proofs.Ytnhhfmmbanimlaa.HK
open Go.RowKit Go.Proofs.YtnhhfmmbanimlaaW.PrintWords Go.Proofs.YtnhhfmmbanimlaaW.PrintLast Go.Proofs.YtnhhfmmbanimlaaW.PrintMore

def seenArr (l : List Int) : Array Value := ((List.range 16).map fun j : Nat => Value.bool (decide ((j : Int) ∈ l))).toArray
theorem seen_nil : seenArr [] = #[.bool false, .bool false, .bool false, .bool false, .bool false, .bool false, .bool false, .bool false, .bool false, .bool false, .bool false, .bool false, .bool false, .bool false, .bool false, .bool false] := by rfl
theorem seen_size (l : List Int) : (seenArr l).size = 16 := by simp [seenArr]
theorem seen_cell (l : List Int) {x : Nat} (h : x < 16) : (seenArr l)[x]? = some (.bool (decide ((x : Int) ∈ l))) := by
  simp [seenArr, h]
theorem seen_put (l : List Int) (x : Nat) : (seenArr l).setIfInBounds x (.bool true) = seenArr (l ++ [(x : Int)]) := by
  apply Array.ext_getElem?
  intro j
  rw [Array.getElem?_setIfInBounds, seen_size]
  by_cases hj : j < 16
  · by_cases e : x = j
    · subst e
      rw [if_pos rfl, if_pos hj, seen_cell _ hj]
      simp
    · rw [if_neg e, seen_cell _ hj, seen_cell _ hj]
      have : ¬ (j : Int) = (x : Int) := by omega
      simp [this]
  · rw [Array.getElem?_eq_none (by rw [seen_size]; omega), Array.getElem?_eq_none (by rw [seen_size]; omega)]
    split
    · rw [if_neg (by omega)]
    · rfl

def perm_Right.f (l0 : List Int) : Option Bool := some (rightOf l0)
set_option maxHeartbeats 1000000 in
theorem perm_Right.calls (A0 : Option Addr) (c0 : Nat) (l0 : List Int) (r : Bool) (w : World) (hr0 : Kd.C (Kd.int .i64) w A0 l0.length l0) (hc0 : l0.length ≤ c0) (h : perm_Right.f l0 = some r) :
    Calls Try.prog 25 #[.slice A0 l0.length c0] w fun e w' => e = .returned (.bool r) ∧ Below w.heap.size w w' := by
  replace h : rightOf l0 = r := Option.some.inj h
  have HR := Lib.hid hr0
  clear hr0
  by_cases h16 : 16 < l0.length
  · have hd : Hid (false = r) := by rw [← h]; exact (rightOf_long h16).symm
    clear h
    have e1 : decide ((16 : Int) < (l0.length : Int)) = true := by simp; omega
    go_enter Try.func25, Try.ntmps25
    go_wp2
    go_ret
    exact ⟨ret_bool hd.out, Below.refl _ _⟩
  · have e1 : decide ((16 : Int) < (l0.length : Int)) = false := by simp; omega
    have hH := Lib.hid h
    clear h
    go_enter Try.func25, Try.ntmps25
    go_wp2
    go_loopw [11] (fun i wr => ∃ k : Nat, k ≤ l0.length ∧ i = .int .i64 k ∧ Hid (wr.heap[w.heap.size]? = some (.cells (seenArr (l0.take k)) 69 (0, 0))) ∧ Hid (Below w.heap.size w wr) ∧ Hid (okSo l0.length (l0.take k))) (fun i _ => l0.length - (intOf i).toNat)
    case atStart =>
      refine ⟨0, Nat.zero_le _, rfl, ?_, (Below.refl _ w).alloc (Nat.le_refl _) _, okSo_nil _⟩
      rw [List.take_zero, seen_nil]
      exact heap_alloc_new w _
    case round =>
      obtain ⟨k, hk, rfl, hb, hbel, hok⟩ := hrel
      by_cases hlt : k < l0.length
      · obtain ⟨ad, rfl, hc⟩ := Kd.at_int (Kd.C_below HR.out (by exact hbel.out)) (k : Int) (by omega) (by omega)
        obtain ⟨x, hx⟩ : ∃ x, x = l0.getD k 0 := ⟨_, rfl⟩
        have hc' : wr.cell? (ad.add k) = some (.int .i64 x) := by rw [hx]; exact hc
        clear hc
        have hX := Lib.hid hx
        clear hx
        by_cases hx0 : x < 0
        · have hd : Hid (false = r) := by rw [← hH.out]; refine (rightOf_false_range hlt ?_).symm; rw [← hX.out]; omega
          go_wp2
          go_ret
          exact ⟨ret_bool hd.out, hbel⟩
        · obtain ⟨m, rfl⟩ := Int.eq_ofNat_of_zero_le (show 0 ≤ x by omega)
          by_cases hx1 : (l0.length : Int) ≤ (m : Int)
          · have hd : Hid (false = r) := by rw [← hH.out]; refine (rightOf_false_range hlt ?_).symm; rw [← hX.out]; omega
            have e2 : decide (l0.length ≤ m) = true := by simp; omega
            go_wp2
            go_ret
            exact ⟨ret_bool hd.out, hbel⟩
          · have hm : m < 16 := by omega
            have e2 : decide (l0.length ≤ m) = false := by simp; omega
            have hs : wr.cell? ⟨w.heap.size, m, none⟩ = some (.bool (decide ((m : Int) ∈ l0.take k))) := (blk_cell hb.out m).trans (seen_cell _ hm)
            have hf : wr.frozen? ⟨w.heap.size, m, none⟩ = false := blk_frozen hb.out m
            by_cases hin : (m : Int) ∈ l0.take k
            · have hd : Hid (false = r) := by rw [← hH.out]; refine (rightOf_false_twice hlt ?_).symm; rw [← hX.out]; exact hin
              rw [decide_eq_true hin] at hs
              clear hin
              go_wp2
              go_ret
              exact ⟨ret_bool hd.out, hbel⟩
            · rw [decide_eq_false hin] at hs
              have hIn := Lib.hid hin
              clear hin
              go_wp2
              go_roundw
              case measure => simp [intOf]; omega
              case rel =>
                refine ⟨k + 1, by omega, by go_num, ?_, (show Below _ _ _ from hbel).setCell (p := ⟨w.heap.size, m, none⟩) (Nat.le_refl _) _, ?_⟩
                · rw [take_snoc hlt, ← hX.out, ← seen_put]
                  exact blk_set hb.out _ _
                · rw [take_snoc hlt, ← hX.out]
                  exact okSo_snoc hok.out (by omega) (by omega) hIn.out
      · go_wp2
        go_ret
        obtain rfl : k = l0.length := by omega
        refine ⟨ret_bool ?_, hbel⟩
        rw [← hH.out, rightOf_true (by omega) (by have := hok.out; rwa [List.take_length] at this)]
end Go.Proofs.Ytnhhfmmbanimlaa.HK
