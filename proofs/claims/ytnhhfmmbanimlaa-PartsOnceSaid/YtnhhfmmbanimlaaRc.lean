/-
The contracts of the object's questions, over the translation: Of, Members, Nodes, Workers.
-/
import Derived.Test.YtnhhfmmbanimlaaRb
set_option linter.unusedVariables false
set_option linter.unusedSimpArgs false
namespace Go.Proofs.Ytnhhfmmbanimlaa.HP
open Go.RowKit Go.Proofs.Ytnhhfmmbanimlaa.HK Go.Proofs.YtnhhfmmbanimlaaW.PrintWords Go.Proofs.YtnhhfmmbanimlaaW.PrintLast Go.Proofs.YtnhhfmmbanimlaaW.PrintMore

def ofAt (f : Nat → Nat) (n : Nat) (v : Int) : Int := if 0 ≤ v ∧ v < n then (f v.toNat : Int) else -1
theorem rd_workers (f : Nat → Nat) {n i : Nat} (h : i < n) : rd (workersOf f n) (i : Int) = (f i : Int) := by
  simp [rd, workersOf, h]
/-- The object's cells, each by itself. -/
theorem IsParts.open_ {w : World} {g : Nat} {f : Nat → Nat} {n W : Nat} (h : IsParts w g f n W) :
    ∃ A0 c0, w.cell? ⟨g, 0, none⟩ = some (.slice A0 n c0) ∧ IsInts w A0 c0 (workersOf f n) ∧ w.cell? ⟨g, 5, none⟩ = some (.int .i64 W) := by
  obtain ⟨vs, hg, hr⟩ := h
  obtain ⟨A, c, e, hI⟩ := hr 0 (by omega)
  refine ⟨A, c, ?_, hI, (blk_cell hg 5).trans rfl⟩
  rw [blk_cell hg 0, cellsAt_get vs W (by omega), e]
  simp [rowsAt, workersOf_length]
theorem IsParts.row {w : World} {g : Nat} {f : Nat → Nat} {n W : Nat} (h : IsParts w g f n W) {i : Nat} (hi : i < 4) :
    ∃ A c, w.cell? ⟨g, 1 + i, none⟩ = some (.slice A (nodesOf f n i).length c) ∧ IsInts w A c (nodesOf f n i) := by
  obtain ⟨vs, hg, hr⟩ := h
  obtain ⟨A, c, e, hI⟩ := hr (i + 1) (by omega)
  have er : rowsAt f n (i + 1) = nodesOf f n i := by simp [rowsAt]
  rw [er] at e hI
  refine ⟨A, c, ?_, hI⟩
  rw [obj_cell hg hi, e]
set_option maxHeartbeats 1000000 in
theorem of_calls (g : Nat) (f : Nat → Nat) (n W : Nat) (v : Int) (w : World) (h : IsParts w g f n W) :
    Calls Try.prog 15 #[.pointer (some ⟨g, 0, none⟩), .int .i64 v] w fun e w' => e = .returned (.int .i64 (ofAt f n v)) ∧ w = w' := by
  obtain ⟨A0, c0, hc0, hI, _⟩ := h.open_
  have HI := Lib.hid hI
  clear hI h
  by_cases h0 : v < 0
  · have hd : Hid (-1 = ofAt f n v) := by unfold ofAt; rw [if_neg (by omega)]; exact rfl
    go_enter Try.func15, Try.ntmps15
    go_wp2
    go_ret
    exact ⟨ret_int hd.out, rfl⟩
  · by_cases h1 : (n : Int) ≤ v
    · have hd : Hid (-1 = ofAt f n v) := by unfold ofAt; rw [if_neg (by omega)]; exact rfl
      go_enter Try.func15, Try.ntmps15
      go_wp2
      go_ret
      exact ⟨ret_int hd.out, rfl⟩
    · obtain ⟨m, rfl⟩ := Int.eq_ofNat_of_zero_le (show 0 ≤ v by omega)
      have hm : m < n := by omega
      have hd : Hid ((f m : Int) = ofAt f n m) := by unfold ofAt; rw [if_pos (by omega)]; exact rfl
      obtain ⟨ad, rfl, hc⟩ := Kd.at_int HI.out.2 (m : Int) (by omega) (by rw [workersOf_length]; omega)
      have hc' : w.cell? (ad.add m) = some (.int .i64 (f m : Int)) := by rw [← rd_workers f hm]; exact hc
      have e2 : decide (n ≤ m) = false := by simp; omega
      clear hc
      go_enter Try.func15, Try.ntmps15
      go_wp2
      go_ret
      exact ⟨ret_int hd.out, rfl⟩
theorem of_nil (v : Int) (w : World) : Calls Try.prog 15 #[.pointer none, .int .i64 v] w fun e w' => e = .returned (.int .i64 (-1)) ∧ w = w' := by
  go_enter Try.func15, Try.ntmps15
  go_wp2
  go_ret
  exact ⟨rfl, rfl⟩
set_option maxHeartbeats 1000000 in
theorem members_calls (g : Nat) (f : Nat → Nat) (n W i : Nat) (w : World) (hi : i < 4) (hn : n ≤ 12) (h : IsParts w g f n W) :
    Calls Try.prog 17 #[.pointer (some ⟨g, 0, none⟩), .int .i64 i] w fun e w' => ∃ A c, e = .returned (.slice A (nodesOf f n i).length c) ∧ IsInts w' A c (nodesOf f n i) ∧ Below w.heap.size w w' := by
  obtain ⟨A0, c0, hc0, hI⟩ := h.row hi
  have hl := nodesOf_length_le f n i
  have HI := Lib.hid hI
  clear hI h
  have hi4 : (i : Int) < 4 := by omega
  have e2 : decide ((4 : Int) ≤ (i : Int)) = false := by simp; omega
  obtain ⟨l, hL⟩ : ∃ l, l = nodesOf f n i := ⟨_, rfl⟩
  rw [← hL] at HI hc0 hl ⊢
  clear hL
  have hf : slices_Clone.f l = some l := by unfold slices_Clone.f; rw [if_pos (by omega)]
  have HF := Lib.hid hf
  clear hf
  go_enter Try.func17, Try.ntmps17
  go_wp2_with (go_at_call 45; refine (slices_Clone.calls A0 c0 l l _ HI.out.2 HI.out.1 HF.out).mono ?_; rintro e w' ⟨v, rfl, hR, hb⟩; obtain ⟨A1, c1, rfl, hI1⟩ := IsInts.of_R hR; have HI1 := Lib.hid hI1; have HB := Lib.hid hb; clear hR hI1 hb)
  go_ret
  exact ⟨A1, c1, rfl, HI1.out, HB.out⟩
theorem nodes_calls (g : Nat) (f : Nat → Nat) (n W : Nat) (w : World) (h : IsParts w g f n W) :
    Calls Try.prog 41 #[.pointer (some ⟨g, 0, none⟩)] w fun e w' => e = .returned (.int .i64 n) ∧ w = w' := by
  obtain ⟨A0, c0, hc0, _, _⟩ := h.open_
  clear h
  go_enter Try.func41, Try.ntmps41
  go_wp2
  go_ret
  exact ⟨rfl, rfl⟩
theorem workers_calls (g : Nat) (f : Nat → Nat) (n W : Nat) (w : World) (h : IsParts w g f n W) :
    Calls Try.prog 42 #[.pointer (some ⟨g, 0, none⟩)] w fun e w' => e = .returned (.int .i64 W) ∧ w = w' := by
  obtain ⟨A0, c0, _, _, hc5⟩ := h.open_
  clear h
  go_enter Try.func42, Try.ntmps42
  go_wp2
  go_ret
  exact ⟨rfl, rfl⟩
end Go.Proofs.Ytnhhfmmbanimlaa.HP
