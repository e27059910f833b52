/-
The contract of num.Digits, over the translation: a number as text.
-/
import Derived.Test.YtiojfdgagdofiaaPre
import Derived.Test.YtiojfdgagdofiaaNumA
set_option linter.unusedVariables false
set_option linter.unusedSimpArgs false
namespace Go.Proofs.Ytiojfdgagdofiaa.HK
open Go.RowKit Go.Proofs.YtiojfdgagdofiaaW.PrintWords Go.Proofs.YtiojfdgagdofiaaW.PrintLast Go.Proofs.YtiojfdgagdofiaaW.PrintMore

theorem ret_str {a b : ByteArray} (h : a = b) : Ending.returned (.string a) = Ending.returned (.string b) := by rw [h]
/-- The twenty cells: what has been written stands at the end. -/
def digArr (k : Nat) (suf : List Int) : Array Value := (nums .u8 (List.replicate k 0 ++ suf)).toArray
theorem digArr_put {k : Nat} {suf : List Int} (x : Int) : (digArr (k + 1) suf).setIfInBounds k (.int .u8 x) = digArr k (x :: suf) := by
  unfold digArr
  rw [List.setIfInBounds_toArray]
  congr 1
  rw [List.replicate_succ']
  simp [nums, List.set_append]
theorem digArr_cell {k j : Nat} {suf : List Int} (h : j < k + suf.length) : (digArr k suf)[j]? = some (.int .u8 ((List.replicate k 0 ++ suf).getD j 0)) := by
  unfold digArr
  rw [List.getElem?_toArray]
  have hl : j < (List.replicate k (0 : Int) ++ suf).length := by simp; omega
  simp only [nums, List.getElem?_map, List.getElem?_eq_getElem hl, List.getD_eq_getElem?_getD]
  rfl
theorem dig_text {B k : Nat} {suf : List Int} {w : World} (hk : k < 20) (hs : k + suf.length = 20) (h : w.heap[B]? = some (.cells (digArr k suf) 123 (0, 0))) :
    (convert 52 9 (.slice (some ⟨B, k, none⟩) (20 - k) (20 - k))).run Try.prog w = .ok (.string (strOfNums suf)) w := by
  have hr : ReadsInt w .u8 (some ⟨B, k, none⟩) (20 - k) suf := by
    refine ⟨by omega, by omega, fun _ => ⟨_, rfl, fun j hj => ?_⟩⟩
    have : w.cell? ⟨B, k + j, none⟩ = some (.int .u8 (suf.getD j 0)) := by
      rw [blk_cell h, digArr_cell (by omega)]
      congr 2
      rw [List.getD_eq_getElem?_getD, List.getElem?_append_right (by simp)]
      simp [List.getD_eq_getElem?_getD]
    show w.cell? (Addr.add ⟨B, k, none⟩ j) = _
    have e : Addr.add ⟨B, k, none⟩ j = ⟨B, k + j, none⟩ := by unfold Addr.add; split
                                                              · simp [*]
                                                              · rfl
    rw [e]; exact this
  exact string_of_reads Try.underlying52 Try.underlying5 Try.underlying9 hr
theorem dig_byte (m : Nat) : IntKind.u8.wrap (48 + ((m % 10 : Nat) : Int)) = 48 + ((m % 10 : Nat) : Int) := by
  have := Nat.mod_lt m (show 10 > 0 by decide)
  simp [IntKind.wrap, IntKind.signed, IntKind.bits]
  omega
theorem abs_neg {a : Int} (h : -9223372036854775808 ≤ a ∧ a < 0) : IntKind.u64.wrap (-IntKind.u64.wrap a) = (((-a).toNat : Nat) : Int) := by
  simp [IntKind.wrap, IntKind.signed, IntKind.bits]
  omega
theorem abs_pos {a : Int} (h : 0 ≤ a ∧ a ≤ 9223372036854775807) : IntKind.u64.wrap a = ((a.toNat : Nat) : Int) := by
  simp [IntKind.wrap, IntKind.signed, IntKind.bits]
  omega
theorem mid_step {k m U : Nat} {suf : List Int} (h : full m ++ suf = full U) (h0 : m / 10 ≠ 0) : full (m / 10) ++ (48 + (m : Int) % 10) :: suf = full U := by
  rw [← h, full_step m, if_neg h0, List.append_assoc, Int.natCast_emod]
  rfl
theorem mid_last {k m U : Nat} {suf : List Int} (h : full m ++ suf = full U) (h0 : m / 10 = 0) : (48 + (m : Int) % 10) :: suf = full U := by
  rw [← h, full_step m, if_pos h0, Int.natCast_emod]
  rfl
theorem mid_room {k m U : Nat} {suf : List Int} (h : full m ++ suf = full U) (hU : (full U).length ≤ 19) (hk : k + suf.length = 20) : 2 ≤ k := by
  have := congrArg List.length h
  rw [List.length_append] at this
  have := full_pos m
  omega
theorem last_room {k U : Nat} {x : Int} {suf : List Int} (h : x :: suf = full U) (hU : (full U).length ≤ 19) (hk : k + (x :: suf).length = 20) : 1 ≤ k := by
  rw [h] at hk
  omega
theorem dig_cut (B k : Nat) (h : k < 20) (W : World) : (Instr.sliceAt 123 (.pointer (some ⟨B, 0, none⟩)) (some (.int .i64 k)) none none).run Try.prog W = .ok (.slice (some ⟨B, k, none⟩) (20 - k) (20 - k)) W := by
  have hl : Try.prog.arrayLen 123 = 20 := by kernel_rfl
  have he : Try.prog.elem 123 = 5 := by kernel_rfl
  have hs : (sizeOf 5).run Try.prog W = .ok 1 W := by kernel_rfl
  have ht : Try.prog.underlying 123 = some (.array (Try.prog.arrayLen 123) (Try.prog.elem 123)) := by kernel_rfl
  rw [run_sliceAt_array_l W 123 ⟨B, 0, none⟩ ht .i64 k (by omega) (by omega), hl, he, hs]
  simp only [Result.andThen, slicedAt, Int.toNat_natCast, Nat.mul_one]
  rw [if_neg (by omega)]
  unfold Addr.add
  by_cases h0 : k = 0
  · simp [h0]
  · simp [h0]
theorem zero20 : digArr 20 [] = #[.int .u8 0, .int .u8 0, .int .u8 0, .int .u8 0, .int .u8 0, .int .u8 0, .int .u8 0, .int .u8 0, .int .u8 0, .int .u8 0, .int .u8 0, .int .u8 0, .int .u8 0, .int .u8 0, .int .u8 0, .int .u8 0, .int .u8 0, .int .u8 0, .int .u8 0, .int .u8 0] := rfl
set_option maxHeartbeats 1000000 in
set_option maxRecDepth 100000 in
theorem digits_calls (a : Int) (w : World) (h : inW a) :
    Calls Try.prog 78 #[.int .i64 a] w fun e w' => e = .returned (.string (strOfNums (digitsOf a))) ∧ Below w.heap.size w w' := by
  by_cases hneg : a < 0
  · have hfin : Hid (45 :: full (-a).toNat = digitsOf a) := by show _ = _; unfold digitsOf; rw [if_pos hneg]
    have hn : decide (a < 0) = true := by simpa using hneg
    have hw1 : IntKind.u64.wrap (-IntKind.u64.wrap a) = (((-a).toNat : Nat) : Int) := abs_neg (by unfold inW at h; omega)
    have hUb : (-a).toNat ≤ 9223372036854775808 := by unfold inW at h; omega
    obtain ⟨U, hU⟩ : ∃ U : Nat, U = (-a).toNat := ⟨_, rfl⟩
    rw [← hU] at hfin hw1 hUb
    clear hU hneg h
    have hlen : Hid ((full U).length ≤ 19) := full_len 18 U (by rw [show (10 : Nat) ^ (18 + 1) = 10000000000000000000 by decide]; omega)
    go_enter Try.func78, Try.ntmps78
    go_wp2
    go_loopw [4, 5] (fun iv mv wr => ∃ (k m : Nat) (suf : List Int), iv = .int .i64 k ∧ mv = .int .u64 m ∧ k ≤ 20 ∧ 2 ≤ k ∧ m ≤ 9223372036854775808 ∧ Hid (k + suf.length = 20) ∧ Hid (full m ++ suf = full U) ∧ Hid (wr.heap[w.heap.size]? = some (.cells (digArr k suf) 123 (0, 0))) ∧ Hid (Below w.heap.size w wr)) (fun iv _ _ => (intOf iv).toNat)
    case atStart => exact ⟨20, U, [], rfl, rfl, by omega, by omega, hUb, rfl, List.append_nil _, by rw [zero20]; exact heap_alloc_new w _, (Below.refl _ w).alloc (Nat.le_refl _) _⟩
    case round =>
      obtain ⟨k0, m, suf, rfl, rfl, hk20, hk2, hm, hks, hfm, hblk, hbel⟩ := hrel
      obtain ⟨k, rfl⟩ : ∃ k, k0 = k + 1 := ⟨k0 - 1, by omega⟩
      have hcell : wr.cell? ⟨w.heap.size, k, none⟩ = some (.int .u8 ((List.replicate (k + 1) 0 ++ suf).getD k 0)) := by rw [blk_cell hblk.out, digArr_cell (by omega)]
      have hfro : wr.frozen? ⟨w.heap.size, k, none⟩ = false := blk_frozen hblk.out k
      have hd0 : (0 : Int) ≤ (m : Int) % 10 := by omega
      have hd1 : (m : Int) % 10 < 10 := by omega
      have hq0 : (m : Int) / 10 ≤ 9223372036854775808 := by omega
      have hq1 : (0 : Int) ≤ (m : Int) / 10 := by omega
      have hb : IntKind.u8.wrap (48 + (m : Int) % 10) = 48 + (m : Int) % 10 := by have := dig_byte m; rwa [Int.natCast_emod] at this
      have hks' : Hid (k + ((48 + (m : Int) % 10) :: suf).length = 20) := by show _ = _; have := hks.out; simp; omega
      have hblk' : Hid ((wr.setCell ⟨w.heap.size, k, none⟩ (.int .u8 (48 + (m : Int) % 10))).heap[w.heap.size]? = some (.cells (digArr k ((48 + (m : Int) % 10) :: suf)) 123 (0, 0))) := by
        rw [← digArr_put]; exact blk_set hblk.out _ _
      have hbel' : Hid (Below w.heap.size w (wr.setCell ⟨w.heap.size, k, none⟩ (.int .u8 (48 + (m : Int) % 10)))) := (show Below _ _ _ from hbel.out).setCell (p := ⟨w.heap.size, k, none⟩) (Nat.le_refl _) _
      by_cases h0 : m / 10 = 0
      · have hlast : Hid ((48 + (m : Int) % 10) :: suf = full U) := mid_last (k := k) hfm.out h0
        have ht : ((m : Int) / 10 == 0) = true := by simp; omega
        clear h0
        have hk1 := last_room hlast.out hlen.out hks'.out
        obtain ⟨k, rfl⟩ : ∃ k', k = k' + 1 := ⟨k - 1, by omega⟩
        have hcell2 : wr.cell? ⟨w.heap.size, k, none⟩ = some (.int .u8 ((List.replicate (k + 1 + 1) 0 ++ suf).getD k 0)) := by rw [blk_cell hblk.out, digArr_cell (by omega)]
        have hfro2 : wr.frozen? ⟨w.heap.size, k, none⟩ = false := blk_frozen hblk.out k
        have hsl := dig_cut w.heap.size k (by omega)
        have hfin2 : Hid (((wr.setCell ⟨w.heap.size, k + 1, none⟩ (.int .u8 (48 + (m : Int) % 10))).setCell ⟨w.heap.size, k, none⟩ (.int .u8 45)).heap[w.heap.size]? = some (.cells (digArr k (45 :: (48 + (m : Int) % 10) :: suf)) 123 (0, 0))) := by
          rw [← digArr_put]; exact blk_set hblk'.out _ _
        have hcv := dig_text (k := k) (by omega) (by have := hks'.out; simp at this ⊢; omega) hfin2.out
        have hcv' : Hid (Below w.heap.size w ((wr.setCell ⟨w.heap.size, k + 1, none⟩ (.int .u8 (48 + (m : Int) % 10))).setCell ⟨w.heap.size, k, none⟩ (.int .u8 45))) := (show Below _ _ _ from hbel'.out).setCell (p := ⟨w.heap.size, k, none⟩) (Nat.le_refl _) _
        rw [hlast.out, hfin.out] at hcv
        go_wp2
        go_ret
        exact ⟨rfl, hcv'.out⟩
      · have ht : ((m : Int) / 10 == 0) = false := by simp; omega
        have hnext : Hid (full (m / 10) ++ (48 + (m : Int) % 10) :: suf = full U) := mid_step (k := k) hfm.out h0
        have hk2' := mid_room hnext.out hlen.out hks'.out
        go_wp2
        go_roundw
        case measure => simp [intOf]
        case rel => exact ⟨k, m / 10, _, by go_num, by go_num, by omega, hk2', by omega, hks', hnext, hblk', hbel'⟩
  · have hfin : Hid (full a.toNat = digitsOf a) := by show _ = _; unfold digitsOf; rw [if_neg hneg]
    have hn : decide (a < 0) = false := by simpa using hneg
    have hw1 : IntKind.u64.wrap a = ((a.toNat : Nat) : Int) := abs_pos (by unfold inW at h; omega)
    have hUb : a.toNat ≤ 9223372036854775808 := by unfold inW at h; omega
    obtain ⟨U, hU⟩ : ∃ U : Nat, U = a.toNat := ⟨_, rfl⟩
    rw [← hU] at hfin hw1 hUb
    clear hU hneg h
    have hlen : Hid ((full U).length ≤ 19) := full_len 18 U (by rw [show (10 : Nat) ^ (18 + 1) = 10000000000000000000 by decide]; omega)
    go_enter Try.func78, Try.ntmps78
    go_wp2
    go_loopw [4, 5] (fun iv mv wr => ∃ (k m : Nat) (suf : List Int), iv = .int .i64 k ∧ mv = .int .u64 m ∧ k ≤ 20 ∧ 2 ≤ k ∧ m ≤ 9223372036854775808 ∧ Hid (k + suf.length = 20) ∧ Hid (full m ++ suf = full U) ∧ Hid (wr.heap[w.heap.size]? = some (.cells (digArr k suf) 123 (0, 0))) ∧ Hid (Below w.heap.size w wr)) (fun iv _ _ => (intOf iv).toNat)
    case atStart => exact ⟨20, U, [], rfl, rfl, by omega, by omega, hUb, rfl, List.append_nil _, by rw [zero20]; exact heap_alloc_new w _, (Below.refl _ w).alloc (Nat.le_refl _) _⟩
    case round =>
      obtain ⟨k0, m, suf, rfl, rfl, hk20, hk2, hm, hks, hfm, hblk, hbel⟩ := hrel
      obtain ⟨k, rfl⟩ : ∃ k, k0 = k + 1 := ⟨k0 - 1, by omega⟩
      have hcell : wr.cell? ⟨w.heap.size, k, none⟩ = some (.int .u8 ((List.replicate (k + 1) 0 ++ suf).getD k 0)) := by rw [blk_cell hblk.out, digArr_cell (by omega)]
      have hfro : wr.frozen? ⟨w.heap.size, k, none⟩ = false := blk_frozen hblk.out k
      have hd0 : (0 : Int) ≤ (m : Int) % 10 := by omega
      have hd1 : (m : Int) % 10 < 10 := by omega
      have hq0 : (m : Int) / 10 ≤ 9223372036854775808 := by omega
      have hq1 : (0 : Int) ≤ (m : Int) / 10 := by omega
      have hb : IntKind.u8.wrap (48 + (m : Int) % 10) = 48 + (m : Int) % 10 := by have := dig_byte m; rwa [Int.natCast_emod] at this
      have hks' : Hid (k + ((48 + (m : Int) % 10) :: suf).length = 20) := by show _ = _; have := hks.out; simp; omega
      have hblk' : Hid ((wr.setCell ⟨w.heap.size, k, none⟩ (.int .u8 (48 + (m : Int) % 10))).heap[w.heap.size]? = some (.cells (digArr k ((48 + (m : Int) % 10) :: suf)) 123 (0, 0))) := by
        rw [← digArr_put]; exact blk_set hblk.out _ _
      have hbel' : Hid (Below w.heap.size w (wr.setCell ⟨w.heap.size, k, none⟩ (.int .u8 (48 + (m : Int) % 10)))) := (show Below _ _ _ from hbel.out).setCell (p := ⟨w.heap.size, k, none⟩) (Nat.le_refl _) _
      by_cases h0 : m / 10 = 0
      · have hlast : Hid ((48 + (m : Int) % 10) :: suf = full U) := mid_last (k := k) hfm.out h0
        have ht : ((m : Int) / 10 == 0) = true := by simp; omega
        clear h0
        have hk1 := last_room hlast.out hlen.out hks'.out
        have hsl := dig_cut w.heap.size k (by omega)
        have hcv := dig_text (k := k) (by omega) (by have := hks'.out; simp at this ⊢; omega) hblk'.out
        rw [hlast.out, hfin.out] at hcv
        go_wp2
        go_ret
        exact ⟨rfl, hbel'.out⟩
      · have ht : ((m : Int) / 10 == 0) = false := by simp; omega
        have hnext : Hid (full (m / 10) ++ (48 + (m : Int) % 10) :: suf = full U) := mid_step (k := k) hfm.out h0
        have hk2' := mid_room hnext.out hlen.out hks'.out
        go_wp2
        go_roundw
        case measure => simp [intOf]
        case rel => exact ⟨k, m / 10, _, by go_num, by go_num, by omega, hk2', by omega, hks', hnext, hblk', hbel'⟩
def num_Digits.f (a0 : Int) : Option ByteArray := if -9223372036854775808 ≤ a0 ∧ a0 ≤ 9223372036854775807 then some (strOfNums (digitsOf a0)) else none
theorem num_Digits.calls (a0 : Int) (r : ByteArray) (w : World) (h : num_Digits.f a0 = some r) :
    Calls Try.prog 78 #[.int .i64 a0] w fun e w' => e = .returned (.string r) ∧ Below w.heap.size w w' := by
  unfold num_Digits.f at h
  split at h
  case isFalse => cases h
  case isTrue h1 =>
    obtain rfl := Option.some.inj h
    exact digits_calls a0 w h1
end Go.Proofs.Ytiojfdgagdofiaa.HK
