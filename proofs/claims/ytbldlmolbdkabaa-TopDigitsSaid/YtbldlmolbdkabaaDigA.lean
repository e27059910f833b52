/-
Contracts of num.Bytes and num.Join, over the translation.
-/
import Derived.Test.YtbldlmolbdkabaaNumB
set_option linter.unusedVariables false
set_option linter.unusedSimpArgs false
namespace Go.Proofs.Ytbldlmolbdkabaa.HK
open Go.RowKit Go.Proofs.YtbldlmolbdkabaaW.PrintWords Go.Proofs.YtbldlmolbdkabaaW.PrintLast Go.Proofs.YtbldlmolbdkabaaW.PrintMore

theorem heap_two (w : World) (o o' : Obj) : ((w.alloc o).alloc o').heap[w.heap.size]? = some o ∧ ((w.alloc o).alloc o').heap[w.heap.size + 1]? = some o' := by
  refine ⟨?_, ?_⟩
  · rw [Below.heap_alloc _ _ _ (by simp)]; exact heap_alloc_new w o
  · have := heap_alloc_new (w.alloc o) o'
    simpa using this
def byteOf (a : Int) (i : Nat) : Int := a / 2 ^ (56 - 8 * i) % 256
def byteArr (a : Int) (k : Nat) : Array Value := ((List.range 8).map (fun i => Value.int .u8 (if i < k then byteOf a i else 0))).toArray
theorem byteArr_zero (a : Int) : byteArr a 0 = #[.int .u8 0, .int .u8 0, .int .u8 0, .int .u8 0, .int .u8 0, .int .u8 0, .int .u8 0, .int .u8 0] := rfl
theorem byteArr_put {a : Int} {k : Nat} (h : k < 8) : (byteArr a k).setIfInBounds k (.int .u8 (byteOf a k)) = byteArr a (k + 1) := by
  match k, h with
  | 0, _ | 1, _ | 2, _ | 3, _ | 4, _ | 5, _ | 6, _ | 7, _ => rfl
theorem byteArr_cell {a : Int} {k j : Nat} (h : j < 8) : (byteArr a k)[j]? = some (.int .u8 (if j < k then byteOf a j else 0)) := by
  match j, h with
  | 0, _ | 1, _ | 2, _ | 3, _ | 4, _ | 5, _ | 6, _ | 7, _ => rfl
set_option maxHeartbeats 1000000 in
theorem bytes_calls (a : Int) (w : World) :
    Calls Try.prog 6 #[.int .i64 a] w fun e w' => e = .returned (.agg (byteArr a 8)) ∧ Below w.heap.size w w' := by
  go_enter Try.func6, Try.ntmps6
  go_wp2
  go_loopw [5] (fun iv wr => ∃ k : Nat, k ≤ 8 ∧ iv = .int .i64 k ∧ Hid (wr.heap[w.heap.size]? = some (.cells (byteArr a 0) 23 (0, 0))) ∧ Hid (wr.heap[w.heap.size + 1]? = some (.cells (byteArr a k) 23 (0, 0))) ∧ Hid (Below w.heap.size w wr)) (fun iv _ => 8 - (intOf iv).toNat)
  case atStart =>
    refine ⟨0, by omega, rfl, ?_, ?_, ((Below.refl _ w).alloc (Nat.le_refl _) _).alloc (by simp) _⟩
    · rw [byteArr_zero]
      exact (Below.heap_alloc _ _ _ (by simp)).trans (heap_alloc_new w _)
    · rw [byteArr_zero]
      exact (heap_two w _ _).2
  case round =>
    obtain ⟨k, hk, rfl, h1, h2, hb⟩ := hrel
    by_cases hlt : k < 8
    · have hc : wr.cell? ⟨w.heap.size + 1, k, none⟩ = some (.int .u8 (if k < k then byteOf a k else 0)) := by rw [blk_cell h2.out, byteArr_cell hlt]
      have hf : wr.frozen? ⟨w.heap.size + 1, k, none⟩ = false := blk_frozen h2.out k
      go_wp2
      go_roundw
      case measure => simp [intOf]; omega
      case rel =>
        refine ⟨k + 1, by omega, by go_num, ?_, ?_, (show Below _ _ _ from hb.out).setCell (p := ⟨w.heap.size + 1, k, none⟩) (Nat.le_succ _) _⟩
        · exact (Below.heap_setCell wr _ _ _ (by show w.heap.size ≠ w.heap.size + 1; omega)).trans h1.out
        · rw [← byteArr_put hlt]
          exact blk_set h2.out k _
    · obtain rfl : k = 8 := by omega
      have hcell : ∀ j, j < 8 → wr.cell? ⟨w.heap.size + 1, j, none⟩ = some (.int .u8 (byteOf a j)) := fun j hj => by rw [blk_cell h2.out, byteArr_cell hj, if_pos hj]
      have hcell0 : ∀ j, j < 8 → wr.cell? ⟨w.heap.size, j, none⟩ = some (.int .u8 0) := fun j hj => by rw [blk_cell h1.out, byteArr_cell hj, if_neg (by omega)]
      have c0 := hcell 0 (by decide)
      have c1 := hcell 1 (by decide)
      have c2 := hcell 2 (by decide)
      have c3 := hcell 3 (by decide)
      have c4 := hcell 4 (by decide)
      have c5 := hcell 5 (by decide)
      have c6 := hcell 6 (by decide)
      have c7 := hcell 7 (by decide)
      have d0 := hcell0 0 (by decide)
      have d1 := hcell0 1 (by decide)
      have d2 := hcell0 2 (by decide)
      have d3 := hcell0 3 (by decide)
      have d4 := hcell0 4 (by decide)
      have d5 := hcell0 5 (by decide)
      have d6 := hcell0 6 (by decide)
      have d7 := hcell0 7 (by decide)
      have f0 := blk_frozen h1.out 0
      have f1 := blk_frozen h1.out 1
      have f2 := blk_frozen h1.out 2
      have f3 := blk_frozen h1.out 3
      have f4 := blk_frozen h1.out 4
      have f5 := blk_frozen h1.out 5
      have f6 := blk_frozen h1.out 6
      have f7 := blk_frozen h1.out 7
      have hz : w.heap.size + 1 < wr.heap.size := blk_lt h2.out
      clear hcell hcell0
      go_wp2
      refine bodyPost_ret (v := .agg (byteArr a 8)) (by simp [results, Try.results6, go_sem, hz, c0, c1, c2, c3, c4, c5, c6, c7, d0, d1, d2, d3, d4, d5, d6, d7]; rfl) rfl ⟨rfl, ?_⟩
      exact ((((((((show Below _ _ _ from hb.out).setCell (p := ⟨w.heap.size, 0, none⟩) (Nat.le_refl _) _).setCell (p := ⟨w.heap.size, 1, none⟩) (Nat.le_refl _) _).setCell (p := ⟨w.heap.size, 2, none⟩) (Nat.le_refl _) _).setCell (p := ⟨w.heap.size, 3, none⟩) (Nat.le_refl _) _).setCell (p := ⟨w.heap.size, 4, none⟩) (Nat.le_refl _) _).setCell (p := ⟨w.heap.size, 5, none⟩) (Nat.le_refl _) _).setCell (p := ⟨w.heap.size, 6, none⟩) (Nat.le_refl _) _).setCell (p := ⟨w.heap.size, 7, none⟩) (Nat.le_refl _) _
/-- The number that bytes are, up to some. -/
def joinTo (cs : Nat → Int) : Nat → Int
  | 0 => 0
  | k + 1 => Go.bits .or .i64 (wrap64 (joinTo cs k * 256)) (cs k)
set_option maxHeartbeats 1000000 in
theorem join_calls (cs : Nat → Int) (hcs : ∀ i, i < 8 → 0 ≤ cs i ∧ cs i ≤ 255) (w : World) :
    Calls Try.prog 9 #[.agg #[.int .u8 (cs 0), .int .u8 (cs 1), .int .u8 (cs 2), .int .u8 (cs 3), .int .u8 (cs 4), .int .u8 (cs 5), .int .u8 (cs 6), .int .u8 (cs 7)]] w fun e w' => e = .returned (.int .i64 (joinTo cs 8)) ∧ Below w.heap.size w w' := by
  have HCS := Lib.hid hcs
  clear hcs
  go_enter Try.func9, Try.ntmps9
  go_wp2
  obtain ⟨wa, hwa⟩ : ∃ wa, wa = w.alloc (.cells #[.int .u8 (cs 0), .int .u8 (cs 1), .int .u8 (cs 2), .int .u8 (cs 3), .int .u8 (cs 4), .int .u8 (cs 5), .int .u8 (cs 6), .int .u8 (cs 7)] 23) := ⟨_, rfl⟩
  rw [← hwa]
  have hb : Below w.heap.size w wa := by rw [hwa]; exact (Below.refl _ w).alloc (Nat.le_refl _) _
  have hcell : ∀ j, j < 8 → wa.cell? ⟨w.heap.size, j, none⟩ = some (.int .u8 (cs j)) := by
    intro j hj
    rw [blk_cell (show wa.heap[w.heap.size]? = some (.cells #[.int .u8 (cs 0), .int .u8 (cs 1), .int .u8 (cs 2), .int .u8 (cs 3), .int .u8 (cs 4), .int .u8 (cs 5), .int .u8 (cs 6), .int .u8 (cs 7)] 23 (0, 0)) by rw [hwa]; exact heap_alloc_new w _)]
    match j, hj with
    | 0, _ | 1, _ | 2, _ | 3, _ | 4, _ | 5, _ | 6, _ | 7, _ => rfl
  have HB := Lib.hid hb
  have HC := Lib.hid hcell
  clear hb hcell hwa
  go_loop [3, 5] (fun v iv => ∃ k : Nat, k ≤ 8 ∧ iv = .int .i64 k ∧ v = .int .i64 (joinTo cs k)) (fun _ iv => 8 - (intOf iv).toNat)
  case atStart => exact ⟨0, by omega, rfl, rfl⟩
  case round =>
    obtain ⟨k, hk, rfl, rfl⟩ := hrel
    by_cases hlt : k < 8
    · have hc := HC.out k hlt
      obtain ⟨hc0, hc1⟩ := HCS.out k hlt
      obtain ⟨x, hx⟩ : ∃ x, x = joinTo cs k := ⟨_, rfl⟩
      rw [← hx]
      have HX := Lib.hid hx
      clear hx
      go_wp2
      go_round
      case measure => simp [intOf]; omega
      case rel => exact ⟨k + 1, by omega, by go_num, by rw [HX.out]; rfl⟩
    · obtain rfl : k = 8 := by omega
      go_wp2
      go_ret
      exact ⟨rfl, HB.out⟩
/-! ### the number again -/
theorem or_byte {x c : Int} (hx0 : 0 ≤ x) (hx : x < 72057594037927936) (hc0 : 0 ≤ c) (hc : c ≤ 255) : Go.bits .or .i64 (wrap64 (x * 256)) c = wrap64 (x * 256 + c) := by
  obtain ⟨n, rfl⟩ := Int.eq_ofNat_of_zero_le hx0
  obtain ⟨m, rfl⟩ := Int.eq_ofNat_of_zero_le hc0
  have e1 : BitVec.ofInt 64 (wrap64 ((n : Int) * 256)) = BitVec.ofNat 64 (n * 256) := by
    apply BitVec.eq_of_toNat_eq
    rw [BitVec.toNat_ofInt, BitVec.toNat_ofNat]
    unfold wrap64
    omega
  have e2 : BitVec.ofInt 64 (m : Int) = BitVec.ofNat 64 m := by
    apply BitVec.eq_of_toNat_eq
    rw [BitVec.toNat_ofInt, BitVec.toNat_ofNat]
    omega
  show IntKind.i64.wrap (((BitVec.ofInt 64 (wrap64 ((n : Int) * 256)) ||| BitVec.ofInt 64 (m : Int)).toNat : Nat) : Int) = _
  rw [e1, e2]
  have e3 : (BitVec.ofNat 64 (n * 256) ||| BitVec.ofNat 64 m).toNat = n * 256 + m := by
    rw [BitVec.toNat_or, BitVec.toNat_ofNat, BitVec.toNat_ofNat, Nat.mod_eq_of_lt (by omega), Nat.mod_eq_of_lt (by omega), Nat.mul_comm n 256]
    exact (Nat.two_pow_add_eq_or_of_lt (i := 8) (by omega) n).symm
  rw [e3, IntKind.wrap_i64]
  unfold wrap64
  omega
theorem join_step {cs : Nat → Int} {k : Nat} {x : Int} (h : joinTo cs k = x) (hx0 : 0 ≤ x) (hx : x < 72057594037927936) (hc0 : 0 ≤ cs k) (hc : cs k ≤ 255) : joinTo cs (k + 1) = wrap64 (x * 256 + cs k) := by
  rw [joinTo, h, or_byte hx0 hx hc0 hc]
theorem byteOf_in (a : Int) (i : Nat) : 0 ≤ byteOf a i ∧ byteOf a i ≤ 255 := by
  unfold byteOf
  generalize a / 2 ^ (56 - 8 * i) = q
  omega
theorem byteOf_at (a : Int) : byteOf a 0 = a / 72057594037927936 % 256 ∧ byteOf a 1 = a / 281474976710656 % 256 ∧ byteOf a 2 = a / 1099511627776 % 256 ∧ byteOf a 3 = a / 4294967296 % 256 ∧ byteOf a 4 = a / 16777216 % 256 ∧ byteOf a 5 = a / 65536 % 256 ∧ byteOf a 6 = a / 256 % 256 ∧ byteOf a 7 = a / 1 % 256 :=
  ⟨rfl, rfl, rfl, rfl, rfl, rfl, rfl, rfl⟩
theorem emod_lo (x : Int) {m : Int} (h : 0 < m) : 0 ≤ x % m := Int.emod_nonneg _ (by omega)
theorem emod_hi (x : Int) {m n : Int} (h : 0 < m) (h2 : m ≤ n) : x % m < n := by have := Int.emod_lt_of_pos x h; omega
theorem join_bytes {a : Int} (h : inW a) : joinTo (byteOf a) 8 = a := by
  unfold inW at h
  obtain ⟨h0, h1, h2, h3, h4, h5, h6, h7⟩ := byteOf_at a
  have b := byteOf_in a
  have j1 : joinTo (byteOf a) 1 = a / 72057594037927936 % 256 := (join_step (k := 0) (x := 0) rfl (by decide) (by decide) (b 0).1 (b 0).2).trans (by rw [h0]; generalize a / 72057594037927936 = q; unfold wrap64; omega)
  have e1 : a / 72057594037927936 = a / 281474976710656 / 256 := by clear h0 h1 h2 h3 h4 h5 h6 h7; omega
  have j2 : joinTo (byteOf a) 2 = a / 281474976710656 % 65536 := (join_step j1 (emod_lo _ (by decide)) (emod_hi _ (by decide) (by decide)) (b 1).1 (b 1).2).trans (by rw [h1, e1]; generalize a / 281474976710656 = q; unfold wrap64; omega)
  have e2 : a / 281474976710656 = a / 1099511627776 / 256 := by clear h0 h1 h2 h3 h4 h5 h6 h7; omega
  have j3 : joinTo (byteOf a) 3 = a / 1099511627776 % 16777216 := (join_step j2 (emod_lo _ (by decide)) (emod_hi _ (by decide) (by decide)) (b 2).1 (b 2).2).trans (by rw [h2, e2]; generalize a / 1099511627776 = q; unfold wrap64; omega)
  have e3 : a / 1099511627776 = a / 4294967296 / 256 := by clear h0 h1 h2 h3 h4 h5 h6 h7; omega
  have j4 : joinTo (byteOf a) 4 = a / 4294967296 % 4294967296 := (join_step j3 (emod_lo _ (by decide)) (emod_hi _ (by decide) (by decide)) (b 3).1 (b 3).2).trans (by rw [h3, e3]; generalize a / 4294967296 = q; unfold wrap64; omega)
  have e4 : a / 4294967296 = a / 16777216 / 256 := by clear h0 h1 h2 h3 h4 h5 h6 h7; omega
  have j5 : joinTo (byteOf a) 5 = a / 16777216 % 1099511627776 := (join_step j4 (emod_lo _ (by decide)) (emod_hi _ (by decide) (by decide)) (b 4).1 (b 4).2).trans (by rw [h4, e4]; generalize a / 16777216 = q; unfold wrap64; omega)
  have e5 : a / 16777216 = a / 65536 / 256 := by clear h0 h1 h2 h3 h4 h5 h6 h7; omega
  have j6 : joinTo (byteOf a) 6 = a / 65536 % 281474976710656 := (join_step j5 (emod_lo _ (by decide)) (emod_hi _ (by decide) (by decide)) (b 5).1 (b 5).2).trans (by rw [h5, e5]; generalize a / 65536 = q; unfold wrap64; omega)
  have e6 : a / 65536 = a / 256 / 256 := by clear h0 h1 h2 h3 h4 h5 h6 h7; omega
  have j7 : joinTo (byteOf a) 7 = a / 256 % 72057594037927936 := (join_step j6 (emod_lo _ (by decide)) (emod_hi _ (by decide) (by decide)) (b 6).1 (b 6).2).trans (by rw [h6, e6]; generalize a / 256 = q; unfold wrap64; omega)
  refine (join_step j7 (emod_lo _ (by decide)) (emod_hi _ (by decide) (by decide)) (b 7).1 (b 7).2).trans ?_
  rw [h7]
  clear h0 h1 h2 h3 h4 h5 h6 h7 j1 j2 j3 j4 j5 j6 j7
  unfold wrap64; omega
end Go.Proofs.Ytbldlmolbdkabaa.HK
