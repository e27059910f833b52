/-
The contract of perm.From, over the translation: the order of a number.
-/
import Derived.Test.YtnhhfmmbanimlaaHk2
set_option linter.unusedVariables false
set_option linter.unusedSimpArgs false
namespace Go.Proofs.Ytnhhfmmbanimlaa.HK
open Go.RowKit Go.Proofs.YtnhhfmmbanimlaaW.PrintWords Go.Proofs.YtnhhfmmbanimlaaW.PrintLast Go.Proofs.YtnhhfmmbanimlaaW.PrintMore

def perm_From.f (a0 a1 : Int) : Option (List Int × Int) :=
  if 0 ≤ a1 ∧ a1 ≤ 18446744073709551615 then (if 0 ≤ a0 ∧ a0 ≤ 16 then some (fromOf a0.toNat (upTo a0.toNat) (fac a0.toNat) (a1.toNat % fac a0.toNat), 0) else some ([], 2)) else none
set_option maxHeartbeats 1000000 in
theorem from_bad (a0 : Int) (a1 : Int) (w : World) (h : ¬ (0 ≤ a0 ∧ a0 ≤ 16)) :
    Calls Try.prog 18 #[.int .i64 a0, .int .u64 a1] w fun e w' => ∃ v0_ : Value, e = .returned (.tuple #[v0_, .int .i64 2]) ∧ Kd.R (Kd.int .i64) 3 w' w.heap.size (fun _ => True) v0_ [] ∧ Below w.heap.size w w' := by
  have hm : Hid (perm_Many.f a0 = some 0) := by show some (manyOf a0) = some 0; unfold manyOf; rw [if_neg h]
  clear h
  go_enter Try.func18, Try.ntmps18
  go_wp2_with (go_at_call 27; refine (perm_Many.calls a0 0 _ hm.out).mono ?_; rintro e w' ⟨rfl, ⟨n, rfl⟩⟩)
  go_ret2
  exact ⟨_, rfl, Kd.R_nil _ _ _ _ _, pw_below_drewN (Below.refl _ _) _⟩
def upArr (n k : Nat) : Array Value := (nums .i64 (upTo k ++ List.replicate (n - k) 0)).toArray
theorem upArr_zero (n : Nat) : upArr n 0 = madeCells #[.int .i64 0] n := by
  apply Array.ext_getElem?
  intro i
  by_cases h : i < n
  · simp [upArr, upTo, nums, madeCells, Nat.mod_one, h]
  · simp [upArr, upTo, nums, madeCells, Nat.mod_one, h]
theorem upTo_length (n : Nat) : (upTo n).length = n := by simp [upTo]
theorem upTo_succ (k : Nat) : upTo (k + 1) = upTo k ++ [(k : Int)] := by simp [upTo, List.range_succ]
theorem upArr_put {n k : Nat} (h : k < n) : (upArr n k).setIfInBounds k (.int .i64 (k : Int)) = upArr n (k + 1) := by
  obtain ⟨m, hm⟩ : ∃ m, n - k = m + 1 := ⟨n - k - 1, by omega⟩
  unfold upArr
  rw [show n - (k + 1) = m by omega, hm, List.replicate_succ, upTo_succ]
  simp [nums, List.set_append, upTo_length]
theorem upArr_cell {n k : Nat} (h : k < n) : ∃ v, (upArr n k)[k]? = some v := by
  refine ⟨_, Array.getElem?_eq_getElem (by simp [upArr, nums, upTo_length]; omega)⟩
theorem upArr_full (n : Nat) : upArr n n = (nums .i64 (upTo n)).toArray := by simp [upArr]
theorem make_cap (n : Nat) (hn : n ≤ 1000000) (W : World) : (Instr.makeSlice 22 (.int .i64 0) (.int .i64 (n : Int))).run Try.prog W = .ok (.slice (some ⟨W.heap.size, 0, none⟩) 0 n) (W.alloc (.cells (madeCells #[.int .i64 0] n) 3)) := by
  obtain ⟨i, hi, hzz⟩ := Option.map_eq_some_iff.1 info3
  simp only [Prod.mk.injEq] at hzz
  obtain ⟨hz, hs, hb⟩ := hzz
  have hr := run_make (P := Try.prog) W 22 3 i (.int .i64 0) Try.underlying22 hi hz .i64 .i64 0 n (by omega) (by omega) (by rw [hb]; omega) (by omega)
  simp only [Int.toNat_natCast, hs, Nat.mul_one] at hr
  exact hr
theorem erase_eq (ys : List Int) (I : Nat) : ys.eraseIdx I = ys.take I ++ ys.drop (I + 1) := List.eraseIdx_eq_take_drop_succ ys I
/-- slices.Delete of one element of a row that lies whole in one block. -/
theorem delete_any (g n c I : Nat) (zs : List Int) (w : World) (hz : n ≤ zs.length) (hn : n ≤ c) (hc : c ≤ 9223372036854775807) (hI : I < n) (hb : w.heap[g]? = some (.cells (nums .i64 zs).toArray 3 (0, 0))) :
    Calls Try.prog 46 #[.slice (some ⟨g, 0, none⟩) n c, .int .i64 I, .int .i64 ((I : Int) + 1)] w fun e w' => e = .returned (.slice (some ⟨g, 0, none⟩) (n - 1) c) ∧
      ∃ zs' : List Int, zs'.length = zs.length ∧ zs'.take (n - 1) = (zs.take n).eraseIdx I ∧ w'.heap[g]? = some (.cells (nums .i64 zs').toArray 3 (0, 0)) ∧ (∀ i, i ≠ g → w'.heap[i]? = w.heap[i]?) ∧ ∀ B w0, B ≤ g → Below B w0 w → Below B w0 w' := by
  have h := Try.slices_Delete_int_cells g 0 n c I (I + 1) zs w hz hn hc (by omega) (by omega)
    (fun j hj => by rw [Nat.zero_add, blk_cell hb, List.getElem?_toArray]; exact nums_getD hj)
    (fun j _ => blk_frozen hb _)
  refine (show Calls Try.prog 46 #[.slice (some ⟨g, 0, none⟩) n c, .int .i64 I, .int .i64 ((I : Int) + 1)] w _ from h).mono ?_
  rintro e w' ⟨rfl, q, rfl⟩
  refine ⟨by rw [show n - (I + 1 - I) = n - 1 by omega], (zs.take n).eraseIdx I ++ [0] ++ zs.drop n, ?_, ?_, ?_, ?_, ?_⟩
  · rw [List.length_append, List.length_append, List.length_eraseIdx]
    simp only [List.length_take, List.length_drop, List.length_singleton]
    rw [if_pos (by omega)]
    omega
  · rw [List.append_assoc, List.take_left' (by rw [List.length_eraseIdx, List.length_take, if_pos (by omega)]; omega)]
  · have := blk_setCells (((zs.take n).take I ++ (zs.take n).drop (I + 1) ++ List.replicate (I + 1 - I) 0).map (Value.int .i64)) 0 (w.drewN q) _ (blk_drewN hb q)
    rw [this, setFrom_list _ _ _ (by simp [nums]; omega), ← erase_eq, show I + 1 - I = 1 by omega]
    have hl : (((zs.take n).eraseIdx I ++ List.replicate 1 0).map (Value.int .i64)).length = n := by
      rw [List.length_map, List.length_append, List.length_eraseIdx, List.length_take, if_pos (by omega), List.length_replicate]
      omega
    rw [hl]
    simp [nums, List.map_drop]
  · exact fun i hi => setCells_far g hi _ _ _
  · exact fun B w0 hB hbel => below_setCells hB _ _ _ (pw_below_drewN hbel q)
set_option maxHeartbeats 1000000 in
theorem from_good (n : Nat) (k : Nat) (w : World) (h : n ≤ 16) (hk : k ≤ 18446744073709551615) :
    Calls Try.prog 18 #[.int .i64 n, .int .u64 k] w fun e w' => ∃ v0_ : Value, e = .returned (.tuple #[v0_, .int .i64 0]) ∧ Kd.R (Kd.int .i64) 3 w' w.heap.size (fun _ => True) v0_ (fromOf n (upTo n) (fac n) (k % fac n)) ∧ Below w.heap.size w w' := by
  have hm : Hid (perm_Many.f n = some (fac n : Nat)) := by show some (manyOf n) = some ((fac n : Nat) : Int); unfold manyOf; rw [if_pos (by omega)]; rfl
  have hp := fac_pos n
  have hf := fac_le h
  generalize hF0 : fac n = F at *
  have hF := Lib.hid hF0
  clear hF0
  have hz : ((F : Int) == 0) = false := by simp; omega
  have hmk := print_make 22 3 .i64 8 Try.underlying22 info3 (Nat.succ_pos 7) n (by omega)
  go_enter Try.func18, Try.ntmps18
  go_wp2_with (go_at_call 27; refine (perm_Many.calls n F _ hm.out).mono ?_; rintro e w' ⟨rfl, ⟨q, rfl⟩⟩)
  go_loopw [23] (fun i wr => ∃ j : Nat, j ≤ n ∧ i = .int .i64 j ∧ Hid (wr.heap[w.heap.size]? = some (.cells (upArr n j) 3 (0, 0))) ∧ Hid (Below w.heap.size w wr)) (fun i _ => n - (intOf i).toNat)
  case atStart =>
    refine ⟨0, Nat.zero_le _, rfl, ?_, (pw_below_drewN (Below.refl _ w) q).alloc (Nat.le_refl _) _⟩
    rw [upArr_zero]
    exact heap_alloc_new (w.drewN q) _
  case round =>
    obtain ⟨j, hj, rfl, hb, hbel⟩ := hrel
    by_cases hlt : j < n
    · obtain ⟨v, hv⟩ := upArr_cell hlt
      have hs : wr.cell? ⟨w.heap.size, j, none⟩ = some v := (blk_cell hb.out j).trans hv
      have hf : wr.frozen? ⟨w.heap.size, j, none⟩ = false := blk_frozen hb.out j
      clear hv
      go_wp2
      go_roundw
      case measure => simp [intOf]; omega
      case rel =>
        refine ⟨j + 1, by omega, by go_num, ?_, (show Below _ _ _ from hbel).setCell (p := ⟨w.heap.size, j, none⟩) (Nat.le_refl _) _⟩
        rw [← upArr_put hlt]
        exact blk_set hb.out _ _
    · obtain rfl : j = n := by omega
      rw [upArr_full] at hb
      have hmk2 := make_cap j (by omega)
      go_wp2
      go_loopw [1, 6, 7, 9, 10] (fun kv mv lv ov rv wx => ∃ (rest K M : Nat) (zs out : List Int), rest ≤ j ∧ K < M ∧ M ≤ 20922789888000 ∧ Hid (M = fac rest) ∧ kv = .int .u64 K ∧ mv = .int .u64 M ∧ rv = .int .i64 rest ∧
          lv = .slice (some ⟨w.heap.size, 0, none⟩) rest j ∧ Hid (zs.length = j) ∧ Hid (wx.heap[w.heap.size]? = some (.cells (nums .i64 zs).toArray 3 (0, 0))) ∧
          Hid (wx.ownsRow (w.heap.size + 1) 3 1 ov out.length (nums .i64 out)) ∧ Hid (out.length + rest = j) ∧ Hid (Below w.heap.size w wx) ∧ Hid (out ++ fromOf rest (zs.take rest) M K = fromOf j (upTo j) F (k % F))) (fun _ _ _ _ rv _ => (intOf rv).toNat)
      case atStart =>
        refine ⟨j, k % F, F, upTo j, [], Nat.le_refl _, Nat.mod_lt _ hp, hf, hF.out.symm, ?_, rfl, rfl, rfl, upTo_length j, ?_, ?_, ?_, ?_, ?_⟩
        · go_num
        · exact blk_alloc hb.out _
        · exact World.ownsRow_made wr _ j (by have := blk_lt hb.out; omega) (by unfold maxLen; omega) (by simp [size_madeCells])
        · exact Nat.zero_add _
        · exact hbel.out.alloc hbel.out.size _
        · rw [List.take_of_length_le (by rw [upTo_length]; exact Nat.le_refl _)]; rfl
      case round =>
        obtain ⟨rest, K, M, zs, out, hrest, hKM, hM, hMf, rfl, rfl, rfl, rfl, hzl, hzb, hown, hol, hbx, heq⟩ := hrel
        rcases rest with _ | r
        · have hfin : Hid (out = fromOf j (upTo j) F (k % F)) := by have := heq.out; rw [fromOf, List.append_nil] at this; exact this
          go_wp2
          go_ret2
          refine ⟨_, rfl, ?_, hbx⟩
          rw [← hfin.out]
          exact R_of_own (own_weaken hown.out (Nat.le_succ _)) (fun _ _ => trivial)
        · have hp1 := fac_pos r
          have hMf1 : Hid (M / (r + 1) = fac r) := by rw [hMf.out]; exact fac_quot r
          have hq : K / fac r < r + 1 := pick_lt (by rw [← hMf.out]; exact hKM)
          have hq2 : K % fac r < fac r := Nat.mod_lt _ hp1
          obtain ⟨M1, hM1⟩ : ∃ m, m = fac r := ⟨_, rfl⟩
          obtain ⟨I, hI⟩ : ∃ m, m = K / fac r := ⟨_, rfl⟩
          have hM1b : M1 ≤ M := by rw [hM1, ← hMf1.out]; exact Nat.div_le_self _ _
          have hIb : I < r + 1 := by rw [hI]; exact hq
          have hKb : K / fac r ≤ K := Nat.div_le_self _ _
          have eM : IntKind.u64.wrap ((M : Int) / ((r : Int) + 1)) = (M1 : Int) := by
            rw [show ((M : Int) / ((r : Int) + 1)) = (M1 : Int) by rw [hM1, ← hMf1.out]; simp]
            exact IntWalk.u64_in _ ⟨by omega, by omega⟩
          have eI : IntKind.u64.wrap ((K : Int) / (M1 : Int)) = (I : Int) := by
            rw [show ((K : Int) / (M1 : Int)) = (I : Int) by rw [hI, hM1]; simp]
            exact IntWalk.u64_in _ ⟨by omega, by omega⟩
          have hq2' : K % M1 < M1 := by rw [hM1]; exact hq2
          have hM1h := Lib.hid hM1
          have hIh := Lib.hid hI
          clear hM1 hI hq hq2 hKb hp1
          have hzI : I < zs.length := by rw [hzl.out]; omega
          have hs : wr.cell? ⟨w.heap.size, I, none⟩ = some (.int .i64 (zs.getD I 0)) := (blk_cell hzb.out I).trans (by rw [List.getElem?_toArray]; exact nums_getD hzI)
          obtain ⟨x, hx⟩ : ∃ x, x = zs.getD I 0 := ⟨_, rfl⟩
          rw [← hx] at hs
          have hxh := Lib.hid hx
          clear hx hzI
          have hgw := blk_lt hzb.out
          go_wp2_with (at_builtin; refine print_append_num (w0 := wr) (w.heap.size + 1) rfl (.tmp 49) (.tmp 54) 22 3 .i64 8 rfl Try.underlying22 info3 (Nat.succ_pos 7) _ out x rfl rfl hown.out (Below.refl _ _) hgw ?qa ?_)
          case qa => have := hol.out; omega
          intro v1 w1 hown1 hb1 _ _
          have hz1 : Hid (w1.heap[w.heap.size]? = some (.cells (nums .i64 zs).toArray 3 (0, 0))) := (hb1.block _ (by omega)).trans hzb.out
          have hbx1 : Hid (Below w.heap.size w w1) := below_then' hbx.out hb1
          clear hs
          have hO1 := Lib.hid hown1
          clear hown1
          go_wp2_with (go_at_call 46; refine (delete_any w.heap.size (r + 1) j I zs _ (by rw [hzl.out]; exact hrest) hrest (by omega) hIb hz1.out).mono ?_; rintro e w2 ⟨rfl, hpost⟩)
          obtain ⟨zs', hzl', htk, hz2, hfar, hbelow⟩ := hpost
          go_roundw
          case measure => simp [intOf]
          case rel =>
            have hxe := hxh.out
            refine ⟨r, K % M1, M1, zs', out ++ [x], by omega, hq2', by omega, hM1h.out, ?_, rfl, ?_, rfl, ?_, hz2, ?_, ?_, hbelow _ _ (Nat.le_refl _) hbx1.out, ?_⟩
            · go_num
            · go_num
            · rw [hzl', hzl.out]; exact rfl
            · rw [List.length_append, List.length_singleton]; exact own_move hO1.out (fun b hb => hfar b (by have := own_base hO1.out b hb; omega))
            · have := hol.out; rw [List.length_append, List.length_singleton]; show _ = _; omega
            · have := heq.out
              rw [hMf.out, fromOf_step, ← hIh.out, ← hM1h.out] at this
              rw [List.append_assoc, ← this, show zs'.take r = (zs.take (r + 1)).eraseIdx I from htk, hxe]
              have : (zs.take (r + 1)).getD I 0 = zs.getD I 0 := by
                rw [List.getD_eq_getElem?_getD, List.getElem?_take, if_pos hIb, List.getD_eq_getElem?_getD]
              rw [this]
              rfl
theorem perm_From.calls (a0 : Int) (a1 : Int) (r1 : List Int) (r2 : Int) (w : World) (h : perm_From.f a0 a1 = some (r1, r2)) :
    Calls Try.prog 18 #[.int .i64 a0, .int .u64 a1] w fun e w' => ∃ v0_ : Value, e = .returned (.tuple #[v0_, .int .i64 r2]) ∧ Kd.R (Kd.int .i64) 3 w' w.heap.size (fun _ => True) v0_ r1 ∧ Below w.heap.size w w' := by
  unfold perm_From.f at h
  split at h
  case isFalse => cases h
  case isTrue h1 =>
    obtain ⟨k, rfl⟩ := Int.eq_ofNat_of_zero_le h1.1
    split at h
    case isFalse h2 =>
      simp only [Option.some.injEq, Prod.mk.injEq] at h
      obtain ⟨rfl, rfl⟩ := h
      exact from_bad a0 k w h2
    case isTrue h2 =>
      obtain ⟨n, rfl⟩ := Int.eq_ofNat_of_zero_le h2.1
      simp only [Option.some.injEq, Prod.mk.injEq, Int.toNat_natCast] at h
      obtain ⟨rfl, rfl⟩ := h
      exact from_good n k w (by omega) (by omega)
end Go.Proofs.Ytnhhfmmbanimlaa.HK
