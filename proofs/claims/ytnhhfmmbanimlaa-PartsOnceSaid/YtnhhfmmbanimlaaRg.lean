/-
The walk of the statement PartsAlone: for every numbers and edges the call answers true, and nothing that was there has turned.
-/
import Derived.Test.YtnhhfmmbanimlaaRf
set_option linter.unusedVariables false
set_option linter.unusedSimpArgs false
namespace Go.Proofs.Ytnhhfmmbanimlaa.HP
open Go.RowKit Go.Proofs.Ytnhhfmmbanimlaa.HK Go.Proofs.Ytnhhfmmbanimlaa.HQ Go.Proofs.YtnhhfmmbanimlaaW.PrintWords Go.Proofs.YtnhhfmmbanimlaaW.PrintLast Go.Proofs.YtnhhfmmbanimlaaW.PrintMore

theorem IsEdges.take {w : World} {A : Option Addr} {c : Nat} {l : List (Int × Int)} (h : IsEdges w A c l) (m : Nat) (hm : m ≤ l.length) : IsEdges w A c (l.take m) :=
  ⟨by rw [List.length_take]; have := h.1; omega, Kd.C_take h.2 hm⟩
theorem one_worker (l : List Int) (v : Nat) : workerAt 1 l v = 0 := by
  have := workerAt_lt (W := 1) (by omega) l v
  omega
theorem one_cut (l : List Int) (n : Nat) (es : List (Int × Int)) : cutOf (workerAt 1 l) n es = 0 := by
  have h : ∀ e, crosses (workerAt 1 l) n e = false := by
    intro e
    unfold crosses ofAt
    rw [one_worker, one_worker]
    split <;> split <;> simp
  unfold cutOf crossing
  rw [List.length_eq_zero_iff, List.filter_eq_nil_iff]
  intro e _
  rw [h e]
  decide
theorem one_nodes (l : List Int) (n : Nat) : nodesOf (workerAt 1 l) n 0 = upTo n := by
  unfold nodesOf upTo
  rw [List.filter_eq_self.2]
  intro v _
  rw [one_worker]
  rfl
theorem ofAt_ge (f : Nat → Nat) (n : Nat) (v : Int) : ofAt f n v = -1 ∨ 0 ≤ ofAt f n v := by
  unfold ofAt
  split
  · right; omega
  · left; rfl
theorem ofAt_le (f : Nat → Nat) (n W : Nat) (hf : ∀ v, f v < W) (v : Int) : ofAt f n v < W := by
  unfold ofAt
  split
  · have := hf v.toNat; omega
  · omega
theorem crosses_ge (f : Nat → Nat) (n : Nat) (a b : Int) : crosses f n (a, b) = (decide (0 ≤ ofAt f n a) && (decide (0 ≤ ofAt f n b) && decide (ofAt f n a ≠ ofAt f n b))) := by
  unfold crosses
  have ha := ofAt_ge f n a
  have hb := ofAt_ge f n b
  generalize ofAt f n a = x at *
  generalize ofAt f n b = y at *
  have e1 : (x != -1) = decide (0 ≤ x) := by
    rcases ha with rfl | h
    · rfl
    · simp [h]; omega
  have e2 : (y != -1) = decide (0 ≤ y) := by
    rcases hb with rfl | h
    · rfl
    · simp [h]; omega
  have e3 : (x != y) = decide (x ≠ y) := by simp [bne, decide_not]; rfl
  rw [e1, e2, e3]
set_option maxHeartbeats 2000000 in
set_option maxRecDepth 100000 in
theorem alone_walk (A B : Option Addr) (c d : Nat) (l : List Int) (es : List (Int × Int)) (w : World) (hI : IsInts w A c l) (hE : IsEdges w B d es) :
    Calls Try.prog 3 #[.slice A l.length c, .slice B es.length d] w fun e w' => e = .returned (.bool true) ∧ Below w.heap.size w w' := by
  have HI := Lib.hid hI
  have HE := Lib.hid hE
  have hd := hE.1
  clear hI hE
  go_enter Try.func3, Try.ntmps3
  go_upto_if 13 with (fail)
  go_cut [1] (fun v1 wc => v1 = .slice B (es.take 40).length d ∧ Hid (wc = w))
  case first =>
    by_cases hl : 40 < es.length
    · have e40 : (es.take 40).length = 40 := by rw [List.length_take]; omega
      go_wp2_with (fail)
      go_meet
      case rel => exact ⟨by rw [e40], rfl⟩
    · have e : es.take 40 = es := List.take_of_length_le (by omega)
      go_wp2_with (fail)
      go_meet
      case rel => exact ⟨by rw [e], rfl⟩
  case rest =>
    obtain ⟨rfl, hwc⟩ := hcut
    obtain rfl := hwc.out
    clear hwc
    have HE1 : Hid (IsEdges wc B d (es.take 40)) := by
      by_cases hl : 40 ≤ es.length
      · exact HE.out.take 40 hl
      · show IsEdges wc B d (es.take 40)
        rw [List.take_of_length_le (by omega)]; exact HE.out
    have h40 : (es.take 40).length ≤ 40 := by rw [List.length_take]; omega
    clear HE hd
    generalize es.take 40 = es1 at *
    go_wp2_with (fail)
    refine (few_calls A c l _ HI.out).mono ?_
    rintro e wa ⟨rfl, hI1, rfl⟩
    have HI1 := Lib.hid hI1
    generalize l.take 20 = l1 at *
    clear hI1
    go_wp2_with (fail)
    refine (new_made 6 1 A c l1 _ (by omega) (by omega) HI1.out).mono ?_
    rintro e wb ⟨g1, rfl, hP1, _, hb1⟩
    have HP1 := Lib.hid hP1
    have HB1 := Lib.hid hb1
    have HI2 := Lib.hid (HI.out.below hb1)
    have HE2 := Lib.hid (HE1.out.below hb1)
    clear hP1 hb1 HI1 HI HE1
    go_wp2_with (fail)
    refine (few_calls A c l _ HI2.out).mono ?_
    rintro e wd ⟨rfl, hI1, rfl⟩
    have HI1 := Lib.hid hI1
    generalize l.take 20 = l2 at *
    clear hI1
    go_wp2_with (fail)
    refine (new_made 6 2 A c l2 _ (by omega) (by omega) HI1.out).mono ?_
    rintro e wb ⟨g2, rfl, hP2, _, hb2⟩
    have HP2 := Lib.hid hP2
    have HB2 := Lib.hid (below_then HB1.out HB1.out.size hb2)
    have HP1a := Lib.hid (HP1.out.below hb2)
    have HE3 := Lib.hid (HE2.out.below hb2)
    clear hP2 hb2 HI1 HI2 HE2 HP1 HB1
    go_wp2_with (fail)
    refine (live_calls _).mono ?_
    rintro e w2 ⟨rfl, hb3⟩
    have HB3 := Lib.hid (below_then HB2.out HB2.out.size hb3)
    have HP1b := Lib.hid (HP1a.out.below hb3)
    have HP2b := Lib.hid (HP2.out.below hb3)
    have HE4 := Lib.hid (HE3.out.below hb3)
    clear hb3 HP1a HP2 HE3 HB2
    have hfl : Hid (∀ v, workerAt 2 l2 v < 2) := workerAt_lt (by omega) l2
    obtain ⟨f, hf⟩ : ∃ f, f = workerAt 2 l2 := ⟨_, rfl⟩
    rw [← hf] at HP2b hfl
    clear hf
    go_wp2_with (fail)
    go_loopw [7, 8] (fun nv iv wr => ∃ k : Nat, k ≤ es1.length ∧ iv = .int .i64 k ∧ nv = .int .i64 ((crossing f 6 (es1.take k)).length : Nat) ∧ Hid (Drawn0 w2 wr)) (fun _ iv _ => es1.length - (intOf iv).toNat)
    case atStart => exact ⟨0, Nat.zero_le _, rfl, rfl, 0, (World.drewN_zero _).symm⟩
    case round =>
      obtain ⟨k, hk, rfl, rfl, hD⟩ := hrel
      have hDb := Lib.hid hD.out.below
      by_cases hlt : k < es1.length
      · obtain ⟨ad, rfl, hca, hcb⟩ := (HE4.out.below hDb.out).at_ hlt
        have hsn := Lib.hid (crossing_snoc (f := f) (n := 6) hlt)
        have hlen := crossing_len f 6 es1 k
        obtain ⟨⟨xa, xb⟩, hx⟩ : ∃ x, x = edgeAt es1 k := ⟨_, rfl⟩
        rw [← hx] at hca hcb hsn
        clear hx
        have hcr := Lib.hid (crosses_ge f 6 xa xb)
        obtain ⟨va, hva⟩ : ∃ v, v = ofAt f 6 xa := ⟨_, rfl⟩
        obtain ⟨vb, hvb⟩ : ∃ v, v = ofAt f 6 xb := ⟨_, rfl⟩
        have hPc : ∀ v q, Calls Try.prog 15 #[.pointer (some ⟨g2, 0, none⟩), .int .i64 v] (wr.drewN q) fun e w' => e = .returned (.int .i64 (ofAt f 6 v)) ∧ w' = wr.drewN q := by
          intro v q
          refine (of_calls g2 f 6 2 v _ ((HP2b.out.below hDb.out).below (pw_below_drewN (Below.refl _ _) q))).mono ?_
          rintro e w' ⟨rfl, rfl⟩
          exact ⟨rfl, rfl⟩
        have HPa := Lib.hid (hPc xa)
        have HPb := Lib.hid (hPc xb)
        rw [← hva] at HPa
        rw [← hvb] at HPb
        rw [← hva, ← hvb] at hcr
        clear hPc hva hvb
        have hrnd : Hid (∀ q, Drawn0 w2 (wr.drewN q)) := by
          obtain ⟨nd, e⟩ := hD.out
          intro q
          rw [e]
          exact ⟨_, World.drewN_drewN _ _ _⟩
        clear hD
        obtain ⟨N, hN⟩ : ∃ N, N = (crossing f 6 (es1.take k)).length := ⟨_, rfl⟩
        have HN := Lib.hid hN
        rw [← hN] at hlen ⊢
        clear hN
        go_wp2_with (fail)
        go_quiet (first | (go_at_call 15; with_reducible first | exact Calls.quiet_of_same (HPa.out _) | exact Calls.quiet_of_same (HPb.out _)))
        have HD2 := Lib.hid (hrnd.out nq)
        clear hrnd HPa HPb
        by_cases ha : 0 ≤ va
        · by_cases hb : 0 ≤ vb
          · by_cases hab : va = vb
            · have hno : Hid (crosses f 6 (xa, xb) = false) := hcr.out.trans (by simp [hab])
              go_wp2_with (fail)
              go_roundw
              case measure => simp [intOf]; omega
              case rel => exact ⟨k + 1, by omega, by go_num, by rw [hsn.out, hno.out, if_neg (by decide), List.append_nil, ← HN.out], HD2.out⟩
            · have hyes : Hid (crosses f 6 (xa, xb) = true) := hcr.out.trans (by simp [hab, ha, hb])
              go_wp2_with (fail)
              go_roundw
              case measure => simp [intOf]; omega
              case rel => exact ⟨k + 1, by omega, by go_num, by rw [hsn.out, hyes.out, if_pos rfl, List.length_append, ← HN.out]; go_num, HD2.out⟩
          · have hno : Hid (crosses f 6 (xa, xb) = false) := hcr.out.trans (by simp [hb])
            go_wp2_with (fail)
            go_roundw
            case measure => simp [intOf]; omega
            case rel => exact ⟨k + 1, by omega, by go_num, by rw [hsn.out, hno.out, if_neg (by decide), List.append_nil, ← HN.out], HD2.out⟩
        · have hno : Hid (crosses f 6 (xa, xb) = false) := hcr.out.trans (by simp [ha])
          go_wp2_with (fail)
          go_roundw
          case measure => simp [intOf]; omega
          case rel => exact ⟨k + 1, by omega, by go_num, by rw [hsn.out, hno.out, if_neg (by decide), List.append_nil, ← HN.out], HD2.out⟩
      · obtain rfl : k = es1.length := by omega
        rw [List.take_length]
        have e2 : Hid (cutOf f 6 es1 = (crossing f 6 es1).length) := rfl
        have hlen := crossing_len f 6 es1 es1.length
        rw [List.take_length] at hlen
        rw [← e2.out] at hlen ⊢
        have HB4 := Lib.hid (below_then HB3.out HB3.out.size hDb.out)
        have HP1c := Lib.hid (HP1b.out.below hDb.out)
        have HP2c := Lib.hid (HP2b.out.below hDb.out)
        have HE5 := Lib.hid (HE4.out.below hDb.out)
        clear HB3 HP1b HP2b HE4 hD hDb
        go_wp2_with (fail)
        refine (cut_calls g1 _ 6 1 B d es1 _ HP1c.out HE5.out (by omega)).mono ?_
        rintro e w3 ⟨rfl, hb5⟩
        rw [one_cut]
        have HB5 := Lib.hid (below_then HB4.out HB4.out.size hb5)
        have HP1d := Lib.hid (HP1c.out.below hb5)
        have HP2d := Lib.hid (HP2c.out.below hb5)
        have HE6 := Lib.hid (HE5.out.below hb5)
        clear HB4 HP1c HP2c HE5 hb5
        go_wp2_with (fail)
        refine (cut_calls g2 _ 6 2 B d es1 _ HP2d.out HE6.out (by omega)).mono ?_
        rintro e w4 ⟨rfl, hb5⟩
        have HB6 := Lib.hid (below_then HB5.out HB5.out.size hb5)
        have HP1e := Lib.hid (HP1d.out.below hb5)
        clear HB5 HP1d HP2d HE6 hb5
        go_wp2_with (fail)
        refine (members_calls g1 _ 6 1 0 _ (by omega) (by omega) HP1e.out).mono ?_
        rintro e w5 ⟨A5, c5, rfl, _, hb5⟩
        rw [one_nodes]
        have HB7 := Lib.hid (below_then HB6.out HB6.out.size hb5)
        have e6 : (upTo 6).length = 6 := by decide
        rw [e6]
        clear HB6 hb5 HP1e e6
        go_wp2_with (fail)
        go_ret
        exact ⟨rfl, HB7.out⟩
end Go.Proofs.Ytnhhfmmbanimlaa.HP
