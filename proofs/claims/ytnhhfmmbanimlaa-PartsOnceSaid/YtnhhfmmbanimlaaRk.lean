/-
What a worker's nodes and its order are made of: rows of the call's own; each node is one worker's, and an order has each of a worker's nodes once.
-/
import Derived.Test.YtnhhfmmbanimlaaRj
set_option linter.unusedVariables false
set_option linter.unusedSimpArgs false
namespace Go.Proofs.Ytnhhfmmbanimlaa.HP
open Go.RowKit Go.Proofs.Ytnhhfmmbanimlaa.HK Go.Proofs.Ytnhhfmmbanimlaa.HQ Go.Proofs.YtnhhfmmbanimlaaW.PrintWords Go.Proofs.YtnhhfmmbanimlaaW.PrintLast Go.Proofs.YtnhhfmmbanimlaaW.PrintMore

/-! ### rows that the call made -/
def Made (b : Nat) (A : Option Addr) (n : Nat) : Prop := 0 < n → ∃ g, A = some ⟨g, 0, none⟩ ∧ b ≤ g
theorem Made.le {b b' n : Nat} {A : Option Addr} (h : Made b A n) (hb : b' ≤ b) : Made b' A n := fun hn => by
  obtain ⟨g, e, hg⟩ := h hn
  exact ⟨g, e, by omega⟩
theorem IsInts.of_R_made {w : World} {e base : Nat} {ok : Nat → Prop} {v : Value} {l : List Int} (h : Kd.R (Kd.int .i64) e w base ok v l) : ∃ A c, v = .slice A l.length c ∧ IsInts w A c l ∧ Made base A l.length := by
  obtain ⟨A, c, he, hl, hC⟩ := Kd.R_reads h
  refine ⟨A, c, he, ⟨hl, hC⟩, fun hn => ?_⟩
  obtain ⟨g, cap, hv, hb, _⟩ := Kd.R_form h hn
  rw [he] at hv
  injection hv with h1 _ _
  exact ⟨g, h1, hb⟩
theorem IsInts.far {w : World} {A : Option Addr} {c b : Nat} {l : List Int} {p : Addr} (h : IsInts w A c l) (hA : Made b A l.length) (hp : p.block < b) (u : Value) : IsInts (w.setCell p u) A c l := by
  refine ⟨h.1, h.2.1, h.2.2.1, fun hn => ?_⟩
  obtain ⟨g, e, hg⟩ := hA hn
  obtain ⟨ad, e2, hc⟩ := h.2.2.2 hn
  refine ⟨ad, e2, fun j q hj => ?_⟩
  obtain ⟨cs, hl, hk, hcell⟩ := hc j q hj
  refine ⟨cs, hl, hk, fun i v hv => ?_⟩
  rw [World.cell?_setCell_other]
  · exact hcell i v hv
  · intro e3
    rw [e] at e2
    obtain rfl := Option.some.inj e2
    rw [add_plain] at e3
    have : p.block = g := by rw [e3]
    omega
set_option maxHeartbeats 1000000 in
theorem members_made (g : Nat) (f : Nat → Nat) (n W i : Nat) (w : World) (hi : i < 4) (hn : n ≤ 12) (h : IsParts w g f n W) :
    Calls Try.prog 17 #[.pointer (some ⟨g, 0, none⟩), .int .i64 i] w fun e w' => ∃ A c, e = .returned (.slice A (nodesOf f n i).length c) ∧ (IsInts w' A c (nodesOf f n i) ∧ Made w.heap.size A (nodesOf f n i).length) ∧ Below w.heap.size w w' := by
  obtain ⟨A0, c0, hc0, hI⟩ := h.row hi
  have hl := nodesOf_length_le f n i
  have HI := Lib.hid hI
  clear hI h
  have hi4 : (i : Int) < 4 := by omega
  have e2 : decide ((4 : Int) ≤ (i : Int)) = false := by simp; omega
  obtain ⟨l, hL⟩ : ∃ l, l = nodesOf f n i := ⟨_, rfl⟩
  rw [← hL] at HI hc0 hl ⊢
  clear hL
  have hf : slices_Clone.f l = some l := by unfold slices_Clone.f; rw [if_pos (by omega)]
  have HF := Lib.hid hf
  clear hf
  go_enter Try.func17, Try.ntmps17
  go_wp2_with (go_at_call 45; refine (slices_Clone.calls A0 c0 l l _ HI.out.2 HI.out.1 HF.out).mono ?_; rintro e w' ⟨v, rfl, hR, hb⟩; obtain ⟨A1, c1, rfl, hI1⟩ := IsInts.of_R_made hR; have HI1 := Lib.hid hI1; have HB := Lib.hid hb; clear hR hI1 hb)
  go_ret
  exact ⟨A1, c1, rfl, HI1.out, HB.out⟩
theorem turn_made (p l r : List Int) (A B : Option Addr) (c d : Nat) (w : World) (hp : IsInts w A c p) (hl : IsInts w B d l) (hr : turnOf p l = (r, 0)) :
    Calls Try.prog 30 #[.slice A p.length c, .slice B l.length d] w fun e w' => ∃ A c, e = .returned (.tuple #[.slice A r.length c, .int .i64 0]) ∧ (IsInts w' A c r ∧ Made w.heap.size A r.length) ∧ Below w.heap.size w w' := by
  obtain ⟨k, hk⟩ := (HQ.turn_ev p l).rounds
  refine (HA.perm_Turn.calls k A c p B d l r 0 w hp.2 hp.1 hl.2 hl.1 (by rw [hk, hr])).mono ?_
  rintro e w' ⟨v, rfl, hR, hb⟩
  obtain ⟨A, c, rfl, hI⟩ := IsInts.of_R_made hR
  exact ⟨A, c, rfl, hI, hb⟩
set_option maxHeartbeats 1000000 in
theorem order_made (g : Nat) (f : Nat → Nat) (n W i K : Nat) (w : World) (hi : i < 4) (hn : n ≤ 12) (hK : K ≤ 18446744073709551615) (h : IsParts w g f n W) :
    Calls Try.prog 43 #[.pointer (some ⟨g, 0, none⟩), .int .i64 i, .int .u64 K] w fun e w' => ∃ A c, e = .returned (.slice A (orderOf f n i K).length c) ∧ (IsInts w' A c (orderOf f n i K) ∧ Made w.heap.size A (orderOf f n i K).length) ∧ Below w.heap.size w w' := by
  have HP := Lib.hid h
  clear h
  have hq : Hid ((nodesOf f n i).length ≤ n) := nodesOf_length_le f n i
  obtain ⟨hPr, hPl, _⟩ := HQ.from_number (lenAt f n i) (K % fac (lenAt f n i)) (by unfold lenAt; have := hq.out; omega) (Nat.mod_lt _ (fac_pos _))
  have hO : Hid (orderOf f n i K = turned (fromOf (lenAt f n i) (upTo (lenAt f n i)) (fac (lenAt f n i)) (K % fac (lenAt f n i))) (nodesOf f n i)) := rfl
  generalize hP : fromOf (lenAt f n i) (upTo (lenAt f n i)) (fac (lenAt f n i)) (K % fac (lenAt f n i)) = P at *
  have HPP := Lib.hid hP
  have HPr := Lib.hid hPr
  have HPl := Lib.hid hPl
  clear hP hPr hPl
  go_enter Try.func43, Try.ntmps43
  go_wp2_with (fail)
  refine (members_calls g f n W i w hi hn HP.out).mono ?_
  rintro e wa ⟨A1, c1, rfl, hI, hb1⟩
  have HI := Lib.hid hI
  have HB := Lib.hid hb1
  clear hI hb1
  go_wp2_with (fail)
  refine (HQ.from_call (nodesOf f n i).length K P _ (by have := hq.out; omega) hK HPP.out).mono ?_
  rintro e wb ⟨A2, c2, rfl, hI2, hb2⟩
  have HI2 := Lib.hid hI2
  have HB2 := Lib.hid (below_then HB.out HB.out.size hb2)
  have HI1 := Lib.hid (HI.out.below hb2)
  clear hI2 hb2 HI HB
  go_wp2_with (fail)
  refine (turn_made P (nodesOf f n i) (turned P (nodesOf f n i)) _ _ _ _ _ HI2.out HI1.out ?tk).mono ?_
  case tk => unfold turnOf; rw [if_pos ⟨HPr.out, HPl.out.symm⟩]
  rintro e wc ⟨A3, c3, rfl, hI3, hb3⟩
  have HI3 := Lib.hid (And.intro hI3.1 (hI3.2.le HB2.out.size))
  have HB3 := Lib.hid (below_then HB2.out HB2.out.size hb3)
  clear hI3 hb3
  rw [← hO.out] at HI3 ⊢
  go_wp2
  go_ret
  exact ⟨A3, c3, rfl, HI3.out, HB3.out⟩

/-! ### what an order has -/
theorem turned_upTo (l : List Int) : turned (upTo l.length) l = l := by
  unfold turned upTo
  rw [List.map_map]
  apply List.ext_getElem
  · simp
  · intro i h1 h2
    simp [rd, List.getD_eq_getElem?_getD, List.getElem?_eq_getElem h2]
theorem orderOf_perm (f : Nat → Nat) (n i K : Nat) (hn : n ≤ 16) : (orderOf f n i K).Perm (nodesOf f n i) := by
  have hq := nodesOf_length_le f n i
  have hp := orderN_perm (lenAt f n i) K (by unfold lenAt; omega)
  have h2 : (turned (orderN (lenAt f n i) K) (nodesOf f n i)).Perm (turned (upTo (lenAt f n i)) (nodesOf f n i)) := hp.map _
  have e : turned (upTo (lenAt f n i)) (nodesOf f n i) = nodesOf f n i := turned_upTo _
  rw [e] at h2
  exact h2
theorem mem_nodesOf {f : Nat → Nat} {n i : Nat} {x : Int} (h : x ∈ nodesOf f n i) : ∃ u : Nat, x = u ∧ u < n ∧ f u = i := by
  unfold nodesOf at h
  rw [List.mem_map] at h
  obtain ⟨u, hu, e⟩ := h
  rw [List.mem_filter, List.mem_range] at hu
  exact ⟨u, e.symm, hu.1, by simpa using hu.2⟩
theorem nodesOf_rise (f : Nat → Nat) (n i : Nat) : (nodesOf f n i).Pairwise (· < ·) := by
  unfold nodesOf
  rw [List.pairwise_map]
  refine List.Pairwise.imp (fun h => by omega) ((List.pairwise_lt_range (n := n)).filter _)
theorem nodesOf_up {f : Nat → Nat} {n i k : Nat} (h : k + 1 < (nodesOf f n i).length) : (nodesOf f n i).getD k 0 < (nodesOf f n i).getD (k + 1) 0 := by
  have := List.pairwise_iff_getElem.1 (nodesOf_rise f n i) k (k + 1) (by omega) h (by omega)
  rw [List.getD_eq_getElem?_getD, List.getD_eq_getElem?_getD, List.getElem?_eq_getElem (by omega), List.getElem?_eq_getElem h]
  exact this
/-- How often each node has come. -/
def tally (n : Nat) (L : List Int) : List Int := (List.range n).map (fun v : Nat => ((L.count (v : Int) : Nat) : Int))
theorem tally_len (n : Nat) (L : List Int) : (tally n L).length = n := by simp [tally]
theorem tally_nil (n : Nat) : tally n [] = List.replicate n 0 := by
  unfold tally
  rw [List.eq_replicate_iff]
  refine ⟨by simp, fun b hb => ?_⟩
  rw [List.mem_map] at hb
  obtain ⟨v, _, rfl⟩ := hb
  rfl
theorem tally_at (n : Nat) (L : List Int) {u : Nat} (h : u < n) : (tally n L).getD u 0 = ((L.count (u : Int) : Nat) : Int) := by
  simp [tally, List.getD_eq_getElem?_getD, h]
theorem tally_snoc (n : Nat) (L : List Int) {u : Nat} (h : u < n) : tally n (L ++ [(u : Int)]) = (tally n L).set u ((tally n L).getD u 0 + 1) := by
  rw [tally_at n L h]
  apply List.ext_getElem
  · simp [tally]
  · intro i h1 h2
    rw [List.getElem_set]
    by_cases e : u = i
    · subst e
      simp [tally, List.count_append]
    · have e2 : ¬ (u : Int) = (i : Int) := by omega
      simp [tally, List.count_append, e, e2, List.count_singleton]
/-- All the orders of the first k workers, one behind the other. -/
def ordersTo (f : Nat → Nat) (n K : Nat) : Nat → List Int
  | 0 => []
  | k + 1 => ordersTo f n K k ++ orderOf f n k K
theorem ordersTo_count (f : Nat → Nat) (n K : Nat) (hn : n ≤ 16) (u : Nat) (hu : u < n) : ∀ k, (ordersTo f n K k).count (u : Int) = if f u < k then 1 else 0
  | 0 => by simp [ordersTo]
  | k + 1 => by
    rw [ordersTo, List.count_append, ordersTo_count f n K hn u hu k, (orderOf_perm f n k K hn).count_eq]
    have hnd : (nodesOf f n k).Nodup := (nodesOf_rise f n k).imp (fun h => by omega)
    by_cases h : f u = k
    · have hm : (u : Int) ∈ nodesOf f n k := by
        unfold nodesOf
        rw [List.mem_map]
        exact ⟨u, by rw [List.mem_filter, List.mem_range]; exact ⟨hu, by simp [h]⟩, rfl⟩
      rw [List.Nodup.count hnd, if_pos hm, if_neg (by omega), if_pos (by omega)]
    · have hm : (u : Int) ∉ nodesOf f n k := by
        intro hm
        obtain ⟨v, e, _, hf⟩ := mem_nodesOf hm
        have : u = v := by omega
        subst this
        exact h hf
      rw [List.count_eq_zero_of_not_mem hm]
      by_cases h2 : f u < k
      · rw [if_pos h2, if_pos (by omega)]
      · rw [if_neg h2, if_neg (by omega)]
theorem ordersTo_all {f : Nat → Nat} {n K W : Nat} (hn : n ≤ 16) (hf : ∀ v, f v < W) : tally n (ordersTo f n K W) = List.replicate n 1 := by
  unfold tally
  rw [List.eq_replicate_iff]
  refine ⟨by simp, fun b hb => ?_⟩
  rw [List.mem_map] at hb
  obtain ⟨v, hv, rfl⟩ := hb
  rw [ordersTo_count f n K hn v (List.mem_range.1 hv), if_pos (hf v)]
  rfl
theorem ordersTo_len (f : Nat → Nat) (n K : Nat) (hn : n ≤ 16) : ∀ k, (ordersTo f n K k).length = sumLens f n k
  | 0 => rfl
  | k + 1 => by rw [ordersTo, List.length_append, ordersTo_len f n K hn k, orderOf_len f n k K hn, sumLens]
end Go.Proofs.Ytnhhfmmbanimlaa.HP
