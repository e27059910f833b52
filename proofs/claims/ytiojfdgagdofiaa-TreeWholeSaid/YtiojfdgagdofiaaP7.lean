/-
Texts joined: VaO, VaP, VaQ, VaR, WbA, WaA.
-/
import Derived.Test.YtiojfdgagdofiaaP6
import Derived.Lib.AppendZeros
import Derived.Test.YtiojfdgagdofiaaP4
import Derived.Test.YtiojfdgagdofiaaP5
/-
slices.Grow of no forms, over the translation.
-/
set_option linter.unusedVariables false
set_option linter.unusedSimpArgs false
namespace Go.Proofs.Ytiojfdgagdofiaa.HP
open Go.RowKit Go.Proofs.Ytiojfdgagdofiaa.HB Go.Proofs.Ytiojfdgagdofiaa.HK Go.Proofs.YtiojfdgagdofiaaW.PrintWords Go.Proofs.YtiojfdgagdofiaaW.PrintLast Go.Proofs.YtiojfdgagdofiaaW.PrintMore
theorem zero_one (m : Nat) : ∀ u ∈ (Builtin.zeroCells (Value.agg #[.int .u8 0, .string ⟨#[]⟩, .int .i64 0, .slice none 0 0, .int .i64 0]).cells m).toList, u.oneCell' = true := by
  intro u hu
  unfold Builtin.zeroCells at hu
  rw [Array.toList_map] at hu
  obtain ⟨i, _, rfl⟩ := List.mem_map.1 hu
  have h5 : (Value.agg #[.int .u8 0, .string ⟨#[]⟩, .int .i64 0, .slice none 0 0, .int .i64 0]).cells.size = 5 := rfl
  rw [h5]
  have h : i % 5 < 5 := Nat.mod_lt _ (by decide)
  generalize i % 5 = r at h
  match r, h with
  | 0, _ => rfl
  | 1, _ => rfl
  | 2, _ => rfl
  | 3, _ => rfl
  | 4, _ => rfl
set_option maxHeartbeats 4000000 in
set_option maxRecDepth 100000 in
theorem grow_calls (w : World) (n : Nat) (hn : n ≤ 1000000) : Calls Try.prog 80 #[.slice none 0 0, .int .i64 (n : Int)] w fun e w' => ∃ v, e = .returned v ∧ w'.ownsRow w.heap.size 40 5 v 0 [] ∧ Below w.heap.size w w' := by
  obtain ⟨i0, hi, hz0, hz1, hz2⟩ := info_parts info40
  have q1 : decide ((n : Int) < 0) = false := decide_eq_false (by omega)
  have hwn : IntKind.i64.wrap (n : Int) = (n : Int) := IntWalk.i64_in _ (by omega)
  by_cases h0 : n = 0
  · subst h0
    go_enter Try.func80, Try.ntmps80
    go_wp2
    go_ret
    exact ⟨_, rfl, own_nil _ _ _ _, Below.refl _ _⟩
  · have q2 : decide ((0 : Int) < (n : Int)) = true := decide_eq_true (by omega)
    have q2' : decide ((n : Int) > 0) = true := decide_eq_true (by omega)
    have hnp : 0 < n := by omega
    obtain ⟨v1, w1, hr, hown, hg, hat⟩ := run_append_zeros (P := Try.prog) w w.heap.size 23 3 23 40 i0 (.agg #[.int .u8 0, .string ⟨#[]⟩, .int .i64 0, .slice none 0 0, .int .i64 0]) 5 64 Try.underlying23 Try.underlying3 hi hz0 hz1 hz2 rfl (by decide) (by decide) (.slice none 0 0) 0 [] (own_nil _ _ _ _) .i64 n (zero_one n) (by omega) (Nat.le_refl _)
    have hHR := Lib.hid hr
    have hOW := Lib.hid hown
    have hBL : Hid (Below w.heap.size w w1) := (Below.refl _ w).grown hg (Nat.le_refl _) (fun k e => by cases e)
    obtain ⟨A1, c1, hv1⟩ := own_slice hown
    have hcut : w1.ownsRow w.heap.size 40 5 (.slice A1 0 c1) 0 [] := by
      have h := hown
      rw [hv1] at h
      have := own_take h (m := 0) (Nat.zero_le _)
      simpa using this
    have hsl : ∀ W, (Instr.slice 23 (.slice A1 (0 + n) c1) none (some (.int .i64 0)) none).run Try.prog W = .ok (.slice A1 0 c1) W := by
      intro W
      rw [run_slice_h (P := Try.prog) W 23 A1 (0 + n) c1 Try.underlying23 .i64 0 (by omega) (by omega)]
      rw [show (sizeOf (Try.prog.elem 23)).run Try.prog W = .ok 5 W by simp [go_sem]]
      cases A1 <;> simp [go_sem, sliced, Result.andThen, Addr.add]
    have hCUT := Lib.hid hcut
    subst hv1
    clear hr hown hg hat h0 hcut
    go_enter Try.func80, Try.ntmps80
    go_wp2_with (at_builtin; refine Lib.wpList_append_run _ rfl (.tmp 20) (.tmp 21) 23 3 rfl (.slice none 0 0) (.int .i64 (n : Int)) rfl rfl _ w1 hHR.out ?_)
    go_ret
    exact ⟨_, rfl, hCUT.out, hBL.out⟩
end Go.Proofs.Ytiojfdgagdofiaa.HP
/-
Forms that are read, as one row of cells; slices.Concat of two lists of forms over the translation.
-/
set_option linter.unusedVariables false
set_option linter.unusedSimpArgs false
namespace Go.Proofs.Ytiojfdgagdofiaa.HP
open Go.RowKit Go.Proofs.Ytiojfdgagdofiaa.HB Go.Proofs.Ytiojfdgagdofiaa.HK Go.Proofs.YtiojfdgagdofiaaW.PrintWords Go.Proofs.YtiojfdgagdofiaaW.PrintLast Go.Proofs.YtiojfdgagdofiaaW.PrintMore
theorem addr_add (g o j : Nat) : (⟨g, o, none⟩ : Addr).add j = ⟨g, o + j, none⟩ := by unfold Addr.add; split <;> simp_all
/-- Kids as they lie. -/
def KidsAt (w : World) (N : Nat) (ks : Nat → List Int) (vs : Nat → Value) : Prop := ∀ j, j < N → ∃ B c, vs j = .slice B (ks j).length c ∧ (ks j).length ≤ c ∧ IRow w B (ks j)
theorem frow_cells {w : World} {A : Option Addr} {fs : List FormP} {ks : Nat → List Int} (h : FRow w A fs ks) : ∃ vs, KidsAt w fs.length ks vs ∧ ∀ w1, Below w.heap.size w w1 → ∀ ad, A = some ad → ∀ (j : Nat) (u : Value), (fcells fs 0 vs)[j]? = some u → w1.cell? (ad.add j) = some u := by
  have hex : ∀ j, ∃ v : Value, ∀ f, fs[j]? = some f → ∃ (g o : Nat) (B : Option Addr) (c : Nat), v = .slice B (ks j).length c ∧ A = some ⟨g, o, none⟩ ∧ g < w.heap.size ∧ w.cell? ⟨g, o + j * 5, none⟩ = some (.int .u8 f.k) ∧ w.cell? ⟨g, o + j * 5 + 1, none⟩ = some (.string f.t) ∧ w.cell? ⟨g, o + j * 5 + 2, none⟩ = some (.int .i64 f.n) ∧ w.cell? ⟨g, o + j * 5 + 3, none⟩ = some v ∧ w.cell? ⟨g, o + j * 5 + 4, none⟩ = some (.int .i64 f.at_) ∧ (ks j).length ≤ c ∧ IRow w B (ks j) := by
    intro j
    cases hj : fs[j]? with
    | none => exact ⟨undef, fun f hf => by cases hf⟩
    | some f =>
      obtain ⟨g, o, B, c, hA, hlt, c0, c1, c2, c3, c4, hc, hI⟩ := h j f hj
      exact ⟨.slice B (ks j).length c, fun f' hf => by injection hf with hf; subst hf; exact ⟨g, o, B, c, rfl, hA, hlt, c0, c1, c2, c3, c4, hc, hI⟩⟩
  obtain ⟨vs, hvs⟩ := Classical.axiomOfChoice hex
  refine ⟨vs, fun j hj => ?_, fun w1 hb1 ad hA j u hu => ?_⟩
  · obtain ⟨g, o, B, c, e, _, _, _, _, _, _, _, hc, hI⟩ := hvs j fs[j] (List.getElem?_eq_getElem hj)
    exact ⟨B, c, e, hc, hI⟩
  · have hlt : j < fs.length * 5 := by
      have := (List.getElem?_eq_some_iff.1 hu).1
      rw [fcells_length] at this
      exact this
    obtain ⟨q, r, hq, hr⟩ : ∃ q r, j = q * 5 + r ∧ r < 5 := ⟨j / 5, j % 5, by omega, Nat.mod_lt _ (by decide)⟩
    subst hq
    have hqN : q < fs.length := by omega
    obtain ⟨f, hf⟩ : ∃ f, fs[q]? = some f := ⟨_, List.getElem?_eq_getElem hqN⟩
    obtain ⟨g, o, B, c, e, hA2, hlt2, c0, c1, c2, c3, c4, _, _⟩ := hvs q f hf
    rw [hA] at hA2
    injection hA2 with hA2
    subst hA2
    rw [addr_add, show o + (q * 5 + r) = o + q * 5 + r by omega, hb1.cell (p := ⟨g, o + q * 5 + r, none⟩) hlt2]
    rw [fcells_get fs 0 vs q r f hf hr, Nat.zero_add] at hu
    match r, hr, hu with
    | 0, _, hu => rw [Nat.add_zero, c0]; exact hu
    | 1, _, hu => rw [c1]; exact hu
    | 2, _, hu => rw [c2]; exact hu
    | 3, _, hu => rw [c3]; exact hu
    | 4, _, hu => rw [c4]; exact hu
theorem fcells_one (fs : List FormP) (vs : Nat → Value) (h : ∀ j, j < fs.length → (vs j).oneCell' = true) : ∀ u ∈ fcells fs 0 vs, u.oneCell' = true := by
  intro u hu
  obtain ⟨j, hj⟩ := List.mem_iff_getElem?.1 hu
  have hlt : j < fs.length * 5 := by
    have := (List.getElem?_eq_some_iff.1 hj).1
    rw [fcells_length] at this
    exact this
  obtain ⟨q, r, hq, hr⟩ : ∃ q r, j = q * 5 + r ∧ r < 5 := ⟨j / 5, j % 5, by omega, Nat.mod_lt _ (by decide)⟩
  subst hq
  obtain ⟨f, hf⟩ : ∃ f, fs[q]? = some f := ⟨_, List.getElem?_eq_getElem (by omega)⟩
  rw [fcells_get fs 0 vs q r f hf hr, Nat.zero_add] at hj
  match r, hr, hj with
  | 0, _, hj => injection hj with hj; subst hj; rfl
  | 1, _, hj => injection hj with hj; subst hj; rfl
  | 2, _, hj => injection hj with hj; subst hj; rfl
  | 3, _, hj => injection hj with hj; subst hj; exact h q (by omega)
  | 4, _, hj => injection hj with hj; subst hj; rfl
theorem KidsAt.one {w : World} {N : Nat} {ks : Nat → List Int} {vs : Nat → Value} (h : KidsAt w N ks vs) : ∀ j, j < N → (vs j).oneCell' = true := fun j hj => by
  obtain ⟨B, c, e, _⟩ := h j hj
  rw [e]; rfl
/-- append of forms that are read to a row of its own, nil let in. -/
theorem run_append_forms (w : World) (base : Nat) (v : Value) (n : Nat) (xs : List Value) (hown : w.ownsRow base 40 5 v n xs) (A : Option Addr) (c : Nat) (fs : List FormP) (vs : Nat → Value)
    (hA : fs ≠ [] → A ≠ none) (hc : ∀ ad, A = some ad → ∀ (j : Nat) (u : Value), (fcells fs 0 vs)[j]? = some u → w.cell? (ad.add j) = some u) (h1 : ∀ u ∈ fcells fs 0 vs, u.oneCell' = true) (hl : n + fs.length ≤ 1000000) (hb : base ≤ w.heap.size) :
    ∃ v' w', (Builtin.append_ #[23, 23] 23 #[v, .slice A fs.length c]).run Try.prog w = .ok v' w' ∧ w'.ownsRow base 40 5 v' (n + fs.length) (xs ++ fcells fs 0 vs) ∧ w.grownBy w' v.ownBlock := by
  obtain ⟨i0, hi, hz0, hz1, hz2⟩ := info_parts info40
  cases A with
  | none =>
    have h0 : fs = [] := Classical.byContradiction fun h => hA h rfl
    subst h0
    refine ⟨v, w, ?_, by simpa [fcells] using hown, World.grownBy.refl w _⟩
    rcases hown.2 with ⟨rfl, hn⟩ | ⟨g, cap, cur, rfl, _, _, hnc, _⟩
    · simp [Builtin.append_, run_underlying Try.underlying23, sizeOf, typeInfo, hi, Builtin.lenOf, Builtin.firstCells]
    · simp [Builtin.append_, run_underlying Try.underlying23, sizeOf, typeInfo, hi, Builtin.lenOf, Builtin.firstCells, hnc, storeCells]
  | some ad =>
    obtain ⟨v', w', hr, h2, h3, _, _⟩ := run_append_own_at (P := Try.prog) w base 23 23 40 i0 (.agg #[.int .u8 0, .string ⟨#[]⟩, .int .i64 0, .slice none 0 0, .int .i64 0]) 5 64 Try.underlying23 hi hz0 hz1 hz2 rfl (by decide) v n xs hown ad fs.length c (fcells fs 0 vs) (by rw [fcells_length]) (hc ad rfl) h1 (by unfold maxLen; omega) (by omega) hb
    exact ⟨v', w', hr, h2, h3⟩
end Go.Proofs.Ytiojfdgagdofiaa.HP
/-
slices.Concat of two lists of forms over the translation.
-/
set_option linter.unusedVariables false
set_option linter.unusedSimpArgs false
namespace Go.Proofs.Ytiojfdgagdofiaa.HP
open Go.RowKit Go.Proofs.Ytiojfdgagdofiaa.HB Go.Proofs.Ytiojfdgagdofiaa.HK Go.Proofs.YtiojfdgagdofiaaW.PrintWords Go.Proofs.YtiojfdgagdofiaaW.PrintLast Go.Proofs.YtiojfdgagdofiaaW.PrintMore
def cellsAt (X Y : List Value) (j : Nat) : List Value := if j = 0 then [] else if j = 1 then X else X ++ Y
def sizeAt (a b j : Nat) : Nat := if j = 0 then 0 else if j = 1 then a else a + b
set_option maxHeartbeats 8000000 in
set_option maxRecDepth 100000 in
theorem concat_calls (w0 w : World) (hw0 : Below w0.heap.size w0 w) (P : Nat) (A A' : Option Addr) (c c' : Nat) (fs gs : List FormP) (ks hs : Nat → List Int) (hP : w.heap[P]? = some (.cells #[.slice A fs.length c, .slice A' gs.length c'] 23 (0, 0))) (hF : FRow w0 A fs ks) (hG : FRow w0 A' gs hs) (hN : fs.length + gs.length ≤ 1000000) :
    Calls Try.prog 61 #[.slice (some ⟨P, 0, none⟩) 2 2] w fun e w' => ∃ (v : Value) (vs us : Nat → Value), e = .returned v ∧ w'.ownsRow w.heap.size 40 5 v (fs.length + gs.length) (fcells fs 0 vs ++ fcells gs 0 us) ∧ KidsAt w0 fs.length ks vs ∧ KidsAt w0 gs.length hs us ∧ Below w.heap.size w w' := by
  obtain ⟨vs, hvs, hcv⟩ := frow_cells hF
  obtain ⟨us, hus, hcu⟩ := frow_cells hG
  have hAn : fs ≠ [] → A ≠ none := fun h e => by
    cases fs with
    | nil => exact h rfl
    | cons f r => obtain ⟨g, o, _, _, hA, _⟩ := hF 0 f rfl; rw [e] at hA; cases hA
  have hAn' : gs ≠ [] → A' ≠ none := fun h e => by
    cases gs with
    | nil => exact h rfl
    | cons f r => obtain ⟨g, o, _, _, hA, _⟩ := hG 0 f rfl; rw [e] at hA; cases hA
  have y0 : w.cell? ⟨P, 0, none⟩ = some (.slice A fs.length c) := by rw [blk_cell hP]; rfl
  have y1 : w.cell? ⟨P, 1, none⟩ = some (.slice A' gs.length c') := by rw [blk_cell hP]; rfl
  have HP := Lib.hid hP
  have HCV := Lib.hid hcv
  have HCU := Lib.hid hcu
  have HW0 := Lib.hid hw0
  clear hF hG hP hcv hcu hw0
  go_enter Try.func61, Try.ntmps61
  go_wp2_with (fail)
  go_loop [3, 11] (fun s i => ∃ j : Nat, j ≤ 2 ∧ i = .int .i64 (j : Int) ∧ s = .int .i64 ((sizeAt fs.length gs.length j : Nat) : Int)) (fun _ i => 2 - (intOf i).toNat)
  case atStart => exact ⟨0, by omega, rfl, rfl⟩
  case round =>
    obtain ⟨j, hj, rfl, rfl⟩ := hrel
    have hwa : IntKind.i64.wrap ((fs.length : Int) + (gs.length : Int)) = (fs.length : Int) + (gs.length : Int) := IntWalk.i64_in _ (by omega)
    have hwb : IntKind.i64.wrap ((fs.length : Int)) = (fs.length : Int) := IntWalk.i64_in _ (by omega)
    have n1 : decide ((fs.length : Int) + (gs.length : Int) < 0) = false := decide_eq_false (by omega)
    have n2 : decide ((fs.length : Int) < 0) = false := decide_eq_false (by omega)
    rcases (show j = 0 ∨ j = 1 ∨ j = 2 by omega) with rfl | rfl | rfl
    · rw [show sizeAt fs.length gs.length 0 = 0 from rfl]
      go_wp2
      go_round
      case measure => simp [intOf]
      case rel => exact ⟨1, by omega, rfl, by first | rfl | simp [sizeAt]⟩
    · rw [show sizeAt fs.length gs.length 1 = fs.length from rfl]
      go_wp2
      go_round
      case measure => simp [intOf]
      case rel => exact ⟨2, by omega, rfl, by first | rfl | simp [sizeAt]⟩
    · rw [show sizeAt fs.length gs.length 2 = fs.length + gs.length from rfl]
      have HGR := Lib.hid (grow_calls w (fs.length + gs.length) hN)
      go_wp2_with (fail)
      refine HGR.out.mono ?_
      rintro e w1 ⟨v, rfl, hO, hB⟩
      have HO := Lib.hid hO
      have HB := Lib.hid hB
      clear hO hB HGR hwa hwb n1 n2
      go_wp2_with (fail)
      go_loopw [6, 27] (fun vr x wr => ∃ j : Nat, j ≤ 2 ∧ x = .int .i64 (j : Int) ∧ Hid (wr.ownsRow w.heap.size 40 5 vr (sizeAt fs.length gs.length j) (cellsAt (fcells fs 0 vs) (fcells gs 0 us) j) ∧ Below w.heap.size w wr)) (fun _ x _ => 2 - (intOf x).toNat)
      case atStart => exact ⟨0, by omega, rfl, HO.out, HB.out⟩
      case round =>
        obtain ⟨j, hj, rfl, hQ⟩ := hrel
        obtain ⟨hO, hW⟩ := hQ.out
        have hPr : wr.heap[P]? = some (.cells #[.slice A fs.length c, .slice A' gs.length c'] 23 (0, 0)) := blk_below HP.out hW
        have x0 : wr.cell? ⟨P, 0, none⟩ = some (.slice A fs.length c) := by rw [blk_cell hPr]; rfl
        have x1 : wr.cell? ⟨P, 1, none⟩ = some (.slice A' gs.length c') := by rw [blk_cell hPr]; rfl
        rcases (show j = 0 ∨ j = 1 ∨ j = 2 by omega) with rfl | rfl | rfl
        · have hO0 : wr.ownsRow w.heap.size 40 5 _ (sizeAt fs.length gs.length 0) (cellsAt (fcells fs 0 vs) (fcells gs 0 us) 0) := hO
          obtain ⟨v3, w3, hr, hown, hg⟩ := run_append_forms wr w.heap.size _ _ _ hO0 A c fs vs hAn (HCV.out wr (below_then HW0.out HW0.out.size hW)) (fcells_one fs vs (KidsAt.one hvs)) (by simp [sizeAt]; omega) hW.size
          have HRN := Lib.hid hr
          have HNEW : Hid (w3.ownsRow w.heap.size 40 5 v3 (sizeAt fs.length gs.length 1) (cellsAt (fcells fs 0 vs) (fcells gs 0 us) 1) ∧ Below w.heap.size w w3) := by
            refine ⟨?_, hW.grown hg hW.size (own_base hO)⟩
            simpa [sizeAt, cellsAt] using hown
          clear hr hown hg hO hW hPr hQ hO0
          go_wp2_with (at_builtin; refine Lib.wpList_append_run _ rfl (.tmp 31) (.tmp 32) 23 23 rfl _ _ rfl rfl _ w3 HRN.out ?_)
          go_wp2
          go_roundw
          case measure => simp [intOf]
          case rel => exact ⟨1, by omega, rfl, HNEW⟩
        · have hO0 : wr.ownsRow w.heap.size 40 5 _ (sizeAt fs.length gs.length 1) (cellsAt (fcells fs 0 vs) (fcells gs 0 us) 1) := hO
          obtain ⟨v3, w3, hr, hown, hg⟩ := run_append_forms wr w.heap.size _ _ _ hO0 A' c' gs us hAn' (HCU.out wr (below_then HW0.out HW0.out.size hW)) (fcells_one gs us (KidsAt.one hus)) (by simp [sizeAt]; omega) hW.size
          have HRN := Lib.hid hr
          have HNEW : Hid (w3.ownsRow w.heap.size 40 5 v3 (sizeAt fs.length gs.length 2) (cellsAt (fcells fs 0 vs) (fcells gs 0 us) 2) ∧ Below w.heap.size w w3) := by
            refine ⟨?_, hW.grown hg hW.size (own_base hO)⟩
            simpa [sizeAt, cellsAt] using hown
          clear hr hown hg hO hW hPr hQ hO0
          go_wp2_with (at_builtin; refine Lib.wpList_append_run _ rfl (.tmp 31) (.tmp 32) 23 23 rfl _ _ rfl rfl _ w3 HRN.out ?_)
          go_wp2
          go_roundw
          case measure => simp [intOf]
          case rel => exact ⟨2, by omega, rfl, HNEW⟩
        · have HQ := Lib.hid hQ.out
          clear hQ hO hW hPr
          go_wp2
          go_ret
          exact ⟨_, vs, us, rfl, HQ.out.1, hvs, hus, HQ.out.2⟩
end Go.Proofs.Ytiojfdgagdofiaa.HP
/-
tree.Both over the translation.
-/
set_option linter.unusedVariables false
set_option linter.unusedSimpArgs false
namespace Go.Proofs.Ytiojfdgagdofiaa.HP
open Go.RowKit Go.Proofs.Ytiojfdgagdofiaa.HB Go.Proofs.Ytiojfdgagdofiaa.HK Go.Proofs.YtiojfdgagdofiaaW.PrintWords Go.Proofs.YtiojfdgagdofiaaW.PrintLast Go.Proofs.YtiojfdgagdofiaaW.PrintMore
def catK (n : Nat) (ks hs : Nat → List Int) (j : Nat) : List Int := if j < n then ks j else hs (j - n)
theorem KidsAt.below {w w1 : World} {N : Nat} {ks : Nat → List Int} {vs : Nat → Value} (h : KidsAt w N ks vs) (hb : Below w.heap.size w w1) : KidsAt w1 N ks vs := fun j hj => by
  obtain ⟨B, c, e, hc, hI⟩ := h j hj
  exact ⟨B, c, e, hc, hI.below hb⟩
theorem cat_frow {w : World} {base : Nat} {v : Value} {fs gs : List FormP} {ks hs : Nat → List Int} {vs us : Nat → Value} (ho : w.ownsRow base 40 5 v (fs.length + gs.length) (fcells fs 0 vs ++ fcells gs 0 us)) (hv : KidsAt w fs.length ks vs) (hu : KidsAt w gs.length hs us) :
    ∃ A c, v = .slice A (fs ++ gs).length c ∧ FRow w A (fs ++ gs) (catK fs.length ks hs) := by
  rw [List.length_append]
  rcases ho.2 with ⟨rfl, h0⟩ | ⟨g, cap, cur, rfl, _, _, hle, _⟩
  · refine ⟨none, 0, by rw [h0], fun j f hj => ?_⟩
    have := (List.getElem?_eq_some_iff.1 hj).1
    rw [List.length_append] at this
    omega
  · refine ⟨some ⟨g, 0, none⟩, cap, rfl, fun j f hj => ?_⟩
    have hlt := (List.getElem?_eq_some_iff.1 hj).1
    rw [List.length_append] at hlt
    by_cases hjN : j < fs.length
    · obtain ⟨B, c, hvj, hc, hI⟩ := hv j hjN
      rw [List.getElem?_append_left hjN] at hj
      have hat : ∀ i, i < 5 → w.cell? ⟨g, j * 5 + i, none⟩ = (fcell f (vs j))[i]? := by
        intro i hi
        rw [ho.cellAt (j * 5 + i) (by omega), List.getElem?_append_left (by rw [fcells_length]; omega), fcells_get fs 0 vs j i f hj hi, Nat.zero_add]
      have hk : catK fs.length ks hs j = ks j := if_pos hjN
      refine ⟨g, 0, B, c, rfl, own_lt ho g rfl, ?_⟩
      rw [Nat.zero_add, hk]
      exact ⟨hat 0 (by decide), hat 1 (by decide), hat 2 (by decide), by rw [hat 3 (by decide), hvj]; rfl, hat 4 (by decide), hc, hI⟩
    · obtain ⟨B, c, hvj, hc, hI⟩ := hu (j - fs.length) (by omega)
      rw [List.getElem?_append_right (by omega)] at hj
      have hat : ∀ i, i < 5 → w.cell? ⟨g, j * 5 + i, none⟩ = (fcell f (us (j - fs.length)))[i]? := by
        intro i hi
        rw [ho.cellAt (j * 5 + i) (by omega), List.getElem?_append_right (by rw [fcells_length]; omega), fcells_length, show j * 5 + i - fs.length * 5 = (j - fs.length) * 5 + i by omega, fcells_get gs 0 us (j - fs.length) i f hj hi, Nat.zero_add]
      have hk : catK fs.length ks hs j = hs (j - fs.length) := if_neg hjN
      refine ⟨g, 0, B, c, rfl, own_lt ho g rfl, ?_⟩
      rw [Nat.zero_add, hk]
      exact ⟨hat 0 (by decide), hat 1 (by decide), hat 2 (by decide), by rw [hat 3 (by decide), hvj]; rfl, hat 4 (by decide), hc, hI⟩
theorem make_forms (n : Nat) (hn : n ≤ 1000000) (base : Nat) (W : World) (hb : base ≤ W.heap.size) : ∃ W', (Instr.makeSlice 23 (.int .i64 0) (.int .i64 (n : Int))).run Try.prog W = .ok (.slice (some ⟨W.heap.size, 0, none⟩) 0 n) W' ∧ W'.ownsRow base 40 5 (.slice (some ⟨W.heap.size, 0, none⟩) 0 n) 0 [] ∧ Below W.heap.size W W' := by
  obtain ⟨i0, hi, hz0, hz1, hz2⟩ := info_parts info40
  have h := run_make (P := Try.prog) W 23 40 i0 _ Try.underlying23 hi hz0 .i64 .i64 0 (n : Int) (Int.le_refl _) (by omega) (by rw [hz2]; omega) (by omega)
  rw [Int.toNat_natCast] at h
  refine ⟨_, h, ?_, (Below.refl _ W).alloc (Nat.le_refl _) _⟩
  refine World.ownsRow_made W _ n hb (by unfold maxLen; omega) ?_
  rw [hz1]
  unfold madeCells
  simp
/-- So many forms have been put together; Concat's row stands. -/
def CatRel (w wr : World) (base5 : Nat) (v5 : Value) (fs gs : List FormP) (vs5 us5 : Nat → Value) (kk : Nat → List Int) (n : Nat) (vo : Value) : Prop :=
  BoRel w wr (fs ++ gs) kk n vo ∧ wr.ownsRow base5 40 5 v5 (fs.length + gs.length) (fcells fs 0 vs5 ++ fcells gs 0 us5) ∧ (v5.ownBlock = none ∨ v5.ownBlock ≠ vo.ownBlock)
set_option maxHeartbeats 16000000 in
set_option maxRecDepth 100000 in
theorem both_calls (w : World) (A B A' B' : Option Addr) (c d c' d' : Nat) (fs gs : List FormP) (ks hs : Nat → List Int) (top also : List Int) (hF : FRow w A fs ks) (hT : IRow w B top) (hG : FRow w A' gs hs) (hU : IRow w B' also) (hN : fs.length ≤ 1000000) (hN' : gs.length ≤ 1000000)
    (hk : ∀ j, (ks j).length ≤ 17592186043904) (hk' : ∀ j, (hs j).length ≤ 17592186043904) (ht : top.length ≤ 17592186043904) (ht' : also.length ≤ 17592186043904) (hx : ∀ f ∈ fs, f.t.size ≤ 140737488351232) (hx' : ∀ f ∈ gs, f.t.size ≤ 140737488351232) :
    Calls Try.prog 38 #[.slice A fs.length c, .slice B top.length d, .slice A' gs.length c', .slice B' also.length d'] w fun e w' => BothEnds w (bothP fs ks top gs hs also) e w' := by
  have HR1 := Lib.hid (right_calls w A B c d fs ks top hF hT (by omega) (fun j => Nat.le_trans (hk j) (by decide)) (by omega) hx)
  have HF := Lib.hid hF
  have HT := Lib.hid hT
  have HG := Lib.hid hG
  have HU := Lib.hid hU
  have HK := Lib.hid hk
  have HK' := Lib.hid hk'
  have HX' := Lib.hid hx'
  clear hF hT hG hU hk hk' hx hx'
  by_cases hr1 : rightB fs ks top = true
  · have HRW1 := Lib.hid (right_rows hr1)
    have HRT1 := Lib.hid hr1
    rw [hr1] at HR1
    go_enter Try.func38, Try.ntmps38
    go_wp2_with (fail)
    refine HR1.out.mono ?_
    rintro e w1 ⟨rfl, hb1⟩
    have HB1 := Lib.hid hb1
    have HR2 := Lib.hid (right_calls w1 A' B' c' d' gs hs also (HG.out.below hb1) (HU.out.below hb1) (by omega) (fun j => Nat.le_trans (HK'.out j) (by decide)) (by omega) HX'.out)
    clear hb1 HR1 hr1
    go_wp2_with (fail)
    by_cases hr2 : rightB gs hs also = true
    · have HRW2 := Lib.hid (right_rows hr2)
      have HRT2 := Lib.hid hr2
      rw [hr2] at HR2
      refine HR2.out.mono ?_
      rintro e w2 ⟨rfl, hb2⟩
      have HB2 := Lib.hid (below_then HB1.out HB1.out.size hb2)
      clear hb2 hr2
      by_cases h4 : fs.length + gs.length ≤ 400
      · have hp : bothP fs ks top gs hs also = .ok (fs ++ gs, bothK fs.length ks hs, bothT fs.length top also) := by
          unfold bothP
          rw [if_pos ⟨HRT1.out, HRT2.out⟩, if_pos h4]
        have HPP := Lib.hid hp
        clear hp
        have hws : IntKind.i64.wrap ((fs.length : Int) + (gs.length : Int)) = ((fs.length : Int) + (gs.length : Int)) := IntWalk.i64_in _ (by omega)
        have q4 : decide ((fs.length : Int) + (gs.length : Int) > 400) = false := decide_eq_false (by omega)
        have q4' : decide ((400 : Int) < (fs.length : Int) + (gs.length : Int)) = false := decide_eq_false (by omega)
        have q4n : ¬ 400 < fs.length + gs.length := by omega
        obtain ⟨W3, hmk, hO3, hB3⟩ := make_forms (fs.length + gs.length) (by omega) w.heap.size w2 HB2.out.size
        rw [Int.natCast_add] at hmk
        have HO3 := Lib.hid hO3
        have HB3 := Lib.hid hB3
        obtain ⟨W4, hW4⟩ : ∃ W4, W4 = W3.alloc (.cells #[.slice A fs.length c, .slice A' gs.length c'] 23) := ⟨_, rfl⟩
        have hb24 : Below w2.heap.size w2 W4 := by rw [hW4]; exact hB3.alloc hB3.size _
        have hP4 : W4.heap[W3.heap.size]? = some (.cells #[.slice A fs.length c, .slice A' gs.length c'] 23 (0, 0)) := by rw [hW4]; exact blk_new W3 _
        have HB4 : Hid (Below w.heap.size w W4) := below_then HB2.out HB2.out.size hb24
        have HO4 : Hid (W4.ownsRow w.heap.size 40 5 (.slice (some ⟨w2.heap.size, 0, none⟩) 0 (fs.length + gs.length)) 0 []) := by rw [hW4]; exact own_move hO3 (fun k hk => Below.heap_alloc W3 _ k (own_lt hO3 k hk))
        have HCC := Lib.hid (concat_calls w W4 HB4.out W3.heap.size A A' c c' fs gs ks hs hP4 HF.out HG.out (by omega))
        have HWE := Lib.hid hW4
        clear hO3 hB3 hb24 hP4 hW4
        go_wp2_with (fail)
        rw [← HWE.out]
        refine HCC.out.mono ?_
        rintro e w5 ⟨v5, vs5, us5, rfl, hO5, hV5, hU5, hb5⟩
        have HO5 := Lib.hid hO5
        have HV5 := Lib.hid hV5
        have HU5 := Lib.hid hU5
        have HB5 := Lib.hid (below_then HB4.out HB4.out.size hb5)
        have HOut : Hid (w5.ownsRow w.heap.size 40 5 (.slice (some ⟨w2.heap.size, 0, none⟩) 0 (fs.length + gs.length)) 0 []) := own_move HO4.out (fun k hk => hb5.block k (own_lt HO4.out k hk))
        obtain ⟨A5, c5, hv5⟩ := own_slice hO5
        have HB45 := Lib.hid hb5
        clear hO5 hV5 hU5 hb5 hmk
        have hne5 : (Value.slice A5 (fs.length + gs.length) c5).ownBlock = none ∨ (Value.slice A5 (fs.length + gs.length) c5).ownBlock ≠ some w2.heap.size := by
          rw [hv5] at HO5
          cases hk5 : (Value.slice A5 (fs.length + gs.length) c5).ownBlock with
          | none => exact .inl rfl
          | some b =>
            right
            intro e
            injection e with e
            have h1 := own_base HO5.out b hk5
            have h2 := own_lt HO4.out w2.heap.size rfl
            omega
        have HNE5 := Lib.hid hne5
        clear hne5
        subst hv5
        clear HB45 HCC HO4 HB4 HWE HO3
        go_wp2_with (fail)
        go_loopw [11, 44] (fun vo x wr => ∃ j : Nat, x = .int .i64 (j : Int) ∧ j ≤ fs.length + gs.length ∧ Hid (CatRel w wr W4.heap.size (.slice A5 (fs.length + gs.length) c5) fs gs vs5 us5 (bothK fs.length ks hs) j vo)) (fun _ x _ => fs.length + gs.length - (intOf x).toNat)
        case atStart => exact ⟨0, rfl, Nat.zero_le _, ⟨fun _ => .slice none 0 0, fun _ => [], ⟨HOut.out, ⟨fun i _ => own_nil _ _ _ _, fun i j _ _ _ => .inl rfl⟩⟩, fun i hi => absurd hi (Nat.not_lt_zero _), HB5.out⟩, HO5.out, HNE5.out⟩
        case round =>
          clear HOut HO5 HNE5 HB5
          obtain ⟨j, rfl, hj, hR⟩ := hrel
          obtain ⟨⟨vs, ls, hS, hK, hW⟩, hO, hNe⟩ := hR.out
          have htl : ((fs ++ gs).take j).length = j := by rw [List.length_take, List.length_append]; omega
          obtain ⟨Ao, co, rfl⟩ := own_slice hS.row
          rw [htl]
          by_cases hlt : j < fs.length + gs.length
          · obtain ⟨F, hFj⟩ : ∃ F, (fs ++ gs)[j]? = some F := ⟨_, List.getElem?_eq_getElem (by rw [List.length_append]; exact hlt)⟩
            have hsnoc : (fs ++ gs).take (j + 1) = (fs ++ gs).take j ++ [F] := by rw [List.take_add_one, hFj]; rfl
            obtain ⟨A6, c6, hv6, hFc⟩ := cat_frow hO (HV5.out.below hW) (HU5.out.below hW)
            rw [List.length_append] at hv6
            injection hv6 with x1 _ x2
            subst x1 x2
            obtain ⟨g2, o2, C, e2, hA2, hg2, d0, d1, d2, d3, d4, _, hI⟩ := hFc j F hFj
            subst hA2
            obtain ⟨L, hL⟩ : ∃ L, L = catK fs.length ks hs j := ⟨_, rfl⟩
            have hLl : L.length ≤ 17592186043904 := by
              rw [hL]; unfold catK
              split
              · exact HK.out _
              · exact HK'.out _
            obtain ⟨n, hn4, hmap, hnb⟩ : ∃ n : Nat, n ≤ 400 ∧ L.map (shiftW n) = bothK fs.length ks hs j ∧ ((decide ((j : Int) ≥ (fs.length : Int)) = true ∧ decide ((fs.length : Int) ≤ (j : Int)) = true ∧ fs.length ≤ j ∧ decide (fs.length ≤ j) = true ∧ n = fs.length) ∨ (decide ((j : Int) ≥ (fs.length : Int)) = false ∧ decide ((fs.length : Int) ≤ (j : Int)) = false ∧ ¬ fs.length ≤ j ∧ decide (fs.length ≤ j) = false ∧ n = 0)) := by
              have r1 := HRW1.out
              have r2 := HRW2.out
              by_cases hjl : j < fs.length
              · refine ⟨0, by omega, ?_, .inr ⟨decide_eq_false (by omega), decide_eq_false (by omega), by omega, decide_eq_false (by omega), rfl⟩⟩
                rw [hL]; unfold catK bothK
                rw [if_pos hjl, if_pos hjl]
                exact shiftW_zero (r1.2.2 j hjl) r1.1
              · refine ⟨fs.length, r1.1, ?_, .inl ⟨decide_eq_true (by omega), decide_eq_true (by omega), by omega, decide_eq_true (by omega), rfl⟩⟩
                rw [hL]; unfold catK bothK
                rw [if_neg hjl, if_neg hjl]
                exact shiftW_ok (r2.2.2 (j - fs.length) (by omega)) r2.1 fs.length r1.1
            rw [← hL] at d3 hI
            have z1 : (j : Int) < ((fs.length + gs.length : Nat) : Int) := by omega
            have z1' : (j : Int) < (fs.length : Int) + (gs.length : Int) := by omega
            have z0 : (0 : Int) ≤ (j : Int) := by omega
            have qd : decide ((j : Int) < ((fs.length + gs.length : Nat) : Int)) = true := decide_eq_true z1
            have qd' : decide ((j : Int) < (fs.length : Int) + (gs.length : Int)) = true := decide_eq_true z1'
            have hw : IntKind.i64.wrap ((j : Int) + 1) = ((j + 1 : Nat) : Int) := by rw [IntWalk.i64_in _ (by omega)]; omega
            obtain ⟨wa, hwa⟩ : ∃ wa, wa = wr.alloc (.cells #[.int .u8 F.k, .string F.t, .int .i64 F.n, .slice C L.length e2, .int .i64 F.at_] 40) := ⟨_, rfl⟩
            have hba : Below wr.heap.size wr wa := by rw [hwa]; exact (Below.refl _ wr).alloc (Nat.le_refl _) _
            have hsa : wa.heap.size = wr.heap.size + 1 := by rw [hwa]; exact Array.size_push _
            have hxa : wa.heap[wr.heap.size]? = some (.cells #[.int .u8 F.k, .string F.t, .int .i64 F.n, .slice C L.length e2, .int .i64 F.at_] 40 (0, 0)) := by rw [hwa]; exact blk_new wr _
            have HSH := Lib.hid (shifted_calls wa C e2 L (hI.below hba) hLl n)
            have y3 : wa.cell? ⟨wr.heap.size, 3, none⟩ = some (.slice C L.length e2) := by rw [blk_cell hxa]; rfl
            have HXA := Lib.hid hxa
            have HBA := Lib.hid hba
            have HS := Lib.hid hS
            have HKK := Lib.hid hK
            have HW := Lib.hid hW
            have HO := Lib.hid hO
            have HNE := Lib.hid hNe
            have HSN := Lib.hid hsnoc
            have HTL := Lib.hid htl
            have HSA := Lib.hid hsa
            have HWA := Lib.hid hwa
            have HMAP := Lib.hid hmap
            clear hS hK hW hR hFj hI hsnoc htl hba hsa hxa hwa hO hNe hFc hmap hL
            rcases hnb with ⟨qn, qn', qnn, qnd, rfl⟩ | ⟨qn, qn', qnn, qnd, rfl⟩
            all_goals
              try rw [show ((0 : Nat) : Int) = 0 from rfl] at HSH
              go_upto_region 12 with (fail)
              rw [← HWA.out]
              clear d0 d1 d2 d3 d4
              go_wp2_with (fail)
              try rw [← HWA.out]
              refine HSH.out.mono ?_
              rintro e w1 ⟨v1, rfl, hown1, hb1⟩
              obtain ⟨A1, c1, hv1⟩ := own_slice hown1
              have hbw1 : Below wr.heap.size wr w1 := below_then HBA.out HBA.out.size hb1
              have hx1 : w1.heap[wr.heap.size]? = some (.cells #[.int .u8 F.k, .string F.t, .int .i64 F.n, .slice C L.length e2, .int .i64 F.at_] 40 (0, 0)) := blk_below HXA.out hb1
              have f1 : w1.frozen? ⟨wr.heap.size, 3, none⟩ = false := blk_frozen hx1 3
              have y1 : w1.cell? ⟨wr.heap.size, 3, none⟩ = some (.slice C L.length e2) := by rw [blk_cell hx1]; rfl
              obtain ⟨w2x, hw2x⟩ : ∃ w2x, w2x = w1.setCell ⟨wr.heap.size, 3, none⟩ v1 := ⟨_, rfl⟩
              have hx2 : w2x.heap[wr.heap.size]? = some (.cells #[.int .u8 F.k, .string F.t, .int .i64 F.n, v1, .int .i64 F.at_] 40 (0, 0)) := by rw [hw2x]; exact blk_set hx1 3 v1
              have hb2x : Below wr.heap.size wr w2x := by rw [hw2x]; exact hbw1.setCell (p := ⟨wr.heap.size, 3, none⟩) (Nat.le_refl _) _
              rw [HMAP.out] at hown1 hv1
              obtain ⟨Z, hZ⟩ : ∃ Z, Z = bothK fs.length ks hs j := ⟨_, rfl⟩
              rw [← hZ] at hown1 hv1
              have HZ := Lib.hid hZ
              clear hZ
              have hsz1 : w.heap.size ≤ wa.heap.size := by have h1 := HW.out.size; have h2 := HSA.out; omega
              have hown2 : w2x.ownsRow w.heap.size 3 1 v1 Z.length (nums .i64 Z) := by rw [hw2x]; exact own_setCell (own_weaken hown1 hsz1) (own_ne hown1 hx1 (by decide)) _
              have hne : ∀ i, i < ((fs ++ gs).take j).length + 2 → v1.ownBlock = none ∨ v1.ownBlock ≠ (vs i).ownBlock := by
                intro i hi
                cases hk2 : v1.ownBlock with
                | none => exact .inl rfl
                | some b =>
                  right
                  intro e
                  have h1 := own_base hown1 b hk2
                  have h2 := own_lt (HS.out.kids.1 i hi) b e.symm
                  have h3 := HSA.out
                  omega
              have HOWN2 := Lib.hid hown2
              have HS2 := Lib.hid (HS.out.below hb2x)
              have HW2 : Hid (Below w.heap.size w w2x) := below_then HW.out HW.out.size hb2x
              have HX2 := Lib.hid hx2
              have HNEW := Lib.hid hne
              have HW2X := Lib.hid hw2x
              have HO2 : Hid (w2x.ownsRow W4.heap.size 40 5 (.slice (some ⟨g2, o2, none⟩) (fs.length + gs.length) c5) (fs.length + gs.length) (fcells fs 0 vs5 ++ fcells gs 0 us5)) := own_move HO.out (fun k hk => hb2x.block k (own_lt HO.out k hk))
              have HSZ := Lib.hid hb2x.size
              clear hown1 hb1 hbw1 hx1 hx2 hb2x hown2 hne hw2x hsz1 y3
              subst hv1
              go_upto_region 13 with (fail)
              rw [← HW2X.out]
              obtain ⟨b0, b1, b2, b3, b4, _, _, _, _, _⟩ := form_cells HX2.out
              have hlong2 : (j + 1) * 64 ≤ 140737488355328 := by omega
              have hrow : Hid (w2x.ownsRow w.heap.size 40 5 (.slice Ao j co) j (fcells ((fs ++ gs).take j) 2 vs)) := by have h := HS2.out.row; rw [HTL.out] at h; exact h
              clear y1 f1
              go_wp2_with (at_builtin; refine print_append_cells (w0 := w) w.heap.size rfl (.tmp 60) (.tmp 62) 23 40 (.agg #[.int .u8 0, .string ⟨#[]⟩, .int .i64 0, .slice none 0 0, .int .i64 0]) 5 64 rfl Try.underlying23 info40 rfl (by decide) (by decide) (.slice Ao j co) j (fcells ((fs ++ gs).take j) 2 vs) (fcell F (.slice A1 Z.length c1)) rfl rfl rfl (by intro u hu; simp [fcell] at hu; rcases hu with rfl | rfl | rfl | rfl | rfl <;> rfl) hrow.out HW2.out HW2.out.size hlong2 ?_)
              intro v3 w3 hown3 hb3 hg3 hat3
              have hfin : Hid (CatRel w w3 W4.heap.size (.slice (some ⟨g2, o2, none⟩) (fs.length + gs.length) c5) fs gs vs5 us5 (bothK fs.length ks hs) (j + 1) v3) := by
                have hown3' : w3.ownsRow w.heap.size 40 5 v3 (((fs ++ gs).take j).length + 1) (fcells ((fs ++ gs).take j) 2 vs ++ fcell F (.slice A1 Z.length c1)) := by rw [HTL.out]; exact hown3
                have hg3' : w2x.grownBy w3 (Value.slice Ao ((fs ++ gs).take j).length co).ownBlock := by rw [HTL.out]; exact hg3
                have h := HS2.out.add (f := F) HOWN2.out HNEW.out hown3' hg3'
                rw [← HSN.out, HTL.out] at h
                have hne0 := HNE.out
                rw [HTL.out] at hne0
                refine ⟨⟨_, _, h, fun i hi => ?_, hb3⟩, own_other HO2.out hg3 hne0, ?_⟩
                · by_cases e : i = j
                  · subst e
                    rw [upd_same]
                    exact HZ.out
                  · rw [upd_other _ _ (by omega)]
                    exact HKK.out i (by omega)
                · rcases hat3 with e | ⟨b, e, hle⟩
                  · rw [e]; exact hne0
                  · cases hk5 : (Value.slice (some ⟨g2, o2, none⟩) (fs.length + gs.length) c5).ownBlock with
                    | none => exact .inl rfl
                    | some b5 =>
                      right
                      rw [e]
                      intro e9
                      injection e9 with e9
                      have := own_lt HO2.out b5 hk5
                      omega
              clear hown3 hb3 hg3 hat3
              go_wp2
              go_roundw
              case measure => simp [intOf]; omega
              case rel => exact ⟨j + 1, by first | rfl | (rw [hw]) | simp, by omega, hfin⟩
          · obtain rfl : j = fs.length + gs.length := by omega
            have qd : decide (((fs.length + gs.length : Nat) : Int) < ((fs.length + gs.length : Nat) : Int)) = false := decide_eq_false (by omega)
            have qd' : decide ((fs.length : Int) + (gs.length : Int) < (fs.length : Int) + (gs.length : Int)) = false := decide_eq_false (by omega)
            have hal : (fs ++ gs).length = fs.length + gs.length := List.length_append
            have htk : (fs ++ gs).take (fs.length + gs.length) = fs ++ gs := List.take_of_length_le (by omega)
            have hrow := hS.row
            have hkids := hS.kids
            rw [htk] at hrow hkids
            obtain ⟨A7, c7, hv7, _, hF7⟩ := own_frow hrow hkids
            rw [hal] at hv7
            injection hv7 with x1 _ x2
            subst x1 x2
            have HF7 := Lib.hid (hF7.congr (fun j hj => hK j (by omega)))
            have HW := Lib.hid hW
            have HCL := Lib.hid (clone_calls wr B d top (HT.out.below hW) ht)
            clear hS hK hW hR htl hlt hrow hkids hF7 hO hNe htk
            go_wp2_with (fail)
            refine HCL.out.mono ?_
            rintro e wA ⟨vT, rfl, hoT, hbT⟩
            obtain ⟨AT, cT, rfl⟩ := own_slice hoT
            have HWA : Hid (Below w.heap.size w wA) := below_then HW.out HW.out.size hbT
            have HSH := Lib.hid (shifted_calls wA B' d' also (HU.out.below HWA.out) ht' fs.length)
            have HOT := Lib.hid hoT
            have HBT := Lib.hid hbT
            clear hoT hbT HCL
            go_wp2_with (fail)
            refine HSH.out.mono ?_
            rintro e wB ⟨vU, rfl, hoU, hbU⟩
            have hmap := shiftW_ok HRW2.out.2.1 HRW2.out.1 fs.length HRW1.out.1
            rw [hmap] at hoU
            obtain ⟨U, hU⟩ : ∃ U, U = also.map (fun x => x + (fs.length : Int)) := ⟨_, rfl⟩
            rw [← hU] at hoU
            have hUl : U.length = also.length := by rw [hU, List.length_map]
            obtain ⟨AU, cU, rfl, _, hIU⟩ := own_irow hoU
            have HBB : Hid (Below wr.heap.size wr wB) := below_then HBT.out HBT.out.size hbU
            have HWB : Hid (Below w.heap.size w wB) := below_then HWA.out HWA.out.size hbU
            have hoT2 : wB.ownsRow wr.heap.size 3 1 (.slice AT top.length cT) top.length (nums .i64 top) := own_move HOT.out (fun k hk => hbU.block k (own_lt HOT.out k hk))
            have HRD := Lib.hid (irow_reads hIU (by omega))
            have htl2 := HRW1.out.2.1.1
            have hlong : (top.length + U.length) * 8 ≤ 140737488355328 := by have := HRW1.out.1; omega
            clear htl2
            have HOT2 := Lib.hid hoT2
            have HSZ : Hid (w.heap.size ≤ wr.heap.size) := HW.out.size
            have HUU := Lib.hid hU
            clear hoU hbU hoT2 hIU HSH hmap hU hUl
            go_wp2_with (at_builtin; refine print_append_row (w0 := w) w.heap.size rfl (.tmp 67) (.tmp 71) 24 3 .i64 8 rfl Try.underlying24 info3 (Nat.succ_pos 7) (.slice AT top.length cT) top U AU U.length cU rfl rfl (own_weaken HOT2.out HSZ.out) HRD.out HWB.out HWB.out.size hlong ?_)
            intro v9 w9 hown9 hb9 hg9 hat9
            try rw [← List.length_append] at hown9
            obtain ⟨A9, c9, rfl, _, hI9⟩ := own_irow hown9
            have hbr9 : Below wr.heap.size wr w9 := HBB.out.grown hg9 HBB.out.size (own_base HOT2.out)
            have HFIN : Hid (BothEnds w (bothP fs ks top gs hs also) (.returned (.tuple #[.slice Ao (fs.length + gs.length) co, .slice A9 (top ++ U).length c9, .int .i64 0])) w9) := by
              show BothEnds _ _ _ _
              rw [HPP.out]
              have hbt : bothT fs.length top also = top ++ U := by unfold bothT; rw [HUU.out]
              refine ⟨Ao, co, A9, c9, ?_, HF7.out.below hbr9, ?_, hb9⟩
              · rw [hal, hbt]
              · rw [hbt]; exact hI9
            clear hown9 hb9 hg9 hat9 hbr9 hI9
            go_wp2
            exact bodyPost_ret (v := .tuple #[.slice Ao (fs.length + gs.length) co, .slice A9 (top ++ U).length c9, .int .i64 0]) (by simp [results, Try.results38, go_sem]) rfl HFIN.out
      · have hp : bothP fs ks top gs hs also = .error 4 := by
          unfold bothP
          rw [if_pos ⟨HRT1.out, HRT2.out⟩, if_neg h4]
        have HPP := Lib.hid hp
        clear hp
        have hws : IntKind.i64.wrap ((fs.length : Int) + (gs.length : Int)) = ((fs.length : Int) + (gs.length : Int)) := IntWalk.i64_in _ (by omega)
        have q4 : decide ((fs.length : Int) + (gs.length : Int) > 400) = true := decide_eq_true (by omega)
        have q4' : decide ((400 : Int) < (fs.length : Int) + (gs.length : Int)) = true := decide_eq_true (by omega)
        have q4n : 400 < fs.length + gs.length := by omega
        go_wp2
        exact bodyPost_ret (v := .tuple #[.slice none 0 0, .slice none 0 0, .int .i64 4]) (by simp [results, Try.results38, go_sem]) rfl (by rw [HPP.out]; exact ⟨rfl, HB2.out⟩)
    · have hp : bothP fs ks top gs hs also = .error 3 := by
        unfold bothP
        rw [if_neg (fun h => hr2 h.2)]
      have HPP := Lib.hid hp
      clear hp
      have hr2' : rightB gs hs also = false := by simpa using hr2
      rw [hr2'] at HR2
      refine HR2.out.mono ?_
      rintro e w2 ⟨rfl, hb2⟩
      have HB2 := Lib.hid (below_then HB1.out HB1.out.size hb2)
      clear hb2 hr2 hr2'
      go_wp2
      exact bodyPost_ret (v := .tuple #[.slice none 0 0, .slice none 0 0, .int .i64 3]) (by simp [results, Try.results38, go_sem]) rfl (by rw [HPP.out]; exact ⟨rfl, HB2.out⟩)
  · have hp : bothP fs ks top gs hs also = .error 3 := by
      unfold bothP
      rw [if_neg (fun h => hr1 h.1)]
    have HPP := Lib.hid hp
    clear hp
    have hr1' : rightB fs ks top = false := by simpa using hr1
    rw [hr1'] at HR1
    clear hr1 hr1'
    go_enter Try.func38, Try.ntmps38
    go_wp2_with (fail)
    refine HR1.out.mono ?_
    rintro e w1 ⟨rfl, hb1⟩
    have HB1 := Lib.hid hb1
    clear hb1
    go_wp2
    exact bodyPost_ret (v := .tuple #[.slice none 0 0, .slice none 0 0, .int .i64 3]) (by simp [results, Try.results38, go_sem]) rfl (by rw [HPP.out]; exact ⟨rfl, HB1.out⟩)
end Go.Proofs.Ytiojfdgagdofiaa.HP
/-
What TreeCuts takes: forms and places as arguments, opened; how two answers are held against each other.
-/
set_option linter.unusedVariables false
set_option linter.unusedSimpArgs false
namespace Go.Proofs.Ytiojfdgagdofiaa.HP
open Go.ChangeShapes Go.WideShapes Go.ChangeAt Go.RowKit Go.Deep Go.Proofs.Ytiojfdgagdofiaa.HB Go.Proofs.Ytiojfdgagdofiaa.HK Go.Proofs.YtiojfdgagdofiaaW.PrintWords Go.Proofs.YtiojfdgagdofiaaW.PrintLast Go.Proofs.YtiojfdgagdofiaaW.PrintMore

/-! ### arguments -/
theorem cell_lt {w : World} {g o : Nat} {v : Value} (h : w.cell? ⟨g, o, none⟩ = some v) : g < w.heap.size := by
  unfold World.cell? at h
  cases hb : w.heap[g]? with
  | none => rw [hb] at h; cases h
  | some ob => exact blk_lt hb
theorem addr_plain {w : World} {x : Addr} {v : Value} (h : w.cell? x = some v) : ∃ g o, x = ⟨g, o, none⟩ := by
  obtain ⟨g, o, s⟩ := x
  cases s with
  | none => exact ⟨g, o, rfl⟩
  | some s =>
    unfold World.cell? at h
    dsimp only at h
    split at h <;> simp at h
theorem arg_row {H : Type} {enc : TypeId × Value → H} {W : World} {base : Nat} {spare : Nat → Bool} {held : Bool} {v : Value} {n : Nat} {y : DataW H × List MemPlace}
    (hf : DataW.trod enc Try.prog W base spare held n 24 [v] = some y) (hsz : ∀ k ∈ y.1.weights Try.prog 24, k ≤ 140737488351232) : ∃ A l c, v = .slice A l.length c ∧ l.length ≤ c ∧ IRow W A l ∧ l.length ≤ 17592186043904 := by
  rcases open_ints Try.underlying24 Try.underlying3 (by kernel_rfl) hf with ⟨hcs, _⟩ | ⟨x, len, c, zs, hcs, _, hl, hm, hz, hx, hcell, hwz⟩
  · simp at hcs
    subst hcs
    exact ⟨none, [], 0, rfl, Nat.le_refl _, IRow.nil _ _, Nat.zero_le _⟩
  · simp at hcs
    subst hcs
    have hlz : len ≤ zs.length := by rw [hz]; split <;> omega
    have e : (zs.take len).length = len := by rw [List.length_take]; omega
    have hw := hsz (((lits (H := H) .i64 (zs.take len)).length + (lits (H := H) .i64 (zs.drop len)).length) * Try.prog.bytesOf 3) (by
      rw [hx, DataW.weights, Try.underlying24]
      exact List.mem_cons_self)
    have hb8 : Try.prog.bytesOf 3 = 8 := by kernel_rfl
    rw [hb8] at hw
    have hll : (lits (H := H) .i64 (zs.take len)).length = len := by unfold lits; rw [List.length_map, e]
    rw [hll] at hw
    refine ⟨some x, zs.take len, c, by rw [e], by omega, fun j hj => ?_, by omega⟩
    have hcj := hcell j (by omega)
    obtain ⟨g, o, hgo⟩ := addr_plain hcj
    have hx0 : ∃ g o, x = ⟨g, o, none⟩ := by
      have h0 := hcell 0 (by omega)
      have e0 : x.add 0 = x := by simp [Addr.add]
      rw [e0] at h0
      exact addr_plain h0
    obtain ⟨g, o, rfl⟩ := hx0
    rw [addr_add] at hcj
    refine ⟨g, o, rfl, cell_lt hcj, ?_⟩
    rw [hcj, List.getD_eq_getElem?_getD, List.getD_eq_getElem?_getD, List.getElem?_take, if_pos (by omega)]
theorem arg_places {H : Type} {enc : TypeId × Value → H} {W : World} {base : Nat} {spare : Nat → Bool} {held : Bool} {A : Option Addr} {len cap : Nat} {d : DataW H} {p : List MemPlace}
    (h : DataW.Trod enc Try.prog W base spare held 24 (.slice A len cap) d p) (hsz : ∀ k ∈ d.weights Try.prog 24, k ≤ 140737488351232) : ∃ l : List Int, len = l.length ∧ l.length ≤ cap ∧ IRow W A l ∧ l.length ≤ 17592186043904 := by
  obtain ⟨fuel, hf⟩ := h
  simp only [Value.cells] at hf
  obtain ⟨A', l, c, e, hc, hI, hl⟩ := arg_row hf hsz
  injection e with e1 e2 e3
  subst e1 e2 e3
  exact ⟨l, rfl, hc, hI, hl⟩
instance : Inhabited FormP := ⟨noForm⟩
theorem arg_forms {H : Type} {enc : TypeId × Value → H} {W : World} {base : Nat} {spare : Nat → Bool} {held : Bool} {A : Option Addr} {len cap : Nat} {d : DataW H} {p : List MemPlace}
    (h : DataW.Trod enc Try.prog W base spare held 23 (.slice A len cap) d p) (hsz : ∀ k ∈ d.weights Try.prog 23, k ≤ 140737488351232) :
    ∃ (fs : List FormP) (ks : Nat → List Int), len = fs.length ∧ fs.length ≤ cap ∧ FRow W A fs ks ∧ (∀ j, (ks j).length ≤ 17592186043904) ∧ ∀ f ∈ fs, f.t.size ≤ 140737488351232 := by
  obtain ⟨h1, _, hx⟩ := slice_structs_sized Try.underlying23 Try.underlying40 (by kernel_rfl) (by kernel_rfl) (by decide) h
  obtain ⟨q, hl, hq⟩ := choose_list (α := FormP × List Int) (n := len) (Q := fun i T => (∃ (g o : Nat) (B : Option Addr) (c : Nat), A = some ⟨g, o, none⟩ ∧ W.cell? ⟨g, o + i * 5, none⟩ = some (.int .u8 T.1.k) ∧ W.cell? ⟨g, o + i * 5 + 1, none⟩ = some (.string T.1.t) ∧ W.cell? ⟨g, o + i * 5 + 2, none⟩ = some (.int .i64 T.1.n) ∧ W.cell? ⟨g, o + i * 5 + 3, none⟩ = some (.slice B T.2.length c) ∧ W.cell? ⟨g, o + i * 5 + 4, none⟩ = some (.int .i64 T.1.at_) ∧ T.2.length ≤ c ∧ IRow W B T.2) ∧ T.2.length ≤ 17592186043904 ∧ T.1.t.size ≤ 140737488351232) (by
    intro i hi
    obtain ⟨g, o, hA, hf⟩ := hx i hi
    obtain ⟨v0, y0, n0, c0, r0, g0⟩ := hf 0 _ rfl
    obtain ⟨v1, y1, n1, c1, r1, g1⟩ := hf 1 _ rfl
    obtain ⟨v2, y2, n2, c2, r2, g2⟩ := hf 2 _ rfl
    obtain ⟨v3, y3, n3, c3, r3, g3⟩ := hf 3 _ rfl
    obtain ⟨v4, y4, n4, c4, r4, g4⟩ := hf 4 _ rfl
    obtain ⟨z0, e0, _⟩ := DataW.trod_int Try.underlying34 r0
    obtain ⟨z1, e1, x1, _⟩ := DataW.trod_string Try.underlying9 r1
    obtain ⟨z2, e2, _⟩ := DataW.trod_int Try.underlying35 r2
    obtain ⟨B, l, c, e3, hlc, hI, hll⟩ := arg_row r3 (fun k hk => hsz k (g3 k hk))
    obtain ⟨z4, e4, _⟩ := DataW.trod_int Try.underlying3 r4
    injection e0 with e0 _
    injection e1 with e1 _
    injection e2 with e2 _
    injection e4 with e4 _
    subst e0 e1 e2 e3 e4
    exact ⟨(⟨z0, z1, z2, z4⟩, l), ⟨g, o, B, c, hA, c0, c1, c2, c3, c4, hlc, hI⟩, hll, by
      have := hsz z1.data.toList.length (g1 _ (by rw [x1]; simp [DataW.weights]))
      simpa using this⟩)
  refine ⟨q.map (·.1), fun j => (q.getD j (noForm, [])).2, by rw [List.length_map, hl], by rw [List.length_map]; omega, fun j f hj => ?_, fun j => ?_, fun f hf => ?_⟩
  · rw [List.getElem?_map, Option.map_eq_some_iff] at hj
    obtain ⟨T, hT, rfl⟩ := hj
    obtain ⟨⟨g, o, B, c, hA, c0, c1, c2, c3, c4, hc, hI⟩, _, _⟩ := hq j T hT
    have e : q.getD j (noForm, []) = T := by rw [List.getD_eq_getElem?_getD, hT]; rfl
    refine ⟨g, o, B, c, hA, cell_lt c0, c0, c1, c2, ?_, c4, ?_, ?_⟩
    all_goals dsimp only; rw [e]
    · exact c3
    · exact hc
    · exact hI
  · cases hT : q[j]? with
    | none => dsimp only; rw [List.getD_eq_getElem?_getD, hT]; exact Nat.zero_le _
    | some T => dsimp only; rw [List.getD_eq_getElem?_getD, hT]; exact (hq j T hT).2.1
  · obtain ⟨T, hT, rfl⟩ := List.mem_map.1 hf
    obtain ⟨j, hj⟩ := List.mem_iff_getElem?.1 hT
    exact (hq j T hj).2.2

/-! ### so many at most -/
set_option maxHeartbeats 4000000 in
set_option maxRecDepth 100000 in
theorem forms_calls (w : World) (A : Option Addr) (c : Nat) (fs : List FormP) (ks : Nat → List Int) (hT : FRow w A fs ks) (hc : fs.length ≤ c) :
    Calls Try.prog 34 #[.slice A fs.length c] w fun e w' => (∃ A' c', e = .returned (.slice A' (fs.take 405).length c') ∧ FRow w A' (fs.take 405) ks) ∧ w' = w := by
  by_cases h : 405 < fs.length
  · obtain ⟨T, hj⟩ : ∃ T, fs[0]? = some T := ⟨_, List.getElem?_eq_getElem (by omega)⟩
    obtain ⟨g, o, B, c9, hA, _⟩ := hT 0 T hj
    subst hA
    have hsl : ∀ W, (Instr.slice 23 (.slice (some ⟨g, o, none⟩) fs.length c) none (some (.int .i64 405)) none).run Try.prog W = .ok (.slice (some ⟨g, o, none⟩) 405 c) W := by
      intro W
      rw [run_slice_h (P := Try.prog) W 23 (some ⟨g, o, none⟩) fs.length c Try.underlying23 .i64 405 (by omega) (by omega)]
      rw [show (sizeOf (Try.prog.elem 23)).run Try.prog W = .ok 5 W by simp [go_sem]]
      simp [go_sem, sliced, Result.andThen, Addr.add]
    have q : decide ((405 : Int) < (fs.length : Int)) = true := decide_eq_true (by omega)
    have hl : (fs.take 405).length = 405 := by rw [List.length_take]; omega
    go_enter Try.func34, Try.ntmps34
    go_wp2
    go_ret
    refine ⟨⟨some ⟨g, o, none⟩, c, by rw [hl]; rfl, fun j T' hj' => hT j T' ?_⟩, rfl⟩
    rw [List.getElem?_take] at hj'
    split at hj'
    · exact hj'
    · cases hj'
  · have q : decide ((405 : Int) < (fs.length : Int)) = false := decide_eq_false (by omega)
    have hl : fs.take 405 = fs := List.take_of_length_le (by omega)
    go_enter Try.func34, Try.ntmps34
    go_wp2
    go_ret
    refine ⟨⟨A, c, by rw [hl]; rfl, by rw [hl]; exact hT⟩, rfl⟩
set_option maxHeartbeats 4000000 in
set_option maxRecDepth 100000 in
theorem places_calls (w : World) (A : Option Addr) (c : Nat) (l : List Int) (hT : IRow w A l) (hc : l.length ≤ c) :
    Calls Try.prog 35 #[.slice A l.length c] w fun e w' => (∃ A' c', e = .returned (.slice A' (l.take 100).length c') ∧ IRow w A' (l.take 100)) ∧ w' = w := by
  by_cases h : 100 < l.length
  · obtain ⟨g, o, hA, _⟩ := hT 0 (by omega)
    subst hA
    have hsl : ∀ W, (Instr.slice 24 (.slice (some ⟨g, o, none⟩) l.length c) none (some (.int .i64 100)) none).run Try.prog W = .ok (.slice (some ⟨g, o, none⟩) 100 c) W := by
      intro W
      rw [run_slice_h (P := Try.prog) W 24 (some ⟨g, o, none⟩) l.length c Try.underlying24 .i64 100 (by omega) (by omega)]
      rw [show (sizeOf (Try.prog.elem 24)).run Try.prog W = .ok 1 W by simp [go_sem]]
      simp [go_sem, sliced, Result.andThen, Addr.add]
    have q : decide ((100 : Int) < (l.length : Int)) = true := decide_eq_true (by omega)
    have hl : (l.take 100).length = 100 := by rw [List.length_take]; omega
    go_enter Try.func35, Try.ntmps35
    go_wp2
    go_ret
    refine ⟨⟨some ⟨g, o, none⟩, c, by rw [hl]; rfl, fun j hj => ?_⟩, rfl⟩
    obtain ⟨g', o', e, h1, h2⟩ := hT j (by omega)
    refine ⟨g', o', e, h1, ?_⟩
    rw [h2, List.getD_eq_getElem?_getD, List.getD_eq_getElem?_getD, List.getElem?_take, if_pos (by omega)]
  · have q : decide ((100 : Int) < (l.length : Int)) = false := decide_eq_false (by omega)
    have hl : l.take 100 = l := List.take_of_length_le (by omega)
    go_enter Try.func35, Try.ntmps35
    go_wp2
    go_ret
    refine ⟨⟨A, c, by rw [hl]; rfl, by rw [hl]; exact hT⟩, rfl⟩

/-! ### two answers -/
/-- An answer: forms, their kids, places, the error. -/
abbrev AnsP := List FormP × (Nat → List Int) × List Int × Int
def AnsEnds (w : World) (q : AnsP) (e : Ending) (w' : World) : Prop :=
  ∃ A c B d, e = .returned (.tuple #[.slice A q.1.length c, .slice B q.2.2.1.length d, .int .i64 q.2.2.2]) ∧ FRow w' A q.1 q.2.1 ∧ IRow w' B q.2.2.1 ∧ Below w.heap.size w w'
def AnsOk (q : AnsP) : Prop := q.1.length ≤ 1000000 ∧ (∀ j, (q.2.1 j).length ≤ 1000000) ∧ q.2.2.1.length ≤ 1000000
def ansCut (r : Except Int TkSt) : AnsP :=
  match r with
  | .ok st => (st.1, ksOf st.2, [0], 0)
  | .error why => ([], fun _ => [], [], why)
def cutN (n : Nat) (ks : Nat → List Int) (j : Nat) : List Int := if j < n then ks j else []
def ansBoth (r : Except Int (List FormP × (Nat → List Int) × List Int)) : AnsP :=
  match r with
  | .ok (fs, ks, top) => (fs, cutN fs.length ks, top, 0)
  | .error why => ([], fun _ => [], [], why)
theorem CutEnds.ans {w w' : World} {r : Except Int TkSt} {e : Ending} (h : CutEnds w r e w') : AnsEnds w (ansCut r) e w' := by
  cases r with
  | ok st =>
    obtain ⟨A, c, B, d, he, h1, h2, h3⟩ := h
    exact ⟨A, c, B, d, he, h1, h2, h3⟩
  | error why =>
    obtain ⟨he, h3⟩ := h
    exact ⟨none, 0, none, 0, he, FRow.nil _ _ _, IRow.nil _ _, h3⟩
theorem BothEnds.ans {w w' : World} {r : Except Int (List FormP × (Nat → List Int) × List Int)} {e : Ending} (h : BothEnds w r e w') : AnsEnds w (ansBoth r) e w' := by
  cases r with
  | ok q =>
    obtain ⟨fs, ks, top⟩ := q
    obtain ⟨A, c, B, d, he, h1, h2, h3⟩ := h
    exact ⟨A, c, B, d, he, h1.congr (fun j hj => by show _ = cutN fs.length ks j; unfold cutN; rw [if_pos hj]), h2, h3⟩
  | error why =>
    obtain ⟨he, h3⟩ := h
    exact ⟨none, 0, none, 0, he, FRow.nil _ _ _, IRow.nil _ _, h3⟩
/-- No row of kids is longer than the forms. -/
def RowsShort (s : TkSt) : Prop := ∀ j, (s.2 j).length ≤ s.1.length
theorem short_fold {N : Nat} {fs : List FormP} {ks : Nat → List Int} (n : Nat) : ∀ (l : List Nat) (s : TkSt), n < s.1.length → RowsShort s → (s.2 (n + 2)).length + 1 ≤ s.1.length → (∀ k ∈ l, ∀ s : TkSt, RowsShort s → RowsShort (tk N fs ks k s)) → RowsShort (l.foldl (tkKid (tk N fs ks) n) s)
  | [], s, _, h, _, _ => h
  | k :: r, s, hn, h, hs, hk => by
    rw [List.foldl_cons]
    have hl := tk_len N fs ks k s
    have hrow := tk_row N fs ks k s (n + 2) (by omega)
    have h1 := hk k List.mem_cons_self s h
    have e1 : (tkKid (tk N fs ks) n s k).1 = (tk N fs ks k s).1 := rfl
    have e2 : ((tkKid (tk N fs ks) n s k).2 (n + 2)).length = (s.2 (n + 2)).length + 1 := by
      unfold tkKid tkPush
      dsimp only
      rw [upd_same, List.length_append, List.length_singleton, hrow]
    refine short_fold n r _ (by rw [e1]; omega) (fun j => ?_) (by rw [e1, e2]; omega) (fun x hx => hk x (List.mem_cons_of_mem _ hx))
    rw [e1]
    by_cases e : j = n + 2
    · subst e; rw [e2]; omega
    · unfold tkKid tkPush
      dsimp only
      rw [upd_other _ _ e]
      exact h1 j
theorem short_tk (N : Nat) (fs : List FormP) (ks : Nat → List Int) : ∀ (d k : Nat), N - k = d → ∀ s : TkSt, RowsShort s → RowsShort (tk N fs ks k s) := by
  intro d
  induction d using Nat.strongRecOn with
  | _ d ih =>
    intro k hd s hs
    rw [tk_eq]
    have hl : (tkAdd s (fs.getD k noForm)).1.length = s.1.length + 1 := by unfold tkAdd; simp
    refine short_fold s.1.length _ _ (by omega) (fun j => ?_) ?_ (fun x hx => by
      have := kidsB_mem hx
      exact ih (N - x) (by omega) x rfl)
    · rw [hl]
      unfold tkAdd
      dsimp only
      by_cases e : j = s.1.length + 2
      · subst e; rw [upd_same]; exact Nat.zero_le _
      · rw [upd_other _ _ e]; have := hs j; omega
    · rw [hl]
      unfold tkAdd
      dsimp only
      rw [upd_same]
      simp
theorem ansCut_ok (fs : List FormP) (ks : Nat → List Int) (i : Int) : AnsOk (ansCut (cutP fs ks i)) := by
  unfold cutP
  split
  · split
    · rename_i hb
      have hl := tk_len fs.length fs ks i.toNat ([], fun _ => [])
      have hs := short_tk fs.length fs ks _ i.toNat rfl ([], fun _ => []) (fun j => Nat.zero_le _)
      simp only [List.length_nil] at hl
      refine ⟨?_, fun j => ?_, ?_⟩
      · show (tk fs.length fs ks i.toNat ([], fun _ => [])).1.length ≤ _
        omega
      · exact Nat.le_trans (hs (j + 2)) (by omega)
      · show ([0] : List Int).length ≤ _
        simp
    · exact ⟨Nat.zero_le _, fun j => Nat.zero_le _, Nat.zero_le _⟩
  · exact ⟨Nat.zero_le _, fun j => Nat.zero_le _, Nat.zero_le _⟩
theorem ansBoth_ok (fs : List FormP) (ks : Nat → List Int) (top : List Int) (gs : List FormP) (hs : Nat → List Int) (also : List Int) : AnsOk (ansBoth (bothP fs ks top gs hs also)) := by
  unfold bothP
  split
  · rename_i hr
    obtain ⟨a1, a2, a3⟩ := right_rows hr.1
    obtain ⟨b1, b2, b3⟩ := right_rows hr.2
    split
    · refine ⟨?_, fun j => ?_, ?_⟩
      · show (fs ++ gs).length ≤ _
        rw [List.length_append]; omega
      · show (cutN (fs ++ gs).length (bothK fs.length ks hs) j).length ≤ _
        unfold cutN
        split
        · rename_i hj
          rw [List.length_append] at hj
          unfold bothK
          split
          · rename_i hj2
            have := (a3 j hj2).1
            omega
          · rw [List.length_map]
            have := (b3 (j - fs.length) (by omega)).1
            omega
        · exact Nat.zero_le _
      · show (bothT fs.length top also).length ≤ _
        unfold bothT
        rw [List.length_append, List.length_map]
        have := a2.1
        have := b2.1
        omega
    · exact ⟨Nat.zero_le _, fun j => Nat.zero_le _, Nat.zero_le _⟩
  · exact ⟨Nat.zero_le _, fun j => Nat.zero_le _, Nat.zero_le _⟩
end Go.Proofs.Ytiojfdgagdofiaa.HP
/-
What both lists together are, and what a form that is alone is: forests again; plain.
-/
set_option linter.unusedVariables false
set_option linter.unusedSimpArgs false
namespace Go.Proofs.Ytiojfdgagdofiaa.HP
open Go.RowKit Go.Proofs.Ytiojfdgagdofiaa.HB Go.Proofs.Ytiojfdgagdofiaa.HK Go.Proofs.YtiojfdgagdofiaaW.PrintWords Go.Proofs.YtiojfdgagdofiaaW.PrintLast Go.Proofs.YtiojfdgagdofiaaW.PrintMore
/-- A forest, moved. -/
theorem Fo.shift (c : Int) {op op' : Nat → Bool} {ks ks' : Nat → List Int} {d : Nat} {l : List Int} {m m' : Nat} (h : Fo op ks d l m m') :
    ∀ mm mm' : Nat, (mm : Int) = (m : Int) + c → (mm' : Int) = (m' : Int) + c → (∀ j jj : Nat, m ≤ j → j < m' → (jj : Int) = (j : Int) + c → op' jj = op j ∧ ks' jj = (ks j).map (fun x => x + c)) → Fo op' ks' d (l.map (fun x => x + c)) mm mm' := by
  induction h with
  | nil d m =>
    intro mm mm' h1 h2 _
    obtain rfl : mm = mm' := by omega
    exact .nil _ _
  | @leaf d r m m' a b f ih =>
    intro mm mm' h1 h2 hk
    have := f.le
    obtain ⟨k1, k2⟩ := hk m mm (Nat.le_refl _) (by omega) h1
    rw [List.map_cons, ← h1]
    refine .leaf (by rw [k1]; exact a) (by rw [k2, b]; rfl) (ih (mm + 1) mm' (by omega) h2 fun j jj x y z => hk j jj (by omega) y z)
  | @node d r m x m' a b f ih1 ih2 =>
    intro mm mm' h1 h2 hk
    have l1 := b.le
    have l2 := f.le
    obtain ⟨k1, k2⟩ := hk m mm (Nat.le_refl _) (by omega) h1
    rw [List.map_cons, ← h1]
    obtain ⟨xx, hxx⟩ : ∃ xx : Nat, (xx : Int) = (x : Int) + c := ⟨((x : Int) + c).toNat, by omega⟩
    refine .node (x := xx) (by rw [k1]; exact a) (by rw [k2]; exact ih1 (mm + 1) xx (by omega) hxx fun j jj y z t => hk j jj (by omega) (by omega) t) (ih2 xx mm' hxx h2 fun j jj y z t => hk j jj (by omega) z t)
/-- Each form, with all below it. -/
theorem Fo.sub {op : Nat → Bool} {ks : Nat → List Int} {d : Nat} {l : List Int} {m m' : Nat} (h : Fo op ks d l m m') : ∀ n, m ≤ n → n < m' → ∃ x, Fo op ks d [(n : Int)] n x ∧ x ≤ m' := by
  induction h with
  | nil => intro n h1 h2; omega
  | @leaf d r m m' a b f ih =>
    intro n h1 h2
    have := f.le
    by_cases e : n = m
    · subst e; exact ⟨n + 1, .leaf a b (.nil _ _), by omega⟩
    · exact ih n (by omega) h2
  | @node d r m x m' a b f ih1 ih2 =>
    intro n h1 h2
    have l1 := b.le
    have l2 := f.le
    by_cases e : n = m
    · subst e; exact ⟨x, .node a b (.nil _ _), l2⟩
    · by_cases e2 : n < x
      · obtain ⟨y, hy, hle⟩ := ih1 n (by omega) e2
        exact ⟨y, hy.mono (by omega), by omega⟩
      · exact ih2 n (by omega) h2
theorem allB_iff {fs : List FormP} {ks : Nat → List Int} : allB fs ks = true ↔ ∀ j, j < fs.length → oneB fs ks j = true := by
  unfold allB
  rw [List.all_eq_true]
  exact ⟨fun h j hj => h j (List.mem_range.2 hj), fun h j hj => h j (List.mem_range.1 hj)⟩
theorem oneB_eq {fs gs : List FormP} {ks hs : Nat → List Int} {i j : Nat} (h : fs.getD i noForm = gs.getD j noForm) (hk : (ks i).length = (hs j).length) : oneB fs ks i = oneB gs hs j := by
  unfold oneB; rw [h, hk]
theorem right_of_fo {fs : List FormP} {ks : Nat → List Int} {top : List Int} (h4 : fs.length ≤ 400) (ha : allB fs ks = true) (h : Fo (opOf fs) ks 12 top 0 fs.length) : rightB fs ks top = true := by
  unfold rightB
  rw [decide_eq_true h4, ha, decide_eq_true h.goP, decide_eq_true h.depthP]
  rfl
theorem right_all {fs : List FormP} {ks : Nat → List Int} {top : List Int} (h : rightB fs ks top = true) : allB fs ks = true := by
  unfold rightB at h
  simp only [Bool.and_eq_true] at h
  exact h.2.1
theorem getD_left {fs gs : List FormP} {j : Nat} (h : j < fs.length) : (fs ++ gs).getD j noForm = fs.getD j noForm := by
  rw [List.getD_eq_getElem?_getD, List.getD_eq_getElem?_getD, List.getElem?_append_left h]
theorem getD_right {fs gs : List FormP} {j : Nat} (h : fs.length ≤ j) : (fs ++ gs).getD j noForm = gs.getD (j - fs.length) noForm := by
  rw [List.getD_eq_getElem?_getD, List.getD_eq_getElem?_getD, List.getElem?_append_right h]
theorem both_fo {fs gs : List FormP} {ks hs : Nat → List Int} {top also : List Int} (h1 : Fo (opOf fs) ks 12 top 0 fs.length) (h2 : Fo (opOf gs) hs 12 also 0 gs.length) :
    Fo (opOf (fs ++ gs)) (bothK fs.length ks hs) 12 (bothT fs.length top also) 0 (fs ++ gs).length := by
  unfold bothT
  refine Fo.append (x := fs.length) (h1.congr fun j _ hj => ⟨?_, ?_⟩) (h2.shift (fs.length : Int) fs.length (fs ++ gs).length (by omega) (by rw [List.length_append]; omega) fun j jj _ hj hjj => ⟨?_, ?_⟩)
  · unfold opOf; rw [getD_left hj]
  · unfold bothK; rw [if_pos hj]
  · unfold opOf; rw [getD_right (by omega), show jj - fs.length = j by omega]
  · unfold bothK; rw [if_neg (by omega), show jj - fs.length = j by omega]
theorem both_all {fs gs : List FormP} {ks hs : Nat → List Int} (h1 : allB fs ks = true) (h2 : allB gs hs = true) : allB (fs ++ gs) (bothK fs.length ks hs) = true := by
  rw [allB_iff] at h1 h2 ⊢
  intro j hj
  rw [List.length_append] at hj
  by_cases h : j < fs.length
  · rw [← h1 j h]
    exact oneB_eq (getD_left h) (by unfold bothK; rw [if_pos h])
  · rw [← h2 (j - fs.length) (by omega)]
    exact oneB_eq (getD_right (by omega)) (by unfold bothK; rw [if_neg h, List.length_map])
/-- What is taken of a forest. -/
theorem take_fo {fs : List FormP} {ks : Nat → List Int} {op : Nat → Bool} (n0 : Nat) {d : Nat} {l : List Int} {m x : Nat} (h : Fo op ks d l m x) : x ≤ fs.length → ∀ (st : TkSt) (p : Nat), p < st.1.length → st.1.length + n0 = m →
    (((l.map Int.toNat).foldl (tkKid (tk fs.length fs ks) p) st).1 = st.1 ++ (fs.drop m).take (x - m) ∧
    ((l.map Int.toNat).foldl (tkKid (tk fs.length fs ks) p) st).2 (p + 2) = st.2 (p + 2) ++ l.map (fun y => y + -(n0 : Int))) ∧
    (∀ j, m ≤ j → j < x → ((l.map Int.toNat).foldl (tkKid (tk fs.length fs ks) p) st).2 (j - n0 + 2) = (ks j).map (fun y => y + -(n0 : Int))) ∧
    (∀ j, j < st.1.length + 2 → j ≠ p + 2 → ((l.map Int.toNat).foldl (tkKid (tk fs.length fs ks) p) st).2 j = st.2 j) := by
  induction h with
  | nil d m =>
    intro hx st p hp hs
    refine ⟨⟨?_, ?_⟩, fun j h1 h2 => by omega, fun j _ _ => rfl⟩
    · rw [Nat.sub_self, List.take_zero, List.append_nil]; rfl
    · simp
  | @leaf d r m m' a b f ih =>
    intro hx st p hp hs
    have hle := f.le
    have ht : tk fs.length fs ks m st = tkAdd st (fs.getD m noForm) := by rw [tk_eq, b]; rfl
    obtain ⟨s1, hs1⟩ : ∃ s1, s1 = tkPush (tkAdd st (fs.getD m noForm)) p st.1.length := ⟨_, rfl⟩
    have e : (((m : Int) :: r).map Int.toNat).foldl (tkKid (tk fs.length fs ks) p) st = (r.map Int.toNat).foldl (tkKid (tk fs.length fs ks) p) s1 := by
      rw [List.map_cons, List.foldl_cons, Int.toNat_natCast, hs1]
      unfold tkKid
      rw [ht]
    have f1 : s1.1 = st.1 ++ [fs.getD m noForm] := by rw [hs1]; rfl
    have l1 : s1.1.length = st.1.length + 1 := by rw [f1, List.length_append, List.length_singleton]
    have r1 : s1.2 (p + 2) = st.2 (p + 2) ++ [((st.1.length : Nat) : Int)] := by
      rw [hs1]; unfold tkPush tkAdd; dsimp only; rw [upd_same, upd_other _ _ (by omega)]
    have r2 : s1.2 (st.1.length + 2) = [] := by
      rw [hs1]; unfold tkPush tkAdd; dsimp only; rw [upd_other _ _ (by omega), upd_same]
    have r3 : ∀ j, j < st.1.length + 2 → j ≠ p + 2 → s1.2 j = st.2 j := by
      intro j h1 h2
      rw [hs1]; unfold tkPush tkAdd; dsimp only; rw [upd_other _ _ h2, upd_other _ _ (by omega)]
    obtain ⟨⟨i1, i2⟩, i3, i4⟩ := ih hx s1 p (by omega) (by omega)
    rw [e]
    have hml : m < fs.length := by omega
    refine ⟨⟨?_, ?_⟩, fun j h1 h2 => ?_, fun j h1 h2 => ?_⟩
    · rw [i1, f1, List.append_assoc]
      congr 1
      rw [show m' - m = (m' - (m + 1)) + 1 by omega, List.drop_eq_getElem_cons hml, List.take_succ_cons, List.getD_eq_getElem?_getD, List.getElem?_eq_getElem hml]
      rfl
    · rw [i2, r1, List.map_cons, List.append_assoc]
      congr 2
      rw [show ((st.1.length : Nat) : Int) = (m : Int) + -(n0 : Int) by omega]
      rfl
    · by_cases e : j = m
      · subst e
        rw [i4 _ (by omega) (by omega), show j - n0 + 2 = st.1.length + 2 by omega, r2, b]
        rfl
      · exact i3 j (by omega) h2
    · rw [i4 j (by omega) h2, r3 j h1 h2]
  | @node d r m x m' a b f ih1 ih2 =>
    intro hx st p hp hs
    have hle1 := b.le
    have hle2 := f.le
    have hml : m < fs.length := by omega
    obtain ⟨s0, hs0⟩ : ∃ s0, s0 = tkAdd st (fs.getD m noForm) := ⟨_, rfl⟩
    have f0 : s0.1 = st.1 ++ [fs.getD m noForm] := by rw [hs0]; rfl
    have l0 : s0.1.length = st.1.length + 1 := by rw [f0, List.length_append, List.length_singleton]
    obtain ⟨⟨i1, i2⟩, i3, i4⟩ := ih1 (by omega) s0 st.1.length (by omega) (by omega)
    have ht : tk fs.length fs ks m st = ((ks m).map Int.toNat).foldl (tkKid (tk fs.length fs ks) st.1.length) s0 := by
      rw [tk_eq, b.kids (by omega), hs0]
    rw [← ht] at i1 i2 i3 i4
    have lt1 : (tk fs.length fs ks m st).1.length + n0 = x := by
      rw [i1, List.length_append, l0, List.length_take, List.length_drop]; omega
    obtain ⟨s1, hs1⟩ : ∃ s1, s1 = tkPush (tk fs.length fs ks m st) p st.1.length := ⟨_, rfl⟩
    have e : (((m : Int) :: r).map Int.toNat).foldl (tkKid (tk fs.length fs ks) p) st = (r.map Int.toNat).foldl (tkKid (tk fs.length fs ks) p) s1 := by
      rw [List.map_cons, List.foldl_cons, Int.toNat_natCast, hs1]
      rfl
    have f1 : s1.1 = (tk fs.length fs ks m st).1 := by rw [hs1]; rfl
    have g1 : ∀ j, j ≠ p + 2 → s1.2 j = (tk fs.length fs ks m st).2 j := by
      intro j hj; rw [hs1]; unfold tkPush; dsimp only; rw [upd_other _ _ hj]
    have g0 : s1.2 (p + 2) = (tk fs.length fs ks m st).2 (p + 2) ++ [((st.1.length : Nat) : Int)] := by
      rw [hs1]; unfold tkPush; dsimp only; rw [upd_same]
    have z0 : ∀ j, j < st.1.length + 2 → s0.2 j = st.2 j := by
      intro j hj; rw [hs0]; unfold tkAdd; dsimp only; rw [upd_other _ _ (by omega)]
    have z1 : s0.2 (st.1.length + 2) = [] := by rw [hs0]; unfold tkAdd; dsimp only; rw [upd_same]
    obtain ⟨⟨k1, k2⟩, k3, k4⟩ := ih2 hx s1 p (by rw [f1]; omega) (by rw [f1]; omega)
    rw [e]
    refine ⟨⟨?_, ?_⟩, fun j h1 h2 => ?_, fun j h1 h2 => ?_⟩
    · rw [k1, f1, i1, f0, List.append_assoc, List.append_assoc]
      congr 1
      rw [show m' - m = (m' - (m + 1)) + 1 by omega, List.drop_eq_getElem_cons hml, List.take_succ_cons, List.getD_eq_getElem?_getD, List.getElem?_eq_getElem hml]
      show fs[m] :: (_ ++ _) = fs[m] :: _
      congr 1
      rw [show m' - (m + 1) = (x - (m + 1)) + (m' - x) by omega, List.take_add, List.drop_drop, show m + 1 + (x - (m + 1)) = x by omega]
      rfl
    · rw [k2, g0, i4 _ (by omega) (by omega), z0 _ (by omega), List.map_cons, List.append_assoc]
      congr 2
      rw [show ((st.1.length : Nat) : Int) = (m : Int) + -(n0 : Int) by omega]
      rfl
    · by_cases e2 : j < x
      · rw [k4 _ (by rw [f1]; omega) (by omega), g1 _ (by omega)]
        by_cases e3 : j = m
        · subst e3
          rw [show j - n0 + 2 = st.1.length + 2 by omega, i2, z1]
          rfl
        · exact i3 j (by omega) e2
      · exact k3 j (by omega) h2
    · rw [k4 j (by rw [f1]; omega) h2, g1 j h2, i4 j (by omega) (by omega), z0 j h1]
/-- What one form alone is. -/
theorem tk_one {fs : List FormP} {ks : Nat → List Int} {op : Nat → Bool} {d n x : Nat} (h : Fo op ks d [(n : Int)] n x) (hx : x ≤ fs.length) :
    n < x ∧ (tk fs.length fs ks n ([], fun _ => [])).1 = (fs.drop n).take (x - n) ∧ ∀ j, n ≤ j → j < x → ksOf (tk fs.length fs ks n ([], fun _ => [])).2 (j - n) = (ks j).map (fun y => y + -(n : Int)) := by
  cases h with
  | leaf a b f =>
    cases f
    have hml : n < fs.length := by omega
    have ht : tk fs.length fs ks n ([], fun _ => []) = tkAdd ([], fun _ => []) (fs.getD n noForm) := by rw [tk_eq, b]; rfl
    refine ⟨by omega, ?_, fun j h1 h2 => ?_⟩
    · rw [ht, show n + 1 - n = 0 + 1 by omega, List.drop_eq_getElem_cons hml, List.take_succ_cons, List.getD_eq_getElem?_getD, List.getElem?_eq_getElem hml]
      rfl
    · obtain rfl : j = n := by omega
      rw [ht, b]
      unfold ksOf
      rw [show j - j + 2 = 2 by omega]
      rfl
  | node a b f =>
    cases f
    have hle := b.le
    have hml : n < fs.length := by omega
    obtain ⟨⟨i1, i2⟩, i3, i4⟩ := take_fo (fs := fs) n b (by omega) (tkAdd ([], fun _ => []) (fs.getD n noForm)) 0 (by unfold tkAdd; simp) (by unfold tkAdd; simp; omega)
    have ht : tk fs.length fs ks n ([], fun _ => []) = ((ks n).map Int.toNat).foldl (tkKid (tk fs.length fs ks) 0) (tkAdd ([], fun _ => []) (fs.getD n noForm)) := by
      rw [tk_eq, b.kids (by omega)]
      rfl
    rw [← ht] at i1 i2 i3 i4
    refine ⟨by omega, ?_, fun j h1 h2 => ?_⟩
    · rw [i1, show x - n = (x - (n + 1)) + 1 by omega, List.drop_eq_getElem_cons hml, List.take_succ_cons, List.getD_eq_getElem?_getD, List.getElem?_eq_getElem hml]
      rfl
    · unfold ksOf
      by_cases e : j = n
      · subst e
        rw [show j - j + 2 = 0 + 2 by omega, i2]
        rfl
      · exact i3 j (by omega) h2
/-- A form that is alone is right, as large as it was. -/
theorem cut_right {fs : List FormP} {ks : Nat → List Int} {top : List Int} (h4 : fs.length ≤ 400) (ha : allB fs ks = true) (h : Fo (opOf fs) ks 12 top 0 fs.length) (n : Nat) (hn : n < fs.length) :
    ∃ st : TkSt, cutP fs ks (n : Int) = .ok st ∧ rightB st.1 (ksOf st.2) [0] = true ∧ st.1.length = sizeP fs.length ks (n : Int) ∧ st.1.length ≤ 400 ∧ (∀ f ∈ st.1, f ∈ fs) := by
  obtain ⟨x, hf, hx⟩ := h.sub n (Nat.zero_le _) hn
  obtain ⟨hnx, e1, e2⟩ := tk_one (fs := fs) hf hx
  have hlen := tk_len fs.length fs ks n ([], fun _ => [])
  obtain ⟨st, hst⟩ : ∃ st, st = tk fs.length fs ks n ([], fun _ => []) := ⟨_, rfl⟩
  rw [← hst] at e1 e2 hlen
  have hl : st.1.length = x - n := by rw [e1, List.length_take, List.length_drop]; omega
  have hb : (bel fs.length ks n).length < 400 := by
    have : ([] : List FormP).length = 0 := rfl
    simp only [List.length_nil] at hlen
    omega
  have hget : ∀ j, j < st.1.length → st.1.getD j noForm = fs.getD (j + n) noForm := by
    intro j hj
    rw [List.getD_eq_getElem?_getD, List.getD_eq_getElem?_getD, e1, List.getElem?_take, if_pos (by omega), List.getElem?_drop, Nat.add_comm]
  have hks : ∀ j, j < st.1.length → ksOf st.2 j = (ks (j + n)).map (fun y => y + -(n : Int)) := by
    intro j hj
    have := e2 (j + n) (by omega) (by omega)
    rw [show j + n - n = j by omega] at this
    exact this
  refine ⟨st, ?_, right_of_fo (by omega) ?_ ?_, ?_, by omega, fun f hf => ?_⟩
  · unfold cutP
    rw [if_pos ⟨by omega, by omega⟩, Int.toNat_natCast, if_pos hb, hst]
  · rw [allB_iff] at ha ⊢
    intro j hj
    rw [← ha (j + n) (by omega)]
    exact oneB_eq (hget j hj) (by rw [hks j hj, List.length_map])
  · have := hf.shift (op' := opOf st.1) (ks' := ksOf st.2) (-(n : Int)) 0 st.1.length (by omega) (by omega) fun j jj h1 h2 h3 => by
      have ej : j = jj + n := by omega
      subst ej
      exact ⟨by unfold opOf; rw [hget jj (by omega)], hks jj (by omega)⟩
    have e0 : ([((n : Nat) : Int)].map (fun x => x + -(n : Int))) = [0] := by simp [Int.add_right_neg]
    rw [e0] at this
    exact this
  · unfold sizeP
    rw [if_pos ⟨by omega, by omega⟩, Int.toNat_natCast, hlen]
    simp only [List.length_nil]
    omega
  · rw [e1] at hf
    exact List.mem_of_mem_drop (List.mem_of_mem_take hf)
end Go.Proofs.Ytiojfdgagdofiaa.HP
