/-
Plain laws of rows: Groups as the program tells them and as the document does. No memory here.
-/
import Derived.Test.YtnhhfmmbanimlaaQe
import Derived.WalkSmall
set_option linter.unusedVariables false
set_option linter.unusedSimpArgs false
namespace Go.Proofs.Ytnhhfmmbanimlaa.HQ
open Go.RowKit Go.Proofs.Ytnhhfmmbanimlaa.HK Go.Proofs.Ytnhhfmmbanimlaa.HA Go.Proofs.YtnhhfmmbanimlaaW.PrintWords Go.Proofs.YtnhhfmmbanimlaaW.PrintLast Go.Proofs.YtnhhfmmbanimlaaW.PrintMore

/-- Does a row end behind the i-th thing? -/
def cutAt (c i : Nat) : Prop := i < 64 ∧ c / 2 ^ i % 2 = 1
instance (c i : Nat) : Decidable (cutAt c i) := by unfold cutAt; infer_instance
/-- The rows, from the i-th thing on (d are left), a row having begun at 'from'. -/
def rowsFrom (l : List Int) (c : Nat) : Nat → Nat → Nat → List (List Int) → List (List Int)
  | 0, _, _, rows => rows
  | d + 1, i, b, rows => if d = 0 ∨ cutAt c i then rowsFrom l c d (i + 1) (i + 1) (rows ++ [(l.take (i + 1)).drop b]) else rowsFrom l c d (i + 1) b rows
def rowsOf (l : List Int) (c : Nat) : List (List Int) := rowsFrom l c l.length 0 0 []

theorem shr_nat (c i : Nat) (h : i < 64) : shr .u64 (c : Int) (i : Int) = ((c / 2 ^ i : Nat) : Int) := by
  unfold shr
  rw [show IntKind.bits .u64 = 64 from rfl, Int.toNat_natCast, Nat.min_eq_left (by omega)]
  simp
theorem bit_nat (c i : Nat) (hc : c ≤ 18446744073709551615) (h : i < 64) : Go.bits .and .u64 (shr .u64 (c : Int) (i : Int)) 1 = ((c / 2 ^ i % 2 : Nat) : Int) := by
  rw [shr_nat c i h]
  have hle : c / 2 ^ i ≤ c := Nat.div_le_self _ _
  generalize c / 2 ^ i = q at *
  rw [and_one_u64 _ (by omega) (by omega)]
  omega
theorem groups_loop (l : List Int) (c : Nat) (hl : l.length ≤ 80) (hc : c ≤ 18446744073709551615) : ∀ (d i b : Nat) (rows : List (List Int)), i + d = l.length → b ≤ i → rows.length ≤ i →
    Ev (fun k => perm_Groups.l0 k l c rows b (l.length : Int) i) (rowsFrom l c d i b rows) := by
  intro d
  induction d with
  | zero =>
    intro i b rows hi hb hr
    refine Ev.step (fun k => ?_) (Ev.now rows)
    simp only [perm_Groups.l0]
    rw [if_neg (by omega)]
  | succ d ih =>
    intro i b rows hi hb hr
    have ew : wrap64 ((i : Int) + 1) = ((i + 1 : Nat) : Int) := w1 (by omega) (by omega)
    have el : wrap64 ((l.length : Int) - 1) = ((l.length : Int) - 1) := by unfold wrap64; omega
    have hcl : ∀ k, ((slices_Clone.f ((l.take ((((i + 1 : Nat) : Int)) : Int).toNat).drop (b : Int).toNat)).bind fun t => if rows.length < 5864062014805 then perm_Groups.l0 k l c (rows ++ [t]) ((i + 1 : Nat) : Int) (l.length : Int) ((i + 1 : Nat) : Int) else none) = perm_Groups.l0 k l c (rows ++ [(l.take (i + 1)).drop b]) ((i + 1 : Nat) : Int) (l.length : Int) ((i + 1 : Nat) : Int) := by
      intro k
      have hle : ((l.take (i + 1)).drop b).length ≤ 80 := by rw [List.length_drop, List.length_take]; omega
      unfold slices_Clone.f
      rw [Int.toNat_natCast, Int.toNat_natCast, if_pos (by omega)]
      simp only [Option.bind_some]
      rw [if_pos (by omega)]
    rw [rowsFrom]
    by_cases hlast : d = 0
    · rw [if_pos (.inl hlast)]
      refine Ev.step (fun k => ?_) (ih (i + 1) (i + 1) (rows ++ [(l.take (i + 1)).drop b]) (by omega) (Nat.le_refl _) (by rw [List.length_append, List.length_singleton]; omega))
      simp only [perm_Groups.l0]
      rw [if_pos (by omega), el, ew, if_pos (by omega), if_pos (by omega), if_pos (by omega), if_pos (by omega)]
      exact hcl k
    · by_cases hcut : cutAt c i
      · rw [if_pos (.inr hcut)]
        refine Ev.step (fun k => ?_) (ih (i + 1) (i + 1) (rows ++ [(l.take (i + 1)).drop b]) (by omega) (Nat.le_refl _) (by rw [List.length_append, List.length_singleton]; omega))
        simp only [perm_Groups.l0]
        rw [if_pos (by omega), el, ew, if_neg (by omega), if_neg (by have := hcut.1; omega), if_pos (by omega), bit_nat c i hc hcut.1, if_neg (by rw [hcut.2]; decide), if_pos (by omega), if_pos (by omega), if_pos (by omega)]
        exact hcl k
      · rw [if_neg (fun h => h.elim hlast hcut)]
        refine Ev.step (fun k => ?_) (ih (i + 1) b rows (by omega) (by omega) (by omega))
        simp only [perm_Groups.l0]
        rw [if_pos (by omega), el, ew, if_neg (by omega)]
        by_cases h64 : i < 64
        · have h0 : c / 2 ^ i % 2 = 0 := by
            have : ¬ c / 2 ^ i % 2 = 1 := fun h => hcut ⟨h64, h⟩
            omega
          rw [if_neg (by omega), if_pos (by omega), bit_nat c i hc h64, h0, if_pos (show ((0 : Nat) : Int) = 0 from rfl)]
        · rw [if_pos (by omega)]
theorem groups_ev (l : List Int) (c : Nat) (hl : l.length ≤ 80) (hc : c ≤ 18446744073709551615) : Ev (fun k => perm_Groups.f k l c) (rowsOf l c) :=
  Ev.congr (fun k => rfl) (groups_loop l c hl hc l.length 0 0 [] (by omega) (by omega) (by simp))
theorem refGroups_loop (l : List Int) (c : Nat) (hl : l.length ≤ 80) (hc : c ≤ 18446744073709551615) : ∀ (d i b : Nat) (rows : List (List Int)), i + d = l.length → b ≤ i → rows.length ≤ i →
    Ev (fun k => reticuleref02_Groups.l0 k l ((c / 2 ^ i : Nat) : Int) rows ((l.take i).drop b) i) (rowsFrom l c d i b rows) := by
  intro d
  induction d with
  | zero =>
    intro i b rows hi hb hr
    refine Ev.step (fun k => ?_) (Ev.now rows)
    simp only [reticuleref02_Groups.l0]
    rw [if_neg (by omega)]
  | succ d ih =>
    intro i b rows hi hb hr
    have ew : wrap64 ((i : Int) + 1) = ((i + 1 : Nat) : Int) := w1 (by omega) (by omega)
    have el : wrap64 ((l.length : Int) - 1) = ((l.length : Int) - 1) := by unfold wrap64; omega
    have hlb : ((l.take i).drop b).length ≤ 80 := by rw [List.length_drop, List.length_take]; omega
    have hrow : (l.take i).drop b ++ [rd l (i : Int)] = (l.take (i + 1)).drop b := by
      rw [take_snoc (by omega), List.drop_append_of_le_length (by rw [List.length_take]; omega), rd_nat]
    have hq : ((c / 2 ^ (i + 1) : Nat) : Int) = IntKind.u64.wrap (Int.tdiv ((c / 2 ^ i : Nat) : Int) 2) := by
      have hle : c / 2 ^ i ≤ c := Nat.div_le_self _ _
      rw [Nat.pow_succ, ← Nat.div_div_eq_div_mul]
      generalize c / 2 ^ i = q at *
      rw [show Int.tdiv (q : Int) 2 = ((q / 2 : Nat) : Int) from rfl]
      exact (u64w (by omega) (by omega)).symm
    have hm : Int.tmod ((c / 2 ^ i : Nat) : Int) 2 = ((c / 2 ^ i % 2 : Nat) : Int) := rfl
    have hnew : ([] : List Int) = (l.take (i + 1)).drop (i + 1) := by rw [List.drop_of_length_le (by rw [List.length_take]; omega)]
    rw [rowsFrom]
    by_cases hcut : cutAt c i
    · rw [if_pos (.inr hcut)]
      refine Ev.step (fun k => ?_) (ih (i + 1) (i + 1) (rows ++ [(l.take (i + 1)).drop b]) (by omega) (Nat.le_refl _) (by rw [List.length_append, List.length_singleton]; omega))
      simp only [reticuleref02_Groups.l0]
      rw [if_pos (by omega), if_pos (by omega), if_pos (by omega), hrow]
      simp only [Option.bind_some]
      rw [if_pos (by have := hcut.1; omega), hm, if_pos (by rw [hcut.2]; rfl), if_pos (by omega), ← hq, ew, ← hnew]
    · by_cases hlast : d = 0
      · rw [if_pos (.inl hlast)]
        refine Ev.step (fun k => ?_) (ih (i + 1) (i + 1) (rows ++ [(l.take (i + 1)).drop b]) (by omega) (Nat.le_refl _) (by rw [List.length_append, List.length_singleton]; omega))
        simp only [reticuleref02_Groups.l0]
        rw [if_pos (by omega), if_pos (by omega), if_pos (by omega), hrow]
        simp only [Option.bind_some]
        by_cases h64 : i < 64
        · have h0 : c / 2 ^ i % 2 = 0 := by
            have : ¬ c / 2 ^ i % 2 = 1 := fun h => hcut ⟨h64, h⟩
            omega
          rw [if_pos (by omega), hm, h0, if_neg (by decide), el, if_pos (by omega), if_pos (by omega), ← hq, ew, ← hnew]
        · rw [if_neg (by omega), el, if_pos (by omega), if_pos (by omega), ← hq, ew, ← hnew]
      · rw [if_neg (fun h => h.elim hlast hcut)]
        refine Ev.step (fun k => ?_) (ih (i + 1) b rows (by omega) (by omega) (by omega))
        simp only [reticuleref02_Groups.l0]
        rw [if_pos (by omega), if_pos (by omega), if_pos (by omega), hrow]
        simp only [Option.bind_some]
        by_cases h64 : i < 64
        · have h0 : c / 2 ^ i % 2 = 0 := by
            have : ¬ c / 2 ^ i % 2 = 1 := fun h => hcut ⟨h64, h⟩
            omega
          rw [if_pos (by omega), hm, h0, if_neg (by decide), el, if_neg (by omega), ← hq, ew]
        · rw [if_neg (by omega), el, if_neg (by omega), ← hq, ew]
theorem refGroups_ev (l : List Int) (c : Nat) (hl : l.length ≤ 80) (hc : c ≤ 18446744073709551615) : Ev (fun k => reticuleref02_Groups.f k l c) (rowsOf l c) := by
  refine Ev.congr (fun k => ?_) (refGroups_loop l c hl hc l.length 0 0 [] (by omega) (by omega) (by simp))
  unfold reticuleref02_Groups.f
  rw [Nat.pow_zero, Nat.div_one]
  rfl
/-- The rows are all not empty, at most as many as the things, and together just the things. -/
theorem rowsFrom_join (l : List Int) (c : Nat) : ∀ (d i b : Nat) (rows : List (List Int)), i + d = l.length → b ≤ i → (d = 0 → b = i) → rows.flatten = l.take b → (∀ r ∈ rows, r ≠ []) → rows.length ≤ b →
    (rowsFrom l c d i b rows).flatten = l ∧ (∀ r ∈ rowsFrom l c d i b rows, r ≠ []) ∧ (rowsFrom l c d i b rows).length ≤ l.length := by
  intro d
  induction d with
  | zero =>
    intro i b rows hi hb hbi hj hne hln
    obtain rfl := hbi rfl
    rw [rowsFrom]
    exact ⟨by rw [hj, List.take_of_length_le (by omega)], hne, by omega⟩
  | succ d ih =>
    intro i b rows hi hb _ hj hne hln
    rw [rowsFrom]
    split
    · refine ih (i + 1) (i + 1) _ (by omega) (Nat.le_refl _) (fun _ => rfl) ?_ ?_ ?_
      · rw [List.flatten_append, hj, List.flatten_cons, List.flatten_nil, List.append_nil]
        have e : l.take b = (l.take (i + 1)).take b := by rw [List.take_take, Nat.min_eq_left (by omega)]
        rw [e, List.take_append_drop]
      · intro r hr
        rcases List.mem_append.1 hr with hr | hr
        · exact hne r hr
        · rw [List.mem_singleton.1 hr]
          intro h0
          have := congrArg List.length h0
          rw [List.length_drop, List.length_take] at this
          simp at this
          omega
      · rw [List.length_append, List.length_singleton]; omega
    · rename_i h
      exact ih (i + 1) b rows (by omega) (by omega) (fun h0 => absurd (.inl h0) h) hj hne hln
theorem rowsOf_join (l : List Int) (c : Nat) : (rowsOf l c).flatten = l ∧ (∀ r ∈ rowsOf l c, r ≠ []) ∧ (rowsOf l c).length ≤ l.length :=
  rowsFrom_join l c l.length 0 0 [] (by omega) (by omega) (fun h => rfl) (by simp) (by simp) (by simp)

/-! ### are rows the same? -/
theorem rd_rows (rows : List (List Int)) (i : Nat) : rd_L2 rows (i : Int) = rows.getD i [] := by simp [rd_L2]
theorem sameRows_inner (rows : List (List Int)) (i : Nat) (hi : i < rows.length) (hr : rows.length ≤ 100) (hlen : ∀ r ∈ rows, r.length ≤ 100) (hnext : Ev (fun k => reticuleref02_SameRows.l0 k rows rows ((i + 1 : Nat) : Int)) true) :
    ∀ (d j : Nat), j + d = (rows.getD i []).length → Ev (fun k => reticuleref02_SameRows.l1 k rows rows i j) true := by
  have hm : rows.getD i [] ∈ rows := by rw [List.getD_eq_getElem?_getD, List.getElem?_eq_getElem hi]; exact List.getElem_mem hi
  have hle := hlen _ hm
  intro d
  induction d with
  | zero =>
    intro j hj
    refine Ev.step (fun k => ?_) hnext
    simp only [reticuleref02_SameRows.l1]
    rw [if_pos (by omega), if_pos (by omega), rd_rows, if_neg (by omega), w1 (by omega) (by omega)]
    rfl
  | succ d ih =>
    intro j hj
    refine Ev.step (fun k => ?_) (ih (j + 1) (by omega))
    simp only [reticuleref02_SameRows.l1]
    rw [if_pos (by omega), if_pos (by omega), rd_rows, if_pos (by omega), if_pos (by omega), if_pos (by omega), if_pos (by omega), if_pos trivial, w1 (by omega) (by omega)]
    rfl
theorem sameRows_outer (rows : List (List Int)) (hr : rows.length ≤ 100) (hlen : ∀ r ∈ rows, r.length ≤ 100) : ∀ (d i : Nat), i + d = rows.length → Ev (fun k => reticuleref02_SameRows.l0 k rows rows i) true := by
  intro d
  induction d with
  | zero =>
    intro i hi
    refine Ev.step (fun k => ?_) (Ev.now true)
    simp only [reticuleref02_SameRows.l0]
    rw [if_neg (by omega)]
  | succ d ih =>
    intro i hi
    refine Ev.step (fun k => ?_) (sameRows_inner rows i (by omega) hr hlen (ih (i + 1) (by omega)) (rows.getD i []).length 0 (by omega))
    simp only [reticuleref02_SameRows.l0]
    rw [if_pos (by omega), if_pos (by omega), if_pos (by omega), if_pos trivial]
    rfl
theorem sameRows_ev (rows : List (List Int)) (hr : rows.length ≤ 100) (hlen : ∀ r ∈ rows, r.length ≤ 100) : Ev (fun k => reticuleref02_SameRows.f k rows rows) true :=
  Ev.congr (fun k => by unfold reticuleref02_SameRows.f; rw [if_pos rfl]; rfl) (sameRows_outer rows hr hlen rows.length 0 (by omega))
end Go.Proofs.Ytnhhfmmbanimlaa.HQ
