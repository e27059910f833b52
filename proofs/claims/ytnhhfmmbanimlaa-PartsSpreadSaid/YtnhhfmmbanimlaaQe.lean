/-
Plain laws of rows and of turned things: Groups as the program tells them and as the document does; Turn, Back and Then. No memory here.
-/
import Derived.Test.YtnhhfmmbanimlaaQd
import Derived.Test.YtnhhfmmbanimlaaHAx5
import Derived.Test.YtnhhfmmbanimlaaHAx6
import Derived.Test.YtnhhfmmbanimlaaHAx7
set_option linter.unusedVariables false
set_option linter.unusedSimpArgs false
namespace Go.Proofs.Ytnhhfmmbanimlaa.HQ
open Go.RowKit Go.Proofs.Ytnhhfmmbanimlaa.HK Go.Proofs.Ytnhhfmmbanimlaa.HA Go.Proofs.YtnhhfmmbanimlaaW.PrintWords Go.Proofs.YtnhhfmmbanimlaaW.PrintLast

/-! ### Turn -/
def turned (p l : List Int) : List Int := p.map (fun i => rd l i)
def turnOf (p l : List Int) : List Int × Int := if rightOf p = true ∧ l.length = p.length then (turned p l, 0) else ([], 3)
theorem right_rd {p : List Int} (h : rightOf p = true) {i : Nat} (hi : i < p.length) : 0 ≤ rd p (i : Int) ∧ rd p (i : Int) < p.length := by
  rw [rd_nat]
  have hm : p.getD i 0 ∈ p := by rw [List.getD_eq_getElem?_getD, List.getElem?_eq_getElem hi]; exact List.getElem_mem hi
  exact (rightOf_ok h).2.1 _ hm
theorem turn_loop (p l : List Int) (hr : rightOf p = true) (hl : l.length = p.length) : ∀ (d i : Nat) (out : List Int), i + d = p.length → out.length = p.length → (∀ j : Nat, j < i → out.getD j 0 = (turned p l).getD j 0) →
    Ev (fun k => perm_Turn.l0 k l out p (p.length : Int) i) (turned p l, 0) := by
  have h16 := (rightOf_ok hr).1
  intro d
  induction d with
  | zero =>
    intro i out hi ho hj
    have e : out = turned p l := by
      apply List.ext_getElem (by rw [ho, turned, List.length_map])
      intro j h1 h2
      have := hj j (by omega)
      rwa [List.getD_eq_getElem?_getD, List.getD_eq_getElem?_getD, List.getElem?_eq_getElem h1, List.getElem?_eq_getElem h2] at this
    rw [e]
    refine Ev.step (fun k => ?_) (Ev.now (turned p l, (0 : Int)))
    simp only [perm_Turn.l0]
    rw [if_neg (by omega)]
  | succ d ih =>
    intro i out hi ho hj
    obtain ⟨hb0, hb1⟩ := right_rd hr (i := i) (by omega)
    refine Ev.step (fun k => ?_) (ih (i + 1) (out.set i (rd l (rd p i))) (by omega) (by rw [List.length_set]; exact ho) (fun j hj2 => ?_))
    · simp only [perm_Turn.l0]
      rw [if_pos (by omega), if_pos (by omega), if_pos (by omega), if_pos hb0, if_pos (by omega), if_pos (by omega), w1 (by omega) (by omega)]
      rfl
    · rw [List.getD_eq_getElem?_getD, List.getElem?_set]
      by_cases e : i = j
      · subst e
        rw [if_pos rfl, if_pos (by omega), turned, List.getD_eq_getElem?_getD, List.getElem?_map, List.getElem?_eq_getElem (by omega)]
        simp [rd, List.getD_eq_getElem?_getD, List.getElem?_eq_getElem (show i < p.length by omega)]
      · rw [if_neg e]
        have := hj j (by omega)
        rwa [List.getD_eq_getElem?_getD] at this
theorem turn_ev (p l : List Int) : Ev (fun k => perm_Turn.f k p l) (turnOf p l) := by
  have hR : perm_Right.f p = some (rightOf p) := rfl
  unfold turnOf perm_Turn.f
  simp only [hR, Option.bind_some]
  by_cases hr : rightOf p = true
  · by_cases hl : l.length = p.length
    · have h16 := (rightOf_ok hr).1
      rw [if_pos ⟨hr, hl⟩]
      have hne : ((l.length : Int) != (p.length : Int)) = false := by simp [hl]
      simp only [hr, hne, if_true]
      refine Ev.step (fun k => ?_) (turn_loop p l hr hl p.length 0 (List.replicate p.length 0) (by omega) (by simp) (fun j hj => by omega))
      simp only [perm_Turn.j0]
      rw [if_neg (by decide), if_pos (by omega), if_pos (by omega)]
      rfl
    · rw [if_neg (fun h => hl h.2)]
      have hne : ((l.length : Int) != (p.length : Int)) = true := by simp; omega
      simp only [hr, hne, if_true]
      refine Ev.step (fun k => ?_) (Ev.now (([] : List Int), (3 : Int)))
      simp only [perm_Turn.j0, if_true]
  · rw [if_neg (fun h => hr h.1)]
    simp only [hr]
    refine Ev.step (fun k => ?_) (Ev.now (([] : List Int), (3 : Int)))
    simp only [perm_Turn.j0, if_true]
    simp
theorem refTurn_loop (p l : List Int) (hr : rightOf p = true) (hl : l.length = p.length) : ∀ (d i : Nat), i + d = p.length → Ev (fun k => reticuleref02_Turn.l0 k p l ((turned p l).take i) i) (turned p l, 0) := by
  have h16 := (rightOf_ok hr).1
  have hlen : (turned p l).length = p.length := by rw [turned, List.length_map]
  intro d
  induction d with
  | zero =>
    intro i hi
    refine Ev.step (fun k => ?_) (Ev.now (turned p l, (0 : Int)))
    simp only [reticuleref02_Turn.l0]
    rw [if_neg (by omega), List.take_of_length_le (by omega)]
  | succ d ih =>
    intro i hi
    obtain ⟨hb0, hb1⟩ := right_rd hr (i := i) (by omega)
    refine Ev.step (fun k => ?_) (ih (i + 1) (by omega))
    simp only [reticuleref02_Turn.l0]
    have ht : (turned p l).take i ++ [rd l (rd p (i : Int))] = (turned p l).take (i + 1) := by
      rw [take_snoc (by omega)]
      congr 2
      rw [turned, List.getD_eq_getElem?_getD, List.getElem?_map, List.getElem?_eq_getElem (by omega)]
      simp [rd, List.getD_eq_getElem?_getD, List.getElem?_eq_getElem (show i < p.length by omega)]
    rw [if_pos (by omega), if_pos (by omega), if_pos hb0, if_pos (by omega), if_pos (by rw [List.length_take]; omega), w1 (by omega) (by omega), ht]
    rfl
theorem refTurn_ev (p l : List Int) : Ev (fun k => reticuleref02_Turn.f k p l) (turnOf p l) := by
  unfold turnOf
  refine Ev.congr (f := fun k => (reticuleref02_Right.f k p).bind fun t => if t = true then reticuleref02_Turn.j0 k p l ((l.length : Int) != (p.length : Int)) else reticuleref02_Turn.j0 k p l true) (fun k => rfl) ?_
  refine Ev.bind (refRight_ev p) ?_
  by_cases hr : rightOf p = true
  · simp only [hr, if_true]
    by_cases hl : l.length = p.length
    · have hne : ((l.length : Int) != (p.length : Int)) = false := by simp [hl]
      simp only [hl, hne, and_self, if_true]
      refine Ev.step (fun k => ?_) (refTurn_loop p l hr hl p.length 0 (by omega))
      simp only [reticuleref02_Turn.j0]
      rw [show ((p.length : Int) != (p.length : Int)) = false by simp, if_neg (by decide)]
      rfl
    · rw [if_neg (fun h => hl h.2)]
      have hne : ((l.length : Int) != (p.length : Int)) = true := by simp; omega
      simp only [hne]
      refine Ev.step (fun k => ?_) (Ev.now (([] : List Int), (3 : Int)))
      simp only [reticuleref02_Turn.j0, if_true]
  · rw [if_neg (fun h => hr h.1)]
    simp only [hr]
    refine Ev.step (fun k => ?_) (Ev.now (([] : List Int), (3 : Int)))
    simp only [reticuleref02_Turn.j0, if_true]
    simp
theorem turnOf_len (p l : List Int) : (turnOf p l).1.length ≤ 16 := by
  unfold turnOf
  split
  case isTrue h => rw [turned, List.length_map]; exact (rightOf_ok h.1).1
  case isFalse h => exact Nat.zero_le _

/-! ### Then -/
def thenOf (p q : List Int) : List Int × Int := if rightOf p = true then turnOf q p else ([], 3)
theorem then_ev (p q : List Int) : Ev (fun k => perm_Then.f k p q) (thenOf p q) := by
  have hR : perm_Right.f p = some (rightOf p) := rfl
  unfold thenOf perm_Then.f
  simp only [hR, Option.bind_some]
  by_cases hr : rightOf p = true
  · simp only [hr, if_true]
    refine Ev.bind (turn_ev q p) ?_
    exact Ev.now _
  · simp only [hr]
    exact Ev.now _
theorem refThen_ev (p q : List Int) : Ev (fun k => reticuleref02_Then.f k p q) (thenOf p q) := by
  unfold thenOf
  refine Ev.congr (f := fun k => (reticuleref02_Right.f k p).bind fun t => if t = true then ((reticuleref02_Right.f k q).bind fun u => if u = true then ((reticuleref02_Turn.f k q p).bind fun b => some (b.1, b.2)) else some (([] : List Int), (3 : Int))) else some (([] : List Int), (3 : Int))) (fun k => rfl) ?_
  refine Ev.bind (refRight_ev p) ?_
  by_cases hr : rightOf p = true
  · simp only [hr, if_true]
    refine Ev.bind (refRight_ev q) ?_
    by_cases hq : rightOf q = true
    · simp only [hq, if_true]
      refine Ev.bind (refTurn_ev q p) ?_
      exact Ev.now _
    · simp only [hq]
      rw [turnOf, if_neg (fun h => hq h.1)]
      exact Ev.now _
  · simp only [hr]
    exact Ev.now _
theorem thenOf_len (p q : List Int) : (thenOf p q).1.length ≤ 16 := by
  unfold thenOf
  split
  · exact turnOf_len q p
  · exact Nat.zero_le _

/-! ### Back -/
def backStep : List Int → Nat → Nat → List Int → List Int
  | _, _, 0, out => out
  | p, i, d + 1, out => backStep p (i + 1) d (out.set (rd p (i : Int)).toNat (i : Int))
def backOf (p : List Int) : List Int × Int := if rightOf p = true then (backStep p 0 p.length (List.replicate p.length 0), 0) else ([], 3)
theorem backStep_len : ∀ (p : List Int) (d i : Nat) (out : List Int), (backStep p i d out).length = out.length
  | _, 0, _, _ => rfl
  | p, d + 1, i, out => by rw [backStep, backStep_len p d, List.length_set]
theorem back_loop (p : List Int) (hr : rightOf p = true) : ∀ (d i : Nat) (out : List Int), i + d = p.length → out.length = p.length → Ev (fun k => perm_Back.l0 k out p (p.length : Int) i) (backStep p i d out, 0) := by
  have h16 := (rightOf_ok hr).1
  intro d
  induction d with
  | zero =>
    intro i out hi ho
    refine Ev.step (fun k => ?_) (Ev.now (backStep p i 0 out, (0 : Int)))
    simp only [perm_Back.l0]
    rw [if_neg (by omega)]
    rfl
  | succ d ih =>
    intro i out hi ho
    obtain ⟨hb0, hb1⟩ := right_rd hr (i := i) (by omega)
    refine Ev.step (fun k => ?_) (ih (i + 1) (out.set (rd p (i : Int)).toNat (i : Int)) (by omega) (by rw [List.length_set]; exact ho))
    simp only [perm_Back.l0]
    rw [if_pos (by omega), if_pos (by omega), if_pos (by omega), if_pos hb0, if_pos (by omega), w1 (by omega) (by omega)]
    rfl
theorem back_ev (p : List Int) : Ev (fun k => perm_Back.f k p) (backOf p) := by
  have hR : perm_Right.f p = some (rightOf p) := rfl
  unfold backOf perm_Back.f
  simp only [hR, Option.bind_some]
  by_cases hr : rightOf p = true
  · have h16 := (rightOf_ok hr).1
    simp only [hr, if_true]
    refine Ev.congr (fun k => ?_) (back_loop p hr p.length 0 (List.replicate p.length 0) (by omega) (by simp))
    rw [if_pos (by omega), if_pos (by omega)]
    rfl
  · simp only [hr]
    exact Ev.now _
theorem refBack_loop (p : List Int) (hr : rightOf p = true) : ∀ (d i : Nat) (out : List Int), i + d = p.length → out.length = p.length → Ev (fun k => reticuleref02_Back.l0 k p out i) (backStep p i d out, 0) := by
  have h16 := (rightOf_ok hr).1
  intro d
  induction d with
  | zero =>
    intro i out hi ho
    refine Ev.step (fun k => ?_) (Ev.now (backStep p i 0 out, (0 : Int)))
    simp only [reticuleref02_Back.l0]
    rw [if_neg (by omega)]
    rfl
  | succ d ih =>
    intro i out hi ho
    obtain ⟨hb0, hb1⟩ := right_rd hr (i := i) (by omega)
    refine Ev.step (fun k => ?_) (ih (i + 1) (out.set (rd p (i : Int)).toNat (i : Int)) (by omega) (by rw [List.length_set]; exact ho))
    simp only [reticuleref02_Back.l0]
    rw [if_pos (by omega), if_pos (by omega), if_pos hb0, if_pos (by omega), w1 (by omega) (by omega)]
    rfl
theorem refBack_ev (p : List Int) : Ev (fun k => reticuleref02_Back.f k p) (backOf p) := by
  unfold backOf
  refine Ev.congr (f := fun k => (reticuleref02_Right.f k p).bind fun t => if t = true then (if 0 ≤ (p.length : Int) then (if ((p.length : Int) : Int).toNat ≤ 35184372088832 then reticuleref02_Back.l0 k p (List.replicate ((p.length : Int) : Int).toNat 0) 0 else none) else none) else some (([] : List Int), (3 : Int))) (fun k => rfl) ?_
  refine Ev.bind (refRight_ev p) ?_
  by_cases hr : rightOf p = true
  · have h16 := (rightOf_ok hr).1
    simp only [hr, if_true]
    refine Ev.congr (fun k => ?_) (refBack_loop p hr p.length 0 (List.replicate p.length 0) (by omega) (by simp))
    rw [if_pos (by omega), if_pos (by omega)]
    rfl
  · simp only [hr]
    exact Ev.now _
theorem backOf_len (p : List Int) : (backOf p).1.length ≤ 16 := by
  unfold backOf
  split
  case isTrue h => rw [backStep_len, List.length_replicate]; exact (rightOf_ok h).1
  case isFalse h => exact Nat.zero_le _
end Go.Proofs.Ytnhhfmmbanimlaa.HQ
