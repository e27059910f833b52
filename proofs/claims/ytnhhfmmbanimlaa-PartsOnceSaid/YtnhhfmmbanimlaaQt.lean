/-
What layer parts asks of layer perm: an order of a number, things in an order, told as contracts over the slices that calls take.
-/
import Derived.Test.YtnhhfmmbanimlaaQd
import Derived.Test.YtnhhfmmbanimlaaHAx5
import Derived.Test.YtnhhfmmbanimlaaPre
set_option linter.unusedVariables false
set_option linter.unusedSimpArgs false
namespace Go.Proofs.Ytnhhfmmbanimlaa.HQ
open Go.RowKit Go.Proofs.Ytnhhfmmbanimlaa.HK Go.Proofs.Ytnhhfmmbanimlaa.HA Go.Proofs.YtnhhfmmbanimlaaW.PrintWords Go.Proofs.YtnhhfmmbanimlaaW.PrintLast Go.Proofs.YtnhhfmmbanimlaaW.PrintMore

/-! ### Turn -/
def turned (p l : List Int) : List Int := p.map (fun i => rd l i)
def turnOf (p l : List Int) : List Int × Int := if rightOf p = true ∧ l.length = p.length then (turned p l, 0) else ([], 3)
theorem right_rd {p : List Int} (h : rightOf p = true) {i : Nat} (hi : i < p.length) : 0 ≤ rd p (i : Int) ∧ rd p (i : Int) < p.length := by
  rw [rd_nat]
  have hm : p.getD i 0 ∈ p := by rw [List.getD_eq_getElem?_getD, List.getElem?_eq_getElem hi]; exact List.getElem_mem hi
  exact (rightOf_ok h).2.1 _ hm
theorem turn_loop (p l : List Int) (hr : rightOf p = true) (hl : l.length = p.length) : ∀ (d i : Nat) (out : List Int), i + d = p.length → out.length = p.length → (∀ j : Nat, j < i → out.getD j 0 = (turned p l).getD j 0) →
    Ev (fun k => perm_Turn.l0 k l out p (p.length : Int) i) (turned p l, 0) := by
  have h16 := (rightOf_ok hr).1
  intro d
  induction d with
  | zero =>
    intro i out hi ho hj
    have e : out = turned p l := by
      apply List.ext_getElem (by rw [ho, turned, List.length_map])
      intro j h1 h2
      have := hj j (by omega)
      rwa [List.getD_eq_getElem?_getD, List.getD_eq_getElem?_getD, List.getElem?_eq_getElem h1, List.getElem?_eq_getElem h2] at this
    rw [e]
    refine Ev.step (fun k => ?_) (Ev.now (turned p l, (0 : Int)))
    simp only [perm_Turn.l0]
    rw [if_neg (by omega)]
  | succ d ih =>
    intro i out hi ho hj
    obtain ⟨hb0, hb1⟩ := right_rd hr (i := i) (by omega)
    refine Ev.step (fun k => ?_) (ih (i + 1) (out.set i (rd l (rd p i))) (by omega) (by rw [List.length_set]; exact ho) (fun j hj2 => ?_))
    · simp only [perm_Turn.l0]
      rw [if_pos (by omega), if_pos (by omega), if_pos (by omega), if_pos hb0, if_pos (by omega), if_pos (by omega), w1 (by omega) (by omega)]
      rfl
    · rw [List.getD_eq_getElem?_getD, List.getElem?_set]
      by_cases e : i = j
      · subst e
        rw [if_pos rfl, if_pos (by omega), turned, List.getD_eq_getElem?_getD, List.getElem?_map, List.getElem?_eq_getElem (by omega)]
        simp [rd, List.getD_eq_getElem?_getD, List.getElem?_eq_getElem (show i < p.length by omega)]
      · rw [if_neg e]
        have := hj j (by omega)
        rwa [List.getD_eq_getElem?_getD] at this
theorem turn_ev (p l : List Int) : Ev (fun k => perm_Turn.f k p l) (turnOf p l) := by
  have hR : perm_Right.f p = some (rightOf p) := rfl
  unfold turnOf perm_Turn.f
  simp only [hR, Option.bind_some]
  by_cases hr : rightOf p = true
  · by_cases hl : l.length = p.length
    · have h16 := (rightOf_ok hr).1
      rw [if_pos ⟨hr, hl⟩]
      have hne : ((l.length : Int) != (p.length : Int)) = false := by simp [hl]
      simp only [hr, hne, if_true]
      refine Ev.step (fun k => ?_) (turn_loop p l hr hl p.length 0 (List.replicate p.length 0) (by omega) (by simp) (fun j hj => by omega))
      simp only [perm_Turn.j0]
      rw [if_neg (by decide), if_pos (by omega), if_pos (by omega)]
      rfl
    · rw [if_neg (fun h => hl h.2)]
      have hne : ((l.length : Int) != (p.length : Int)) = true := by simp; omega
      simp only [hr, hne, if_true]
      refine Ev.step (fun k => ?_) (Ev.now (([] : List Int), (3 : Int)))
      simp only [perm_Turn.j0, if_true]
  · rw [if_neg (fun h => hr h.1)]
    simp only [hr]
    refine Ev.step (fun k => ?_) (Ev.now (([] : List Int), (3 : Int)))
    simp only [perm_Turn.j0, if_true]
    simp
theorem turned_len (p l : List Int) : (turned p l).length = p.length := by rw [turned, List.length_map]
/-- A slice that is read, in the form in which calls take it. -/
def IsInts (w : World) (A : Option Addr) (c : Nat) (l : List Int) : Prop := l.length ≤ c ∧ Kd.C (Kd.int .i64) w A l.length l
theorem IsInts.below {w w1 : World} {A : Option Addr} {c : Nat} {l : List Int} (h : IsInts w A c l) (hb : Below w.heap.size w w1) : IsInts w1 A c l := ⟨h.1, Kd.C_below h.2 hb⟩
theorem IsInts.of_R {w : World} {e base : Nat} {ok : Nat → Prop} {v : Value} {l : List Int} (h : Kd.R (Kd.int .i64) e w base ok v l) : ∃ A c, v = .slice A l.length c ∧ IsInts w A c l := by
  obtain ⟨A, c, he, hl, hC⟩ := Kd.R_reads h
  exact ⟨A, c, he, hl, hC⟩
theorem ints2 {f : FuncId} {args : Array Value} {w : World} {r : List Int} {x : Value} (h : Calls Try.prog f args w fun e w' => ∃ v0_ : Value, e = .returned (.tuple #[v0_, x]) ∧ Kd.R (Kd.int .i64) 3 w' w.heap.size (fun _ => True) v0_ r ∧ Below w.heap.size w w') :
    Calls Try.prog f args w fun e w' => ∃ A c, e = .returned (.tuple #[.slice A r.length c, x]) ∧ IsInts w' A c r ∧ Below w.heap.size w w' := by
  refine h.mono ?_
  rintro e w' ⟨v, rfl, hR, hb⟩
  obtain ⟨A, c, rfl, hI⟩ := IsInts.of_R hR
  exact ⟨A, c, rfl, hI, hb⟩
theorem from_call (n K : Nat) (P : List Int) (w : World) (hn : n ≤ 16) (hK : K ≤ 18446744073709551615) (hP : fromOf n (upTo n) (fac n) (K % fac n) = P) :
    Calls Try.prog 18 #[.int .i64 n, .int .u64 K] w fun e w' => ∃ A c, e = .returned (.tuple #[.slice A P.length c, .int .i64 0]) ∧ IsInts w' A c P ∧ Below w.heap.size w w' := by
  refine ints2 (perm_From.calls n K P 0 w ?_)
  unfold perm_From.f
  rw [if_pos ⟨by omega, by omega⟩, if_pos ⟨by omega, by omega⟩, ← hP]
  rfl
theorem turn_call (p l r : List Int) (A B : Option Addr) (c d : Nat) (w : World) (hp : IsInts w A c p) (hl : IsInts w B d l) (hr : turnOf p l = (r, 0)) :
    Calls Try.prog 30 #[.slice A p.length c, .slice B l.length d] w fun e w' => ∃ A c, e = .returned (.tuple #[.slice A r.length c, .int .i64 0]) ∧ IsInts w' A c r ∧ Below w.heap.size w w' := by
  obtain ⟨k, hk⟩ := (turn_ev p l).rounds
  exact ints2 (perm_Turn.calls k A c p B d l r 0 w hp.2 hp.1 hl.2 hl.1 (by rw [hk, hr]))
theorem same_call (l : List Int) (A B : Option Addr) (c d : Nat) (w : World) (hp : IsInts w A c l) (hl : IsInts w B d l) (hn : l.length ≤ 1000) :
    Calls Try.prog 24 #[.slice A l.length c, .slice B l.length d] w fun e w' => e = .returned (.bool true) ∧ Below w.heap.size w w' := by
  obtain ⟨k, hk⟩ := (same_ev l (by omega)).rounds
  refine (reticuleref01_SameInts.calls k A c l B d l true w hp.2 hp.1 hl.2 hl.1 hk).mono ?_
  rintro e w' ⟨rfl, hd⟩
  exact ⟨rfl, hd.below⟩

end Go.Proofs.Ytnhhfmmbanimlaa.HQ
