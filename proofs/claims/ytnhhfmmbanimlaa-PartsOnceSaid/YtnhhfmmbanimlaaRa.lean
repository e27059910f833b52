/-
How the object of layer parts lies in memory: each node's worker, each worker's nodes; and what keeps it.
-/
import Derived.Test.YtnhhfmmbanimlaaHk1
set_option linter.unusedVariables false
set_option linter.unusedSimpArgs false
namespace Go.Proofs.Ytnhhfmmbanimlaa.HP
open Go.RowKit Go.Proofs.Ytnhhfmmbanimlaa.HK Go.Proofs.YtnhhfmmbanimlaaW.PrintWords Go.Proofs.YtnhhfmmbanimlaaW.PrintLast Go.Proofs.YtnhhfmmbanimlaaW.PrintMore

/-- A slice that is read, in the form in which calls take it. -/
def IsInts (w : World) (A : Option Addr) (c : Nat) (l : List Int) : Prop := l.length ≤ c ∧ Kd.C (Kd.int .i64) w A l.length l
theorem IsInts.below {w w1 : World} {A : Option Addr} {c : Nat} {l : List Int} (h : IsInts w A c l) (hb : Below w.heap.size w w1) : IsInts w1 A c l := ⟨h.1, Kd.C_below h.2 hb⟩
theorem IsInts.of_R {w : World} {e base : Nat} {ok : Nat → Prop} {v : Value} {l : List Int} (h : Kd.R (Kd.int .i64) e w base ok v l) : ∃ A c, v = .slice A l.length c ∧ IsInts w A c l := by
  obtain ⟨A, c, he, hl, hC⟩ := Kd.R_reads h
  exact ⟨A, c, he, hl, hC⟩
theorem IsInts.of_own {w : World} {base : Nat} {v : Value} {l : List Int} (h : w.ownsRow base 3 1 v l.length (nums .i64 l)) : ∃ A c, v = .slice A l.length c ∧ IsInts w A c l :=
  IsInts.of_R (R_of_own (ok := fun _ => True) h (fun _ _ => trivial))

/-! ### five rows side by side -/
def upd {α : Type} (f : Nat → α) (i : Nat) (x : α) : Nat → α := fun j => if j = i then x else f j
theorem upd_same {α : Type} (f : Nat → α) (i : Nat) (x : α) : upd f i x i = x := by simp [upd]
theorem upd_other {α : Type} (f : Nat → α) {i j : Nat} (x : α) (h : j ≠ i) : upd f i x j = f j := by simp [upd, h]
def cellsAt (vs : Nat → Value) (n : Int) : Array Value := #[vs 0, vs 1, vs 2, vs 3, vs 4, .int .i64 n]
theorem cellsAt_get (vs : Nat → Value) (n : Int) {i : Nat} (h : i < 5) : (cellsAt vs n)[i]? = some (vs i) := by
  match i, h with
  | 0, _ | 1, _ | 2, _ | 3, _ | 4, _ => rfl
theorem cellsAt_set (vs : Nat → Value) (n : Int) {i : Nat} (h : i < 5) (x : Value) : (cellsAt vs n).setIfInBounds i x = cellsAt (upd vs i x) n := by
  match i, h with
  | 0, _ | 1, _ | 2, _ | 3, _ | 4, _ => rfl
/-- Five rows of whole numbers of the call's own, apart from each other. -/
def Rows5 (w : World) (base : Nat) (vs : Nat → Value) (ls : Nat → List Int) : Prop :=
  (∀ i, i < 5 → w.ownsRow base 3 1 (vs i) (ls i).length (nums .i64 (ls i))) ∧ ∀ i j, i < 5 → j < 5 → i ≠ j → (vs i).ownBlock = none ∨ (vs i).ownBlock ≠ (vs j).ownBlock
theorem Rows5.nil (w : World) (base : Nat) : Rows5 w base (fun _ => .slice none 0 0) (fun _ => []) :=
  ⟨fun _ _ => own_nil _ _ _ _, fun _ _ _ _ _ => .inl rfl⟩
/-- Any mover that leaves the rows' blocks alone. -/
theorem Rows5.move {w w1 : World} {base : Nat} {vs : Nat → Value} {ls : Nat → List Int} (h : Rows5 w base vs ls) (hm : ∀ i k, i < 5 → (vs i).ownBlock = some k → w1.heap[k]? = w.heap[k]?) : Rows5 w1 base vs ls :=
  ⟨fun i hi => own_move (h.1 i hi) (fun k hk => hm i k hi hk), h.2⟩
theorem Rows5.alloc {w : World} {base : Nat} {vs : Nat → Value} {ls : Nat → List Int} (h : Rows5 w base vs ls) (o : Obj) : Rows5 (w.alloc o) base vs ls :=
  h.move fun i k hi hk => Below.heap_alloc w o k (own_lt (h.1 i hi) k hk)
theorem Rows5.drew {w : World} {base : Nat} {vs : Nat → Value} {ls : Nat → List Int} (h : Rows5 w base vs ls) : Rows5 w.drew base vs ls := h.move fun _ _ _ _ => rfl
theorem Rows5.far {w : World} {base g t : Nat} {cs : Array Value} {vs : Nat → Value} {ls : Nat → List Int} (h : Rows5 w base vs ls) (hg : w.heap[g]? = some (.cells cs t (0, 0))) (ht : 3 ≠ t) (j : Nat) (u : Value) : Rows5 (w.setCell ⟨g, j, none⟩ u) base vs ls :=
  h.move fun i k hi hk => by
    obtain ⟨cells, hc⟩ := own_typed (h.1 i hi) k hk
    exact Below.heap_setCell w _ u k (fun e => by
      have e' : k = g := e
      subst e'
      exact blk_ne hc hg ht rfl)
/-- What an append to row i leaves. -/
theorem Rows5.appended {w w1 : World} {base : Nat} {vs : Nat → Value} {ls : Nat → List Int} {i : Nat} {x : Int} {v1 : Value} (h : Rows5 w base vs ls) (hi : i < 5)
    (hown : w1.ownsRow base 3 1 v1 ((ls i).length + 1) (nums .i64 (ls i) ++ [.int .i64 x])) (hg : w.grownBy w1 (vs i).ownBlock) (hat : v1.ownBlock = (vs i).ownBlock ∨ ∃ b, v1.ownBlock = some b ∧ w.heap.size ≤ b) :
    Rows5 w1 base (upd vs i v1) (upd ls i (ls i ++ [x])) := by
  have hold : ∀ j, j < 5 → j ≠ i → ∀ k, (vs j).ownBlock = some k → k < w.heap.size ∧ some k ≠ (vs i).ownBlock := by
    intro j hj hne k hk
    refine ⟨own_lt (h.1 j hj) k hk, fun e => ?_⟩
    rcases h.2 j i hj hi hne with h0 | h0
    · rw [hk] at h0; cases h0
    · exact h0 (hk.trans e)
  refine ⟨fun j hj => ?_, fun j m hj hm hne => ?_⟩
  · by_cases e : j = i
    · subst e
      rw [upd_same, upd_same, List.length_append, List.length_singleton, nums_append]
      exact hown
    · rw [upd_other _ _ e, upd_other _ _ e]
      exact own_move (h.1 j hj) (fun k hk => hg.block k (hold j hj e k hk).1 (hold j hj e k hk).2)
  · by_cases ej : j = i
    · subst ej
      have em : m ≠ j := fun e => hne e.symm
      rw [upd_same, upd_other _ _ em]
      rcases hat with hat | ⟨b, hb, hle⟩
      · rw [hat]; exact h.2 j m hj hm hne
      · right
        rw [hb]
        intro e
        have := (hold m hm em b e.symm).1
        omega
    · by_cases em : m = i
      · subst em
        rw [upd_same, upd_other _ _ ej]
        rcases hat with hat | ⟨b, hb, hle⟩
        · rw [hat]; exact h.2 j m hj hm hne
        · cases hk : (vs j).ownBlock with
          | none => exact .inl rfl
          | some k =>
            right
            rw [hb]
            intro e
            have := (hold j hj ej k hk).1
            injection e with e
            omega
      · rw [upd_other _ _ ej, upd_other _ _ em]
        exact h.2 j m hj hm hne

/-! ### the object -/
/-- A node's worker, by numbers. -/
def workerAt (W : Nat) (l : List Int) (v : Nat) : Nat := if v < l.length then (l.getD v 0 % (W : Int)).toNat else 0
theorem workerAt_lt {W : Nat} (h : 0 < W) (l : List Int) (v : Nat) : workerAt W l v < W := by
  unfold workerAt
  split
  · have h0 := Int.emod_nonneg (l.getD v 0) (show (W : Int) ≠ 0 by omega)
    have h1 := Int.emod_lt_of_pos (l.getD v 0) (show (0 : Int) < W by omega)
    omega
  · exact h
/-- The nodes of a worker, rising. -/
def nodesOf (f : Nat → Nat) (n i : Nat) : List Int := ((List.range n).filter (fun v => f v == i)).map (fun v : Nat => (v : Int))
def workersOf (f : Nat → Nat) (n : Nat) : List Int := (List.range n).map (fun v => (f v : Int))
theorem workersOf_length (f : Nat → Nat) (n : Nat) : (workersOf f n).length = n := by simp [workersOf]
theorem workersOf_succ (f : Nat → Nat) (n : Nat) : workersOf f (n + 1) = workersOf f n ++ [(f n : Int)] := by simp [workersOf, List.range_succ]
theorem nodesOf_succ (f : Nat → Nat) (n i : Nat) : nodesOf f (n + 1) i = nodesOf f n i ++ (if f n = i then [(n : Int)] else []) := by
  unfold nodesOf
  rw [List.range_succ, List.filter_append, List.map_append]
  by_cases h : f n = i
  · simp [h]
  · simp [h]
theorem nodesOf_length_le (f : Nat → Nat) (n i : Nat) : (nodesOf f n i).length ≤ n := by
  unfold nodesOf
  rw [List.length_map]
  exact Nat.le_trans (List.length_filter_le _ _) (by simp)
/-- What the five rows hold when n nodes have come. -/
def rowsAt (f : Nat → Nat) (n : Nat) : Nat → List Int := fun i => if i = 0 then workersOf f n else nodesOf f n (i - 1)
theorem rowsAt_succ (f : Nat → Nat) (n : Nat) (h : f n < 4) : rowsAt f (n + 1) = upd (upd (rowsAt f n) 0 (rowsAt f n 0 ++ [(f n : Int)])) (f n + 1) (rowsAt f n (f n + 1) ++ [(n : Int)]) := by
  funext i
  unfold rowsAt upd
  by_cases h0 : i = 0
  · subst h0
    simp [workersOf_succ]
  · by_cases h1 : i = f n + 1
    · subst h1
      simp [nodesOf_succ]
    · have : ¬ f n = i - 1 := by omega
      simp [h0, h1, nodesOf_succ, this]
theorem rowsAt_length_le (f : Nat → Nat) (n i : Nat) : (rowsAt f n i).length ≤ n := by
  unfold rowsAt
  split
  · rw [workersOf_length]; exact Nat.le_refl _
  · exact nodesOf_length_le _ _ _
/-- The object lies at block g: n nodes, W workers, f tells each node's worker. -/
def IsParts (w : World) (g : Nat) (f : Nat → Nat) (n W : Nat) : Prop :=
  ∃ (vs : Nat → Value), w.heap[g]? = some (.cells (cellsAt vs W) 64 (0, 0)) ∧ ∀ i, i < 5 → ∃ A c, vs i = .slice A (rowsAt f n i).length c ∧ IsInts w A c (rowsAt f n i)
theorem IsParts.below {w w1 : World} {g : Nat} {f : Nat → Nat} {n W : Nat} (h : IsParts w g f n W) (hb : Below w.heap.size w w1) : IsParts w1 g f n W := by
  obtain ⟨vs, hg, hr⟩ := h
  refine ⟨vs, blk_below hg hb, fun i hi => ?_⟩
  obtain ⟨A, c, e, hI⟩ := hr i hi
  exact ⟨A, c, e, hI.below hb⟩
end Go.Proofs.Ytnhhfmmbanimlaa.HP
