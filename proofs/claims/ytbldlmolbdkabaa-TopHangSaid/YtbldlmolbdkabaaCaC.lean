/-
graph.made over the translation: each node's edges that leave, and that come.
-/
import Derived.Test.YtbldlmolbdkabaaCaB
set_option linter.unusedVariables false
set_option linter.unusedSimpArgs false
namespace Go.Proofs.Ytbldlmolbdkabaa.HP
open Go.RowKit Go.Proofs.YtbldlmolbdkabaaW.PrintWords Go.Proofs.YtbldlmolbdkabaaW.PrintLast Go.Proofs.YtbldlmolbdkabaaW.PrintMore
open Go.ChangeMaps (setBlock heap_setBlock_same heap_setBlock_other)
/-- The places of the first i edges for which q holds. -/
def pick (q : Nat → Bool) (i : Nat) : List Int := ((List.range i).filter q).map fun (j : Nat) => (j : Int)
theorem pick_succ (q : Nat → Bool) (i : Nat) : pick q (i + 1) = pick q i ++ if q i = true then [(i : Int)] else [] := by
  unfold pick
  rw [List.range_succ, List.filter_append, List.map_append]
  congr 1
  by_cases h : q i = true <;> simp [h]
theorem pick_len (q : Nat → Bool) (i : Nat) : (pick q i).length ≤ i := by
  unfold pick
  rw [List.length_map]
  exact Nat.le_trans (List.length_filter_le _ _) (by simp)
theorem mem_pick {q : Nat → Bool} {i : Nat} {x : Int} (h : x ∈ pick q i) : ∃ j : Nat, x = (j : Int) ∧ j < i ∧ q j = true := by
  unfold pick at h
  obtain ⟨j, hj, rfl⟩ := List.mem_map.1 h
  obtain ⟨h1, h2⟩ := List.mem_filter.1 hj
  exact ⟨j, rfl, List.mem_range.1 h1, h2⟩
theorem pick_mem {q : Nat → Bool} {i j : Nat} (hj : j < i) (hq : q j = true) : (j : Int) ∈ pick q i := by
  unfold pick
  exact List.mem_map.2 ⟨j, List.mem_filter.2 ⟨List.mem_range.2 hj, hq⟩, rfl⟩
def fromB (es : List EdgeP) (v j : Nat) : Bool := decide ((es.getD j noEdge).1 = (v : Int))
def toB (es : List EdgeP) (v j : Nat) : Bool := decide ((es.getD j noEdge).2 = (v : Int))
/-- A row of n rows of numbers, as it is read. -/
def SRow (w : World) (O n : Nat) (f : Nat → List Int) : Prop := O < w.heap.size ∧ ∀ v, v < n → ∃ B c, w.cell? ⟨O, v, none⟩ = some (.slice B (f v).length c) ∧ (f v).length ≤ c ∧ IRow w B (f v)
theorem SRow.below {w w1 : World} {O n : Nat} {f : Nat → List Int} (h : SRow w O n f) (hb : Below w.heap.size w w1) : SRow w1 O n f :=
  ⟨Nat.lt_of_lt_of_le h.1 hb.size, fun v hv => by
    obtain ⟨B, c, h1, h2, h3⟩ := h.2 v hv
    exact ⟨B, c, by rw [hb.cell (p := ⟨O, v, none⟩) h.1]; exact h1, h2, h3.below hb⟩⟩
/-- A graph, as it is read. -/
def IsGraph (w : World) (G n : Nat) (es : List EdgeP) : Prop :=
  ∃ AE cE O I M, w.heap[G]? = some (.cells #[.slice AE es.length cE, .slice (some ⟨O, 0, none⟩) n n, .slice (some ⟨I, 0, none⟩) n n, .map (some M)] 67 (0, 0)) ∧ ERow w AE es ∧ SRow w O n (fun v => pick (fromB es v) es.length) ∧ SRow w I n (fun v => pick (toB es v) es.length)
theorem IsGraph.below {w w1 : World} {G n : Nat} {es : List EdgeP} (h : IsGraph w G n es) (hb : Below w.heap.size w w1) : IsGraph w1 G n es := by
  obtain ⟨AE, cE, O, I, M, h1, h2, h3, h4⟩ := h
  exact ⟨AE, cE, O, I, M, blk_below h1 hb, h2.below hb, h3.below hb, h4.below hb⟩
/-- While edges are put in. -/
structure MS (w0 w : World) (G O I M : Nat) (AE : Option Addr) (cE n : Nat) (es : List EdgeP) (k : Nat) (rv : Nat → Value) (rl : Nat → List Int) (me : Array MapEntry) (clock : Nat) : Prop where
  obj : w.heap[G]? = some (.cells #[.slice AE es.length cE, .slice (some ⟨O, 0, none⟩) n n, .slice (some ⟨I, 0, none⟩) n n, .map (some M)] 67 (0, 0))
  out : w.ownsRow w0.heap.size 37 1 (.slice (some ⟨O, 0, none⟩) n n) n ((List.range n).map rv)
  inn : w.ownsRow w0.heap.size 37 1 (.slice (some ⟨I, 0, none⟩) n n) n ((List.range n).map fun v => rv (n + v))
  oi : O ≠ I
  rows : RowsN w w0.heap.size (n + n) rv rl
  map : MapRows w w0.heap.size M k (n + n) me clock rv
  below : Below w0.heap.size w0 w
  mb : w0.heap.size ≤ M
variable {w0 w w1 : World} {G O I M : Nat} {AE : Option Addr} {cE n : Nat} {es : List EdgeP} {k : Nat} {rv : Nat → Value} {rl : Nat → List Int} {me : Array MapEntry} {clock : Nat}
theorem MS.moved (h : MS w0 w G O I M AE cE n es k rv rl me clock) (hb : Below w.heap.size w w1) : MS w0 w1 G O I M AE cE n es k rv rl me clock :=
  ⟨blk_below h.obj hb, own_move h.out (fun b e => hb.block b (own_lt h.out b e)), own_move h.inn (fun b e => hb.block b (own_lt h.inn b e)), h.oi, h.rows.below hb, h.map.below hb, below_then h.below h.below.size hb, h.mb⟩
theorem MS.outCell (h : MS w0 w G O I M AE cE n es k rv rl me clock) {v : Nat} (hv : v < n) : w.cell? ⟨O, v, none⟩ = some (rv v) := by
  rw [h.out.cellAt v (by omega)]
  simp [hv]
theorem MS.innCell (h : MS w0 w G O I M AE cE n es k rv rl me clock) {v : Nat} (hv : v < n) : w.cell? ⟨I, v, none⟩ = some (rv (n + v)) := by
  rw [h.inn.cellAt v (by omega)]
  simp [hv]
theorem set_upd {f : Nat → Value} {n j : Nat} (x : Value) (hj : j < n) : ((List.range n).map f).set j x = (List.range n).map (upd f j x) := by
  apply List.ext_getElem?
  intro i
  rw [List.getElem?_set]
  by_cases e : j = i
  · subst e
    simp [hj, upd_same]
  · rw [if_neg e, List.getElem?_map, List.getElem?_map]
    by_cases hi : i < n
    · rw [List.getElem?_range hi, Option.map_some, Option.map_some, upd_other _ _ (fun h => e h.symm)]
    · rw [List.getElem?_eq_none (by simp; omega)]
      rfl
theorem upd_far {f : Nat → Value} {n j : Nat} (x : Value) (hj : j < n) : (List.range n).map (fun v => upd f j x (n + v)) = (List.range n).map fun v => f (n + v) :=
  List.map_congr_left fun v _ => upd_other _ _ (by omega)
theorem upd_near {f : Nat → Value} {n j : Nat} (x : Value) : (List.range n).map (upd f (n + j) x) = (List.range n).map f :=
  List.map_congr_left fun v hv => upd_other _ _ (by have := List.mem_range.1 hv; omega)
theorem upd_shift {f : Nat → Value} {n j : Nat} (x : Value) : (fun v => upd f (n + j) x (n + v)) = upd (fun v => f (n + v)) j x := by
  funext v
  by_cases e : v = j
  · subst e; rw [upd_same, upd_same]
  · rw [upd_other _ _ e, upd_other _ _ (by omega)]
/-- A number has been put behind row j. -/
theorem MS.append (h : MS w0 w G O I M AE cE n es k rv rl me clock) {j : Nat} (hj : j < n + n) {w3 : World} {v3 : Value} {x : Int} (hown : w3.ownsRow w0.heap.size 3 1 v3 ((rl j).length + 1) (nums .i64 (rl j) ++ [.int .i64 x])) (hg : w.grownBy w3 (rv j).ownBlock)
    (hat : v3.ownBlock = (rv j).ownBlock ∨ ∃ b, v3.ownBlock = some b ∧ w.heap.size ≤ b) (hb : Below w0.heap.size w0 w3) :
    w3.heap[G]? = some (.cells #[.slice AE es.length cE, .slice (some ⟨O, 0, none⟩) n n, .slice (some ⟨I, 0, none⟩) n n, .map (some M)] 67 (0, 0)) ∧ w3.ownsRow w0.heap.size 37 1 (.slice (some ⟨O, 0, none⟩) n n) n ((List.range n).map rv) ∧
      w3.ownsRow w0.heap.size 37 1 (.slice (some ⟨I, 0, none⟩) n n) n ((List.range n).map fun v => rv (n + v)) ∧ RowsN w3 w0.heap.size (n + n) (upd rv j v3) (upd rl j (rl j ++ [x])) ∧ MapRows w3 w0.heap.size M k (n + n) me clock (upd rv j v3) := by
  have hr := h.rows.1 j hj
  exact ⟨blk_grown h.obj hg (own_ne hr h.obj (by decide)), own_other h.out hg (own_type_ne h.out hr (by decide)), own_other h.inn hg (own_type_ne h.inn hr (by decide)), h.rows.appended hj hown hg hat, h.map.pushed hj hr hg hat⟩
theorem MS.pushOut (h : MS w0 w G O I M AE cE n es k rv rl me clock) {j : Nat} (hj : j < n) {w3 : World} {v3 : Value} {x : Int} (hown : w3.ownsRow w0.heap.size 3 1 v3 ((rl j).length + 1) (nums .i64 (rl j) ++ [.int .i64 x])) (hg : w.grownBy w3 (rv j).ownBlock)
    (hat : v3.ownBlock = (rv j).ownBlock ∨ ∃ b, v3.ownBlock = some b ∧ w.heap.size ≤ b) (hb : Below w0.heap.size w0 w3) : MS w0 (w3.setCell ⟨O, j, none⟩ v3) G O I M AE cE n es k (upd rv j v3) (upd rl j (rl j ++ [x])) me clock := by
  obtain ⟨a1, a2, a3, a4, a5⟩ := h.append (by omega) hown hg hat hb
  obtain ⟨cells, hO⟩ := own_typed a2 O rfl
  refine ⟨blk_far a1 (blk_ne a1 hO (by decide)) _, ?_, ?_, h.oi, a4.far hO (by decide) _ _, a5.setCell hO (by decide) _ _, hb.setCell (p := ⟨O, j, none⟩) (own_base a2 O rfl) _, h.mb⟩
  · rw [← set_upd v3 hj]
    exact (a2.stored j v3).1
  · rw [upd_far v3 hj]
    exact own_setCell a3 (fun e => h.oi (Option.some.inj e)) _
theorem MS.pushIn (h : MS w0 w G O I M AE cE n es k rv rl me clock) {j : Nat} (hj : j < n) {w3 : World} {v3 : Value} {x : Int} (hown : w3.ownsRow w0.heap.size 3 1 v3 ((rl (n + j)).length + 1) (nums .i64 (rl (n + j)) ++ [.int .i64 x])) (hg : w.grownBy w3 (rv (n + j)).ownBlock)
    (hat : v3.ownBlock = (rv (n + j)).ownBlock ∨ ∃ b, v3.ownBlock = some b ∧ w.heap.size ≤ b) (hb : Below w0.heap.size w0 w3) : MS w0 (w3.setCell ⟨I, j, none⟩ v3) G O I M AE cE n es k (upd rv (n + j) v3) (upd rl (n + j) (rl (n + j) ++ [x])) me clock := by
  obtain ⟨a1, a2, a3, a4, a5⟩ := h.append (by omega) hown hg hat hb
  obtain ⟨cells, hI⟩ := own_typed a3 I rfl
  refine ⟨blk_far a1 (blk_ne a1 hI (by decide)) _, ?_, ?_, h.oi, a4.far hI (by decide) _ _, a5.setCell hI (by decide) _ _, hb.setCell (p := ⟨I, j, none⟩) (own_base a3 I rfl) _, h.mb⟩
  · rw [upd_near v3]
    exact own_setCell a2 (fun e => h.oi (Option.some.inj e).symm) _
  · rw [upd_shift v3, ← set_upd v3 hj]
    exact (a3.stored j v3).1
/-- The map's entry has been put in: all else stands. -/
theorem MS.entered (h : MS w0 w G O I M AE cE n es k rv rl me clock) {w3 : World} {v0 : Value} {zs : List Int} {me' : Array MapEntry} {clock' : Nat} (hv0 : w.ownsRow w0.heap.size 3 1 v0 zs.length (nums .i64 zs)) (hfar : ∀ j, j < n + n → v0.ownBlock = none ∨ v0.ownBlock ≠ (rv j).ownBlock)
    (hsame : ∀ b, b < w.heap.size → b ≠ M → some b ≠ v0.ownBlock → w3.heap[b]? = w.heap[b]?) (hmap : MapRows w3 w0.heap.size M (k + 1) (n + n) me' clock' rv) (hb : Below w0.heap.size w0 w3) : MS w0 w3 G O I M AE cE n es (k + 1) rv rl me' clock' := by
  have hcell : ∀ {g t : Nat} {cs : Array Value}, w.heap[g]? = some (.cells cs t (0, 0)) → t ≠ 3 → w3.heap[g]? = w.heap[g]? := by
    intro g t cs hg ht
    refine hsame g (blk_lt hg) (fun e => ?_) (fun e => ?_)
    · subst e; rw [h.map.blk] at hg; cases hg
    · exact own_ne hv0 hg (fun e2 => ht e2.symm) e
  refine ⟨(hcell h.obj (by decide)).trans h.obj, own_move h.out (fun b e => ?_), own_move h.inn (fun b e => ?_), h.oi, ⟨fun j hj => own_move (h.rows.1 j hj) (fun b e => ?_), h.rows.2⟩, hmap, hb, h.mb⟩
  · obtain ⟨cells, hc⟩ := own_typed h.out b e
    exact hcell hc (by decide)
  · obtain ⟨cells, hc⟩ := own_typed h.inn b e
    exact hcell hc (by decide)
  · refine hsame b (own_lt (h.rows.1 j hj) b e) (fun e2 => ?_) (fun e2 => ?_)
    · exact own_row_ne_map (h.rows.1 j hj) h.map.blk (by rw [e, e2])
    · rcases hfar j hj with h0 | h0
      · rw [h0] at e2; cases e2
      · exact h0 (by rw [e, e2])
/-- When all edges are in. -/
theorem MS.graph (h : MS w0 w G O I M AE cE n es k rv rl me clock) (hE : ERow w0 AE es) (hout : ∀ v, v < n → rl v = pick (fromB es v) es.length) (hin : ∀ v, v < n → rl (n + v) = pick (toB es v) es.length) : IsGraph w G n es := by
  have hrow : ∀ j, j < n + n → ∃ B c, rv j = .slice B (rl j).length c ∧ (rl j).length ≤ c ∧ IRow w B (rl j) := by
    intro j hj
    obtain ⟨A, c, e, hc, hI⟩ := own_irow (h.rows.1 j hj)
    exact ⟨A, c, e, hc, hI⟩
  refine ⟨AE, cE, O, I, M, h.obj, hE.below h.below, ⟨own_lt h.out O rfl, fun v hv => ?_⟩, ⟨own_lt h.inn I rfl, fun v hv => ?_⟩⟩
  · obtain ⟨B, c, e, hc, hI⟩ := hrow v (by omega)
    dsimp only
    rw [← hout v hv]
    exact ⟨B, c, by rw [h.outCell hv, e], hc, hI⟩
  · obtain ⟨B, c, e, hc, hI⟩ := hrow (n + v) (by omega)
    dsimp only
    rw [← hin v hv]
    exact ⟨B, c, by rw [h.innCell hv, e], hc, hI⟩
theorem made_own (w : World) (base O n : Nat) (h : w.heap[O]? = some (.cells (madeCells #[.slice none 0 0] n) 37 (0, 0))) (hb : base ≤ O) (hn : n ≤ maxLen) : w.ownsRow base 37 1 (.slice (some ⟨O, 0, none⟩) n n) n ((List.range n).map fun _ => .slice none 0 0) := by
  refine ⟨by simp, .inr ⟨O, n, _, rfl, hb, h, Nat.le_refl _, hn, by rw [size_madeCells, Nat.mul_one], ?_⟩⟩
  unfold madeCells
  simp [Nat.mod_one]
  exact List.take_of_length_le (by simp)
theorem MS.start {w : World} (hobj : w.heap[G]? = some (.cells #[.slice AE es.length cE, .slice (some ⟨O, 0, none⟩) n n, .slice (some ⟨I, 0, none⟩) n n, .map (some M)] 67 (0, 0))) (hO : w.heap[O]? = some (.cells (madeCells #[.slice none 0 0] n) 37 (0, 0))) (hI : w.heap[I]? = some (.cells (madeCells #[.slice none 0 0] n) 37 (0, 0)))
    (hM : w.heap[M]? = some (.map #[] 0)) (hoi : O ≠ I) (h1 : w0.heap.size ≤ O) (h2 : w0.heap.size ≤ I) (h3 : w0.heap.size ≤ M) (hn : n ≤ maxLen) (hb : Below w0.heap.size w0 w) : MS w0 w G O I M AE cE n es 0 (fun _ => .slice none 0 0) (fun _ => []) #[] 0 :=
  ⟨hobj, made_own w _ O n hO h1 hn, made_own w _ I n hI h2 hn, hoi, ⟨fun j _ => own_nil _ _ _ _, fun i j _ _ _ => .inl rfl⟩, MapRows.made _ _ _ _ _ hM, hb, h3⟩
end Go.Proofs.Ytbldlmolbdkabaa.HP
