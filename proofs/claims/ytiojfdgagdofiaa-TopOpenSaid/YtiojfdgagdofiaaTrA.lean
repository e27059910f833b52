/-
How the object that puts forms together lies in memory: forms, each with a row of its kids; the uppermost ones; those that are open.
-/
import Derived.Test.YtiojfdgagdofiaaHk2
set_option linter.unusedVariables false
set_option linter.unusedSimpArgs false
namespace Go.Proofs.Ytiojfdgagdofiaa.HP
open Go.RowKit Go.Proofs.Ytiojfdgagdofiaa.HK Go.Proofs.YtiojfdgagdofiaaW.PrintWords Go.Proofs.YtiojfdgagdofiaaW.PrintLast Go.Proofs.YtiojfdgagdofiaaW.PrintMore

def upd {α : Type} (f : Nat → α) (i : Nat) (x : α) : Nat → α := fun j => if j = i then x else f j
theorem upd_same {α : Type} (f : Nat → α) (i : Nat) (x : α) : upd f i x i = x := by simp [upd]
theorem upd_other {α : Type} (f : Nat → α) {i j : Nat} (x : α) (h : j ≠ i) : upd f i x j = f j := by simp [upd, h]

/-! ### rows of whole numbers, apart from each other -/
def RowsN (w : World) (base n : Nat) (vs : Nat → Value) (ls : Nat → List Int) : Prop :=
  (∀ i, i < n → w.ownsRow base 3 1 (vs i) (ls i).length (nums .i64 (ls i))) ∧ ∀ i j, i < n → j < n → i ≠ j → (vs i).ownBlock = none ∨ (vs i).ownBlock ≠ (vs j).ownBlock
theorem RowsN.move {w w1 : World} {base n : Nat} {vs : Nat → Value} {ls : Nat → List Int} (h : RowsN w base n vs ls) (hm : ∀ i k, i < n → (vs i).ownBlock = some k → w1.heap[k]? = w.heap[k]?) : RowsN w1 base n vs ls :=
  ⟨fun i hi => own_move (h.1 i hi) (fun k hk => hm i k hi hk), h.2⟩
theorem RowsN.drew {w : World} {base n : Nat} {vs : Nat → Value} {ls : Nat → List Int} (h : RowsN w base n vs ls) : RowsN w.drew base n vs ls := h.move fun _ _ _ _ => rfl
theorem RowsN.alloc {w : World} {base n : Nat} {vs : Nat → Value} {ls : Nat → List Int} (h : RowsN w base n vs ls) (o : Obj) : RowsN (w.alloc o) base n vs ls :=
  h.move fun i k hi hk => Below.heap_alloc w o k (own_lt (h.1 i hi) k hk)
theorem RowsN.below {w w1 : World} {base n : Nat} {vs : Nat → Value} {ls : Nat → List Int} (h : RowsN w base n vs ls) (hb : Below w.heap.size w w1) : RowsN w1 base n vs ls :=
  h.move fun i k hi hk => hb.block k (own_lt (h.1 i hi) k hk)
theorem RowsN.far {w : World} {base n g t : Nat} {cs : Array Value} {vs : Nat → Value} {ls : Nat → List Int} (h : RowsN w base n vs ls) (hg : w.heap[g]? = some (.cells cs t (0, 0))) (ht : 3 ≠ t) (j : Nat) (u : Value) : RowsN (w.setCell ⟨g, j, none⟩ u) base n vs ls :=
  h.move fun i k hi hk => by
    obtain ⟨cells, hc⟩ := own_typed (h.1 i hi) k hk
    exact Below.heap_setCell w _ u k (fun e => by
      have e' : k = g := e
      subst e'
      exact blk_ne hc hg ht rfl)
/-- What an append to a row of another type leaves. -/
theorem RowsN.grown {w w1 : World} {base n t base' m size : Nat} {v : Value} {xs : List Value} {vs : Nat → Value} {ls : Nat → List Int} (h : RowsN w base n vs ls) (ho : w.ownsRow base' t size v m xs) (ht : 3 ≠ t) (hg : w.grownBy w1 v.ownBlock) : RowsN w1 base n vs ls :=
  h.move fun i k hi hk => hg.block k (own_lt (h.1 i hi) k hk) (by
    intro e
    have := own_type_ne (h.1 i hi) ho ht
    rcases this with h0 | h0
    · rw [hk] at h0; cases h0
    · exact h0 (hk.trans e))
/-- What an append to row i leaves. -/
theorem RowsN.appended {w w1 : World} {base n : Nat} {vs : Nat → Value} {ls : Nat → List Int} {i : Nat} {x : Int} {v1 : Value} (h : RowsN w base n vs ls) (hi : i < n)
    (hown : w1.ownsRow base 3 1 v1 ((ls i).length + 1) (nums .i64 (ls i) ++ [.int .i64 x])) (hg : w.grownBy w1 (vs i).ownBlock) (hat : v1.ownBlock = (vs i).ownBlock ∨ ∃ b, v1.ownBlock = some b ∧ w.heap.size ≤ b) :
    RowsN w1 base n (upd vs i v1) (upd ls i (ls i ++ [x])) := by
  have hold : ∀ j, j < n → j ≠ i → ∀ k, (vs j).ownBlock = some k → k < w.heap.size ∧ some k ≠ (vs i).ownBlock := by
    intro j hj hne k hk
    refine ⟨own_lt (h.1 j hj) k hk, fun e => ?_⟩
    rcases h.2 j i hj hi hne with h0 | h0
    · rw [hk] at h0; cases h0
    · exact h0 (hk.trans e)
  refine ⟨fun j hj => ?_, fun j m hj hm hne => ?_⟩
  · by_cases e : j = i
    · subst e
      rw [upd_same, upd_same, List.length_append, List.length_singleton, nums_append]
      exact hown
    · rw [upd_other _ _ e, upd_other _ _ e]
      exact own_move (h.1 j hj) (fun k hk => hg.block k (hold j hj e k hk).1 (hold j hj e k hk).2)
  · by_cases ej : j = i
    · subst ej
      have em : m ≠ j := fun e => hne e.symm
      rw [upd_same, upd_other _ _ em]
      rcases hat with hat | ⟨b, hb, hle⟩
      · rw [hat]; exact h.2 j m hj hm hne
      · right
        rw [hb]
        intro e
        have := (hold m hm em b e.symm).1
        omega
    · by_cases em : m = i
      · subst em
        rw [upd_same, upd_other _ _ ej]
        rcases hat with hat | ⟨b, hb, hle⟩
        · rw [hat]; exact h.2 j m hj hm hne
        · cases hk : (vs j).ownBlock with
          | none => exact .inl rfl
          | some k =>
            right
            rw [hb]
            intro e
            have := (hold j hj ej k hk).1
            injection e with e
            omega
      · rw [upd_other _ _ ej, upd_other _ _ em]
        exact h.2 j m hj hm hne
/-- One row more, empty. -/
theorem RowsN.more {w : World} {base n : Nat} {vs : Nat → Value} {ls : Nat → List Int} (h : RowsN w base n vs ls) : RowsN w base (n + 1) (upd vs n (.slice none 0 0)) (upd ls n []) := by
  refine ⟨fun i hi => ?_, fun i j hi hj hne => ?_⟩
  · by_cases e : i = n
    · subst e; rw [upd_same, upd_same]; exact own_nil _ _ _ _
    · rw [upd_other _ _ e, upd_other _ _ e]; exact h.1 i (by omega)
  · by_cases e : i = n
    · subst e; rw [upd_same]; exact .inl rfl
    · rw [upd_other _ _ e]
      by_cases e2 : j = n
      · subst e2
        rw [upd_same]
        cases hk : (vs i).ownBlock with
        | none => exact .inl rfl
        | some k => exact .inr (by intro h; cases h)
      · rw [upd_other _ _ e2]; exact h.2 i j (by omega) (by omega) hne
/-- A row cut back. -/
theorem RowsN.cutBack {w : World} {base n : Nat} {vs : Nat → Value} {ls : Nat → List Int} {i m c : Nat} {A : Option Addr} (h : RowsN w base n vs ls) (hi : i < n) (hv : vs i = .slice A (ls i).length c) (hm : m ≤ (ls i).length) : RowsN w base n (upd vs i (.slice A m c)) (upd ls i ((ls i).take m)) := by
  have hb : (Value.slice A m c).ownBlock = (vs i).ownBlock := by rw [hv]; cases A <;> rfl
  refine ⟨fun j hj => ?_, fun j k hj hk hne => ?_⟩
  · by_cases e : j = i
    · subst e
      rw [upd_same, upd_same]
      have := h.1 j hj
      rw [hv] at this
      have := own_take this hm
      rw [Nat.mul_one] at this
      rw [List.length_take, Nat.min_eq_left hm]
      simpa [nums, List.map_take] using this
    · rw [upd_other _ _ e, upd_other _ _ e]; exact h.1 j hj
  · have hu : ∀ x, (upd vs i (.slice A m c) x).ownBlock = (vs x).ownBlock := by
      intro x
      by_cases e : x = i
      · subst e; rw [upd_same, hb]
      · rw [upd_other _ _ e]
    rw [hu, hu]
    exact h.2 j k hj hk hne

/-! ### forms -/
structure FormP where
  k : Int
  t : ByteArray
  n : Int
  at_ : Int
def fcell (f : FormP) (v : Value) : List Value := [.int .u8 f.k, .string f.t, .int .i64 f.n, v, .int .i64 f.at_]
def fcells : List FormP → Nat → (Nat → Value) → List Value
  | [], _, _ => []
  | f :: r, i, vs => fcell f (vs i) ++ fcells r (i + 1) vs
theorem fcells_length : ∀ (fs : List FormP) (i : Nat) (vs : Nat → Value), (fcells fs i vs).length = fs.length * 5
  | [], _, _ => by simp [fcells]
  | f :: r, i, vs => by
    rw [fcells, List.length_append, fcells_length r, List.length_cons]
    show 5 + _ = _
    omega
theorem fcells_snoc : ∀ (fs : List FormP) (f : FormP) (i : Nat) (vs : Nat → Value), fcells (fs ++ [f]) i vs = fcells fs i vs ++ fcell f (vs (i + fs.length))
  | [], f, i, vs => by simp [fcells]
  | g :: r, f, i, vs => by
    rw [List.cons_append, fcells, fcells_snoc r, fcells, List.append_assoc, List.length_cons, show i + 1 + r.length = i + (r.length + 1) by omega]
theorem fcells_congr : ∀ (fs : List FormP) (i : Nat) (vs us : Nat → Value), (∀ j, i ≤ j → j < i + fs.length → vs j = us j) → fcells fs i vs = fcells fs i us
  | [], _, _, _, _ => rfl
  | f :: r, i, vs, us, h => by
    rw [fcells, fcells, h i (Nat.le_refl _) (by simp), fcells_congr r (i + 1) vs us (fun j h1 h2 => h j (by omega) (by simp; omega))]
theorem fcells_get : ∀ (fs : List FormP) (i : Nat) (vs : Nat → Value) (j c : Nat) (f : FormP), fs[j]? = some f → c < 5 → (fcells fs i vs)[j * 5 + c]? = (fcell f (vs (i + j)))[c]?
  | [], _, _, j, _, _, h, _ => by simp at h
  | g :: r, i, vs, 0, c, f, h, hc => by
    obtain rfl : g = f := by simpa using h
    rw [fcells, Nat.zero_mul, Nat.zero_add, List.getElem?_append_left (by show c < 5; exact hc), Nat.add_zero]
  | g :: r, i, vs, j + 1, c, f, h, hc => by
    have := fcells_get r (i + 1) vs j c f (by simpa using h) hc
    rw [fcells, List.getElem?_append_right (by show 5 ≤ _; omega), show (j + 1) * 5 + c - (fcell g (vs i)).length = j * 5 + c by show (j + 1) * 5 + c - 5 = _; omega, this, show i + 1 + j = i + (j + 1) by omega]
theorem fcells_set : ∀ (fs : List FormP) (i : Nat) (vs : Nat → Value) (j : Nat) (x : Value), j < fs.length → (fcells fs i vs).set (j * 5 + 3) x = fcells fs i (upd vs (i + j) x)
  | [], _, _, _, _, h => by simp at h
  | g :: r, i, vs, 0, x, h => by
    rw [fcells, fcells, Nat.zero_mul, Nat.zero_add, List.set_append_left _ _ (by show 3 < 5; decide)]
    show (fcell g (vs i)).set 3 x ++ fcells r (i + 1) vs = fcell g (upd vs i x i) ++ fcells r (i + 1) (upd vs i x)
    rw [upd_same]
    rw [fcells_congr r (i + 1) vs (upd vs i x) (fun j h1 h2 => (upd_other _ _ (by omega)).symm)]
    rfl
  | g :: r, i, vs, j + 1, x, h => by
    rw [fcells, fcells, List.set_append_right _ _ (by show 5 ≤ _; omega), show (j + 1) * 5 + 3 - (fcell g (vs i)).length = j * 5 + 3 by show (j + 1) * 5 + 3 - 5 = _; omega, fcells_set r (i + 1) vs j x (by simpa using h), show i + 1 + j = i + (j + 1) by omega, upd_other _ _ (by omega)]

/-! ### the object -/
/-- It lies at w0's end: forms, rows 0 (uppermost), 1 (open), i + 2 (kids of form i). -/
def IsParser (w0 w : World) (fs : List FormP) (fv : Value) (vs : Nat → Value) (ls : Nat → List Int) : Prop :=
  w.heap[w0.heap.size]? = some (.cells #[fv, vs 0, vs 1] 70 (0, 0)) ∧ w.ownsRow w0.heap.size 40 5 fv fs.length (fcells fs 2 vs) ∧ RowsN w w0.heap.size (fs.length + 2) vs ls ∧ Below w0.heap.size w0 w
theorem IsParser.moved {w0 w w1 : World} {fs : List FormP} {fv : Value} {vs : Nat → Value} {ls : Nat → List Int} (h : IsParser w0 w fs fv vs ls) (hb : Below w.heap.size w w1) : IsParser w0 w1 fs fv vs ls :=
  ⟨blk_below h.1 hb, own_move h.2.1 (fun k hk => hb.block k (own_lt h.2.1 k hk)), h.2.2.1.below hb, below_then h.2.2.2 h.2.2.2.size hb⟩
theorem IsParser.drewN {w0 w : World} {fs : List FormP} {fv : Value} {vs : Nat → Value} {ls : Nat → List Int} (h : IsParser w0 w fs fv vs ls) (q : Nat) : IsParser w0 (w.drewN q) fs fv vs ls := h.moved (pw_below_drewN (Below.refl _ w) q)
theorem IsParser.c0 {w0 w : World} {fs : List FormP} {fv : Value} {vs : Nat → Value} {ls : Nat → List Int} (h : IsParser w0 w fs fv vs ls) : w.cell? ⟨w0.heap.size, 0, none⟩ = some fv := by rw [blk_cell h.1]; rfl
theorem IsParser.c1 {w0 w : World} {fs : List FormP} {fv : Value} {vs : Nat → Value} {ls : Nat → List Int} (h : IsParser w0 w fs fv vs ls) : w.cell? ⟨w0.heap.size, 1, none⟩ = some (vs 0) := by rw [blk_cell h.1]; rfl
theorem IsParser.c2 {w0 w : World} {fs : List FormP} {fv : Value} {vs : Nat → Value} {ls : Nat → List Int} (h : IsParser w0 w fs fv vs ls) : w.cell? ⟨w0.heap.size, 2, none⟩ = some (vs 1) := by rw [blk_cell h.1]; rfl
theorem IsParser.slice {w0 w : World} {fs : List FormP} {fv : Value} {vs : Nat → Value} {ls : Nat → List Int} (h : IsParser w0 w fs fv vs ls) (i : Nat) (hi : i < fs.length + 2) : ∃ A c, vs i = .slice A (ls i).length c := own_slice (h.2.2.1.1 i hi)
end Go.Proofs.Ytiojfdgagdofiaa.HP
