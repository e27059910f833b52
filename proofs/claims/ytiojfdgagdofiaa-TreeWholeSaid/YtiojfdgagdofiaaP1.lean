/-
Texts joined: TrA, TrB, TrC, TrD, TrE, TrF, TrG, TrH, TrI.
-/
import Derived.Test.YtiojfdgagdofiaaHk2
import Derived.Test.YtiojfdgagdofiaaHk3
import Derived.WalkLawsBesides
import Derived.StillTailTactics
import Derived.BigRegion
import Derived.Deep.RegionHeld3
import Derived.Deep.AppendLies
/-
How the object that puts forms together lies in memory: forms, each with a row of its kids; the uppermost ones; those that are open.
-/
set_option linter.unusedVariables false
set_option linter.unusedSimpArgs false
namespace Go.Proofs.Ytiojfdgagdofiaa.HP
open Go.RowKit Go.Proofs.Ytiojfdgagdofiaa.HK Go.Proofs.YtiojfdgagdofiaaW.PrintWords Go.Proofs.YtiojfdgagdofiaaW.PrintLast Go.Proofs.YtiojfdgagdofiaaW.PrintMore

def upd {α : Type} (f : Nat → α) (i : Nat) (x : α) : Nat → α := fun j => if j = i then x else f j
theorem upd_same {α : Type} (f : Nat → α) (i : Nat) (x : α) : upd f i x i = x := by simp [upd]
theorem upd_other {α : Type} (f : Nat → α) {i j : Nat} (x : α) (h : j ≠ i) : upd f i x j = f j := by simp [upd, h]

/-! ### rows of whole numbers, apart from each other -/
def RowsN (w : World) (base n : Nat) (vs : Nat → Value) (ls : Nat → List Int) : Prop :=
  (∀ i, i < n → w.ownsRow base 3 1 (vs i) (ls i).length (nums .i64 (ls i))) ∧ ∀ i j, i < n → j < n → i ≠ j → (vs i).ownBlock = none ∨ (vs i).ownBlock ≠ (vs j).ownBlock
theorem RowsN.move {w w1 : World} {base n : Nat} {vs : Nat → Value} {ls : Nat → List Int} (h : RowsN w base n vs ls) (hm : ∀ i k, i < n → (vs i).ownBlock = some k → w1.heap[k]? = w.heap[k]?) : RowsN w1 base n vs ls :=
  ⟨fun i hi => own_move (h.1 i hi) (fun k hk => hm i k hi hk), h.2⟩
theorem RowsN.drew {w : World} {base n : Nat} {vs : Nat → Value} {ls : Nat → List Int} (h : RowsN w base n vs ls) : RowsN w.drew base n vs ls := h.move fun _ _ _ _ => rfl
theorem RowsN.alloc {w : World} {base n : Nat} {vs : Nat → Value} {ls : Nat → List Int} (h : RowsN w base n vs ls) (o : Obj) : RowsN (w.alloc o) base n vs ls :=
  h.move fun i k hi hk => Below.heap_alloc w o k (own_lt (h.1 i hi) k hk)
theorem RowsN.below {w w1 : World} {base n : Nat} {vs : Nat → Value} {ls : Nat → List Int} (h : RowsN w base n vs ls) (hb : Below w.heap.size w w1) : RowsN w1 base n vs ls :=
  h.move fun i k hi hk => hb.block k (own_lt (h.1 i hi) k hk)
theorem RowsN.far {w : World} {base n g t : Nat} {cs : Array Value} {vs : Nat → Value} {ls : Nat → List Int} (h : RowsN w base n vs ls) (hg : w.heap[g]? = some (.cells cs t (0, 0))) (ht : 3 ≠ t) (j : Nat) (u : Value) : RowsN (w.setCell ⟨g, j, none⟩ u) base n vs ls :=
  h.move fun i k hi hk => by
    obtain ⟨cells, hc⟩ := own_typed (h.1 i hi) k hk
    exact Below.heap_setCell w _ u k (fun e => by
      have e' : k = g := e
      subst e'
      exact blk_ne hc hg ht rfl)
/-- What an append to a row of another type leaves. -/
theorem RowsN.grown {w w1 : World} {base n t base' m size : Nat} {v : Value} {xs : List Value} {vs : Nat → Value} {ls : Nat → List Int} (h : RowsN w base n vs ls) (ho : w.ownsRow base' t size v m xs) (ht : 3 ≠ t) (hg : w.grownBy w1 v.ownBlock) : RowsN w1 base n vs ls :=
  h.move fun i k hi hk => hg.block k (own_lt (h.1 i hi) k hk) (by
    intro e
    have := own_type_ne (h.1 i hi) ho ht
    rcases this with h0 | h0
    · rw [hk] at h0; cases h0
    · exact h0 (hk.trans e))
/-- What an append to row i leaves. -/
theorem RowsN.appended {w w1 : World} {base n : Nat} {vs : Nat → Value} {ls : Nat → List Int} {i : Nat} {x : Int} {v1 : Value} (h : RowsN w base n vs ls) (hi : i < n)
    (hown : w1.ownsRow base 3 1 v1 ((ls i).length + 1) (nums .i64 (ls i) ++ [.int .i64 x])) (hg : w.grownBy w1 (vs i).ownBlock) (hat : v1.ownBlock = (vs i).ownBlock ∨ ∃ b, v1.ownBlock = some b ∧ w.heap.size ≤ b) :
    RowsN w1 base n (upd vs i v1) (upd ls i (ls i ++ [x])) := by
  have hold : ∀ j, j < n → j ≠ i → ∀ k, (vs j).ownBlock = some k → k < w.heap.size ∧ some k ≠ (vs i).ownBlock := by
    intro j hj hne k hk
    refine ⟨own_lt (h.1 j hj) k hk, fun e => ?_⟩
    rcases h.2 j i hj hi hne with h0 | h0
    · rw [hk] at h0; cases h0
    · exact h0 (hk.trans e)
  refine ⟨fun j hj => ?_, fun j m hj hm hne => ?_⟩
  · by_cases e : j = i
    · subst e
      rw [upd_same, upd_same, List.length_append, List.length_singleton, nums_append]
      exact hown
    · rw [upd_other _ _ e, upd_other _ _ e]
      exact own_move (h.1 j hj) (fun k hk => hg.block k (hold j hj e k hk).1 (hold j hj e k hk).2)
  · by_cases ej : j = i
    · subst ej
      have em : m ≠ j := fun e => hne e.symm
      rw [upd_same, upd_other _ _ em]
      rcases hat with hat | ⟨b, hb, hle⟩
      · rw [hat]; exact h.2 j m hj hm hne
      · right
        rw [hb]
        intro e
        have := (hold m hm em b e.symm).1
        omega
    · by_cases em : m = i
      · subst em
        rw [upd_same, upd_other _ _ ej]
        rcases hat with hat | ⟨b, hb, hle⟩
        · rw [hat]; exact h.2 j m hj hm hne
        · cases hk : (vs j).ownBlock with
          | none => exact .inl rfl
          | some k =>
            right
            rw [hb]
            intro e
            have := (hold j hj ej k hk).1
            injection e with e
            omega
      · rw [upd_other _ _ ej, upd_other _ _ em]
        exact h.2 j m hj hm hne
/-- One row more, empty. -/
theorem RowsN.more {w : World} {base n : Nat} {vs : Nat → Value} {ls : Nat → List Int} (h : RowsN w base n vs ls) : RowsN w base (n + 1) (upd vs n (.slice none 0 0)) (upd ls n []) := by
  refine ⟨fun i hi => ?_, fun i j hi hj hne => ?_⟩
  · by_cases e : i = n
    · subst e; rw [upd_same, upd_same]; exact own_nil _ _ _ _
    · rw [upd_other _ _ e, upd_other _ _ e]; exact h.1 i (by omega)
  · by_cases e : i = n
    · subst e; rw [upd_same]; exact .inl rfl
    · rw [upd_other _ _ e]
      by_cases e2 : j = n
      · subst e2
        rw [upd_same]
        cases hk : (vs i).ownBlock with
        | none => exact .inl rfl
        | some k => exact .inr (by intro h; cases h)
      · rw [upd_other _ _ e2]; exact h.2 i j (by omega) (by omega) hne
/-- A row cut back. -/
theorem RowsN.cutBack {w : World} {base n : Nat} {vs : Nat → Value} {ls : Nat → List Int} {i m c : Nat} {A : Option Addr} (h : RowsN w base n vs ls) (hi : i < n) (hv : vs i = .slice A (ls i).length c) (hm : m ≤ (ls i).length) : RowsN w base n (upd vs i (.slice A m c)) (upd ls i ((ls i).take m)) := by
  have hb : (Value.slice A m c).ownBlock = (vs i).ownBlock := by rw [hv]; cases A <;> rfl
  refine ⟨fun j hj => ?_, fun j k hj hk hne => ?_⟩
  · by_cases e : j = i
    · subst e
      rw [upd_same, upd_same]
      have := h.1 j hj
      rw [hv] at this
      have := own_take this hm
      rw [Nat.mul_one] at this
      rw [List.length_take, Nat.min_eq_left hm]
      simpa [nums, List.map_take] using this
    · rw [upd_other _ _ e, upd_other _ _ e]; exact h.1 j hj
  · have hu : ∀ x, (upd vs i (.slice A m c) x).ownBlock = (vs x).ownBlock := by
      intro x
      by_cases e : x = i
      · subst e; rw [upd_same, hb]
      · rw [upd_other _ _ e]
    rw [hu, hu]
    exact h.2 j k hj hk hne

/-! ### forms -/
structure FormP where
  k : Int
  t : ByteArray
  n : Int
  at_ : Int
def fcell (f : FormP) (v : Value) : List Value := [.int .u8 f.k, .string f.t, .int .i64 f.n, v, .int .i64 f.at_]
def fcells : List FormP → Nat → (Nat → Value) → List Value
  | [], _, _ => []
  | f :: r, i, vs => fcell f (vs i) ++ fcells r (i + 1) vs
theorem fcells_length : ∀ (fs : List FormP) (i : Nat) (vs : Nat → Value), (fcells fs i vs).length = fs.length * 5
  | [], _, _ => by simp [fcells]
  | f :: r, i, vs => by
    rw [fcells, List.length_append, fcells_length r, List.length_cons]
    show 5 + _ = _
    omega
theorem fcells_snoc : ∀ (fs : List FormP) (f : FormP) (i : Nat) (vs : Nat → Value), fcells (fs ++ [f]) i vs = fcells fs i vs ++ fcell f (vs (i + fs.length))
  | [], f, i, vs => by simp [fcells]
  | g :: r, f, i, vs => by
    rw [List.cons_append, fcells, fcells_snoc r, fcells, List.append_assoc, List.length_cons, show i + 1 + r.length = i + (r.length + 1) by omega]
theorem fcells_congr : ∀ (fs : List FormP) (i : Nat) (vs us : Nat → Value), (∀ j, i ≤ j → j < i + fs.length → vs j = us j) → fcells fs i vs = fcells fs i us
  | [], _, _, _, _ => rfl
  | f :: r, i, vs, us, h => by
    rw [fcells, fcells, h i (Nat.le_refl _) (by simp), fcells_congr r (i + 1) vs us (fun j h1 h2 => h j (by omega) (by simp; omega))]
theorem fcells_get : ∀ (fs : List FormP) (i : Nat) (vs : Nat → Value) (j c : Nat) (f : FormP), fs[j]? = some f → c < 5 → (fcells fs i vs)[j * 5 + c]? = (fcell f (vs (i + j)))[c]?
  | [], _, _, j, _, _, h, _ => by simp at h
  | g :: r, i, vs, 0, c, f, h, hc => by
    obtain rfl : g = f := by simpa using h
    rw [fcells, Nat.zero_mul, Nat.zero_add, List.getElem?_append_left (by show c < 5; exact hc), Nat.add_zero]
  | g :: r, i, vs, j + 1, c, f, h, hc => by
    have := fcells_get r (i + 1) vs j c f (by simpa using h) hc
    rw [fcells, List.getElem?_append_right (by show 5 ≤ _; omega), show (j + 1) * 5 + c - (fcell g (vs i)).length = j * 5 + c by show (j + 1) * 5 + c - 5 = _; omega, this, show i + 1 + j = i + (j + 1) by omega]
theorem fcells_set : ∀ (fs : List FormP) (i : Nat) (vs : Nat → Value) (j : Nat) (x : Value), j < fs.length → (fcells fs i vs).set (j * 5 + 3) x = fcells fs i (upd vs (i + j) x)
  | [], _, _, _, _, h => by simp at h
  | g :: r, i, vs, 0, x, h => by
    rw [fcells, fcells, Nat.zero_mul, Nat.zero_add, List.set_append_left _ _ (by show 3 < 5; decide)]
    show (fcell g (vs i)).set 3 x ++ fcells r (i + 1) vs = fcell g (upd vs i x i) ++ fcells r (i + 1) (upd vs i x)
    rw [upd_same]
    rw [fcells_congr r (i + 1) vs (upd vs i x) (fun j h1 h2 => (upd_other _ _ (by omega)).symm)]
    rfl
  | g :: r, i, vs, j + 1, x, h => by
    rw [fcells, fcells, List.set_append_right _ _ (by show 5 ≤ _; omega), show (j + 1) * 5 + 3 - (fcell g (vs i)).length = j * 5 + 3 by show (j + 1) * 5 + 3 - 5 = _; omega, fcells_set r (i + 1) vs j x (by simpa using h), show i + 1 + j = i + (j + 1) by omega, upd_other _ _ (by omega)]

/-! ### the object -/
/-- It lies at w0's end: forms, rows 0 (uppermost), 1 (open), i + 2 (kids of form i). -/
def IsParser (w0 w : World) (fs : List FormP) (fv : Value) (vs : Nat → Value) (ls : Nat → List Int) : Prop :=
  w.heap[w0.heap.size]? = some (.cells #[fv, vs 0, vs 1] 70 (0, 0)) ∧ w.ownsRow w0.heap.size 40 5 fv fs.length (fcells fs 2 vs) ∧ RowsN w w0.heap.size (fs.length + 2) vs ls ∧ Below w0.heap.size w0 w
theorem IsParser.moved {w0 w w1 : World} {fs : List FormP} {fv : Value} {vs : Nat → Value} {ls : Nat → List Int} (h : IsParser w0 w fs fv vs ls) (hb : Below w.heap.size w w1) : IsParser w0 w1 fs fv vs ls :=
  ⟨blk_below h.1 hb, own_move h.2.1 (fun k hk => hb.block k (own_lt h.2.1 k hk)), h.2.2.1.below hb, below_then h.2.2.2 h.2.2.2.size hb⟩
theorem IsParser.drewN {w0 w : World} {fs : List FormP} {fv : Value} {vs : Nat → Value} {ls : Nat → List Int} (h : IsParser w0 w fs fv vs ls) (q : Nat) : IsParser w0 (w.drewN q) fs fv vs ls := h.moved (pw_below_drewN (Below.refl _ w) q)
theorem IsParser.c0 {w0 w : World} {fs : List FormP} {fv : Value} {vs : Nat → Value} {ls : Nat → List Int} (h : IsParser w0 w fs fv vs ls) : w.cell? ⟨w0.heap.size, 0, none⟩ = some fv := by rw [blk_cell h.1]; rfl
theorem IsParser.c1 {w0 w : World} {fs : List FormP} {fv : Value} {vs : Nat → Value} {ls : Nat → List Int} (h : IsParser w0 w fs fv vs ls) : w.cell? ⟨w0.heap.size, 1, none⟩ = some (vs 0) := by rw [blk_cell h.1]; rfl
theorem IsParser.c2 {w0 w : World} {fs : List FormP} {fv : Value} {vs : Nat → Value} {ls : Nat → List Int} (h : IsParser w0 w fs fv vs ls) : w.cell? ⟨w0.heap.size, 2, none⟩ = some (vs 1) := by rw [blk_cell h.1]; rfl
theorem IsParser.slice {w0 w : World} {fs : List FormP} {fv : Value} {vs : Nat → Value} {ls : Nat → List Int} (h : IsParser w0 w fs fv vs ls) (i : Nat) (hi : i < fs.length + 2) : ∃ A c, vs i = .slice A (ls i).length c := own_slice (h.2.2.1.1 i hi)
end Go.Proofs.Ytiojfdgagdofiaa.HP
/-
The contract of parser.add, over the translation: it adds a form where it stands.
-/
set_option linter.unusedVariables false
set_option linter.unusedSimpArgs false
namespace Go.Proofs.Ytiojfdgagdofiaa.HP
open Go.RowKit Go.Proofs.Ytiojfdgagdofiaa.HK Go.Proofs.YtiojfdgagdofiaaW.PrintWords Go.Proofs.YtiojfdgagdofiaaW.PrintLast Go.Proofs.YtiojfdgagdofiaaW.PrintMore

theorem info40 : (Try.prog.info? 40).map (fun i => (i.zero, i.size, i.bytes)) = some (some (.agg #[.int .u8 0, .string ⟨#[]⟩, .int .i64 0, .slice none 0 0, .int .i64 0]), 5, 64) := by kernel_rfl
theorem info3 : (Try.prog.info? 3).map (fun i => (i.zero, i.size, i.bytes)) = some (some (.int .i64 0), 1, 8) := by kernel_rfl
variable {w0 w : World} {fs : List FormP} {fv : Value} {vs : Nat → Value} {ls : Nat → List Int}
theorem IsParser.addForm (h : IsParser w0 w fs fv vs ls) {w3 : World} {fv3 : Value} {f : FormP} (hown : w3.ownsRow w0.heap.size 40 5 fv3 (fs.length + 1) (fcells fs 2 vs ++ fcell f (.slice none 0 0))) (hg : w.grownBy w3 fv.ownBlock) (hb : Below w0.heap.size w0 w3) :
    IsParser w0 (w3.setCell ⟨w0.heap.size, 0, none⟩ fv3) (fs ++ [f]) fv3 (upd vs (fs.length + 2) (.slice none 0 0)) (upd ls (fs.length + 2) []) := by
  obtain ⟨h1, h2, h3, h4⟩ := h
  have hg3 : w3.heap[w0.heap.size]? = some (.cells #[fv, vs 0, vs 1] 70 (0, 0)) := blk_grown h1 hg (own_ne h2 h1 (by decide))
  refine ⟨?_, ?_, ?_, hb.setCell (p := ⟨w0.heap.size, 0, none⟩) (Nat.le_refl _) _⟩
  · rw [upd_other _ _ (by omega), upd_other _ _ (by omega)]
    exact blk_set hg3 0 _
  · rw [fcells_snoc, List.length_append, List.length_singleton, show 2 + fs.length = fs.length + 2 by omega, upd_same, fcells_congr fs 2 (upd vs (fs.length + 2) (.slice none 0 0)) vs (fun j h1 h2 => upd_other _ _ (by omega))]
    exact own_setCell hown (own_ne hown hg3 (by decide)) _
  · rw [List.length_append, List.length_singleton, show fs.length + 1 + 2 = fs.length + 2 + 1 by omega]
    exact ((h3.grown h2 (by decide) hg).more).far hg3 (by decide) 0 _
theorem IsParser.pushRow (h : IsParser w0 w fs fv vs ls) {i : Nat} (hi : i < 2) {w1 : World} {v1 : Value} {x : Int} (hown : w1.ownsRow w0.heap.size 3 1 v1 ((ls i).length + 1) (nums .i64 (ls i) ++ [.int .i64 x])) (hg : w.grownBy w1 (vs i).ownBlock)
    (hat : v1.ownBlock = (vs i).ownBlock ∨ ∃ b, v1.ownBlock = some b ∧ w.heap.size ≤ b) (hb : Below w0.heap.size w0 w1) : IsParser w0 (w1.setCell ⟨w0.heap.size, 1 + i, none⟩ v1) fs fv (upd vs i v1) (upd ls i (ls i ++ [x])) := by
  obtain ⟨h1, h2, h3, h4⟩ := h
  have hr := h3.1 i (by omega)
  have hg3 : w1.heap[w0.heap.size]? = some (.cells #[fv, vs 0, vs 1] 70 (0, 0)) := blk_grown h1 hg (own_ne hr h1 (by decide))
  have h2' : w1.ownsRow w0.heap.size 40 5 fv fs.length (fcells fs 2 vs) := own_other h2 hg (own_type_ne h2 hr (by decide))
  refine ⟨?_, ?_, ?_, hb.setCell (p := ⟨w0.heap.size, 1 + i, none⟩) (Nat.le_refl _) _⟩
  · have := blk_set hg3 (1 + i) v1
    rw [this]
    match i, hi with
    | 0, _ => rfl
    | 1, _ => rfl
  · rw [fcells_congr fs 2 (upd vs i v1) vs (fun j h1 h2 => upd_other _ _ (by omega))]
    exact own_setCell h2' (own_ne h2' hg3 (by decide)) _
  · exact (h3.appended (by omega) hown hg hat).far hg3 (by decide) (1 + i) _
theorem IsParser.pushKid (h : IsParser w0 w fs fv vs ls) {b F cap : Nat} (hbl : b < fs.length) (hfv : fv = .slice (some ⟨F, 0, none⟩) fs.length cap) {w1 : World} {v1 : Value} {x : Int} (hown : w1.ownsRow w0.heap.size 3 1 v1 ((ls (b + 2)).length + 1) (nums .i64 (ls (b + 2)) ++ [.int .i64 x])) (hg : w.grownBy w1 (vs (b + 2)).ownBlock)
    (hat : v1.ownBlock = (vs (b + 2)).ownBlock ∨ ∃ k, v1.ownBlock = some k ∧ w.heap.size ≤ k) (hb : Below w0.heap.size w0 w1) : IsParser w0 (w1.setCell ⟨F, b * 5 + 3, none⟩ v1) fs fv (upd vs (b + 2) v1) (upd ls (b + 2) (ls (b + 2) ++ [x])) := by
  obtain ⟨h1, h2, h3, h4⟩ := h
  have hr := h3.1 (b + 2) (by omega)
  have hg3 : w1.heap[w0.heap.size]? = some (.cells #[fv, vs 0, vs 1] 70 (0, 0)) := blk_grown h1 hg (own_ne hr h1 (by decide))
  have h2' : w1.ownsRow w0.heap.size 40 5 fv fs.length (fcells fs 2 vs) := own_other h2 hg (own_type_ne h2 hr (by decide))
  have hFb : fv.ownBlock = some F := by rw [hfv]; rfl
  obtain ⟨cells, hF⟩ := own_typed h2' F hFb
  have hFB := own_base h2' F hFb
  refine ⟨?_, ?_, ?_, hb.setCell (p := ⟨F, b * 5 + 3, none⟩) hFB _⟩
  · rw [upd_other _ _ (by omega), upd_other _ _ (by omega), Below.heap_setCell w1 _ _ _ (fun e => blk_ne hF hg3 (by decide) (by have e' : w0.heap.size = F := e; exact e'.symm))]
    exact hg3
  · have hs := fcells_set fs 2 vs b v1 hbl
    rw [show 2 + b = b + 2 by omega] at hs
    rw [← hs]
    rw [hfv] at h2' ⊢
    exact (h2'.stored (b * 5 + 3) v1).1
  · exact (h3.appended (by omega) hown hg hat).far hF (by decide) _ _
/-- Where the open one stands. -/
def lastOpen (l : List Int) : Nat := (l.getD (l.length - 1) 0).toNat
def addLs (n : Nat) (k : Int) (ls : Nat → List Int) : Nat → List Int :=
  let l1 := upd ls (n + 2) []
  let l2 := if (ls 1).length = 0 then upd l1 0 (l1 0 ++ [(n : Int)]) else upd l1 (lastOpen (ls 1) + 2) (l1 (lastOpen (ls 1) + 2) ++ [(n : Int)])
  if k = 1 then upd l2 1 (l2 1 ++ [(n : Int)]) else l2
theorem form_one (f : FormP) : ∀ u ∈ fcell f (.slice none 0 0), u.oneCell' = true := by
  intro u hu
  simp [fcell] at hu
  rcases hu with rfl | rfl | rfl | rfl | rfl <;> rfl
theorem form_apart {w w1 : World} {g t base n : Nat} {cs : Array Value} {v : Value} {xs : List Value} (hg : w.heap[g]? = some (.cells cs t (0, 0))) (ho : w.drew.ownsRow base 40 5 v n xs) (ht : 40 ≠ t) (hgr : w.drew.grownBy w1 v.ownBlock) : w1.heap[g]? = some (.cells cs t (0, 0)) :=
  blk_grown (w := w.drew) hg hgr (own_ne (w := w.drew) ho hg ht)
/-- A form in a block of its own. -/
theorem form_cells {w : World} {g : Nat} {k : Int} {t : ByteArray} {n a : Int} {v : Value} (h : w.heap[g]? = some (.cells #[.int .u8 k, .string t, .int .i64 n, v, .int .i64 a] 40 (0, 0))) :
    w.cell? ⟨g, 0, none⟩ = some (.int .u8 k) ∧ w.cell? ⟨g, 1, none⟩ = some (.string t) ∧ w.cell? ⟨g, 2, none⟩ = some (.int .i64 n) ∧ w.cell? ⟨g, 3, none⟩ = some v ∧ w.cell? ⟨g, 4, none⟩ = some (.int .i64 a) ∧
    w.frozen? ⟨g, 0, none⟩ = false ∧ w.frozen? ⟨g, 1, none⟩ = false ∧ w.frozen? ⟨g, 2, none⟩ = false ∧ w.frozen? ⟨g, 3, none⟩ = false ∧ w.frozen? ⟨g, 4, none⟩ = false :=
  ⟨by rw [blk_cell h]; rfl, by rw [blk_cell h]; rfl, by rw [blk_cell h]; rfl, by rw [blk_cell h]; rfl, by rw [blk_cell h]; rfl, blk_frozen h 0, blk_frozen h 1, blk_frozen h 2, blk_frozen h 3, blk_frozen h 4⟩
set_option maxHeartbeats 8000000 in
set_option maxRecDepth 100000 in
theorem add_calls (h : IsParser w0 w fs fv vs ls) (f : FormP) (hn : fs.length ≤ 399) (hlen : ∀ i, (ls i).length ≤ 400) (hopen : ∀ x ∈ ls 1, ∃ b : Nat, x = (b : Int) ∧ b < fs.length) :
    Calls Try.prog 69 #[.pointer (some ⟨w0.heap.size, 0, none⟩), .agg #[.int .u8 f.k, .string f.t, .int .i64 f.n, .slice none 0 0, .int .i64 f.at_]] w fun e w' => e = .returned (.tuple #[]) ∧ ∃ fv' vs', IsParser w0 w' (fs ++ [f]) fv' vs' (addLs fs.length f.k ls) := by
  obtain ⟨fk, ft, fn, fat⟩ := f
  have HH := Lib.hid h
  have HLEN := Lib.hid hlen
  have HOP := Lib.hid hopen
  clear h hlen hopen
  go_enter Try.func69, Try.ntmps69
  go_upto_region 1 with (fail)
  obtain ⟨wa, hwa⟩ : ∃ wa, wa = w.alloc (.cells #[.int .u8 fk, .string ft, .int .i64 fn, .slice none 0 0, .int .i64 fat] 40) := ⟨_, rfl⟩
  rw [← hwa]
  have hP : Hid (IsParser w0 wa fs fv vs ls) := by rw [hwa]; exact HH.out.moved ((Below.refl _ w).alloc (Nat.le_refl _) _)
  have hF : Hid (wa.heap[w.heap.size]? = some (.cells #[.int .u8 fk, .string ft, .int .i64 fn, .slice none 0 0, .int .i64 fat] 40 (0, 0))) := by rw [hwa]; exact heap_alloc_new w _
  clear hwa
  obtain ⟨A, cap, rfl⟩ := own_slice hP.out.2.1
  have c0 := hP.out.c0
  have f0 : wa.frozen? ⟨w0.heap.size, 0, none⟩ = false := blk_frozen hP.out.1 0
  obtain ⟨a0, a1, a2, a3, a4, af0, af1, af2, af3, af4⟩ := form_cells hF.out
  go_wp2_with (fail)
  go_cut [] (fun wc => ∃ fv3, Hid (IsParser w0 wc (fs ++ [⟨fk, ft, fn, fat⟩]) fv3 (upd vs (fs.length + 2) (.slice none 0 0)) (upd ls (fs.length + 2) [])) ∧ Hid (wc.heap[w.heap.size]? = some (.cells #[.int .u8 fk, .string ft, .int .i64 fn, .slice none 0 0, .int .i64 fat] 40 (0, 0))) ∧ Hid (some w.heap.size ≠ fv3.ownBlock))
  case first =>
    have hO : wa.drew.ownsRow w0.heap.size 40 5 (.slice A fs.length cap) fs.length (fcells fs 2 vs) := hP.out.2.1
    have HO := Lib.hid hO
    have hBd : Hid (Below w0.heap.size w0 wa.drew) := below_drew hP.out.2.2.2
    have hne : Hid (some w.heap.size ≠ (Value.slice A fs.length cap).ownBlock) := fun e => by
      have := own_lt HH.out.2.1 w.heap.size e.symm
      omega
    have hlong : (fs.length + 1) * 64 ≤ 140737488355328 := by omega
    have hal1 : (wa.alloc (.cells #[.int .u8 fk, .string ft, .int .i64 fn, .slice none 0 0, .int .i64 fat] 40)).cell? ⟨w0.heap.size, 0, none⟩ = some (.slice A fs.length cap) := (World.cell?_alloc_some _ _ _ (by rw [c0]; rfl)).trans c0
    clear hO
    go_region_law (refine step_append_cells (W := wa.drew) (w0 := w0) w0.heap.size rfl (.tmp 15) (.tmp 17) 23 40 (.agg #[.int .u8 0, .string ⟨#[]⟩, .int .i64 0, .slice none 0 0, .int .i64 0]) 5 64 rfl Try.underlying23 info40 rfl (by decide) (by decide) (.slice A fs.length cap) fs.length (fcells fs 2 vs) [.int .u8 fk, .string ft, .int .i64 fn, .slice none 0 0, .int .i64 fat] rfl rfl rfl (form_one ⟨fk, ft, fn, fat⟩) HO.out hBd.out hBd.out.size hlong ?_; intro v3 w3 hown3 hb3 hg3 hat3; obtain ⟨g3, cap3, rfl, _, _⟩ := hown3.form (Nat.succ_pos _); have hL3 := Lib.hid (form_apart hP.out.1 HO.out (by decide) hg3); have c3 : w3.cell? ⟨w0.heap.size, 0, none⟩ = some (.slice A fs.length cap) := (by rw [blk_cell hL3.out]; rfl); have f3 := blk_frozen hL3.out 0; have HO3 := Lib.hid hown3; clear hown3)
    all_goals
      go_wp2
      go_meet
      case rel =>
        have hF3 : w3.heap[w.heap.size]? = some (.cells #[.int .u8 fk, .string ft, .int .i64 fn, .slice none 0 0, .int .i64 fat] 40 (0, 0)) := blk_grown (w := wa.drew) hF.out hg3 hne.out
        exact ⟨_, IsParser.addForm (f := ⟨fk, ft, fn, fat⟩) (hP.out.drewN 1) HO3.out hg3 hb3, (Below.heap_setCell w3 _ _ _ (fun e => blk_ne hF3 hL3.out (by decide) e)).trans hF3, by
          rcases hat3 with e | ⟨x, e, hx⟩
          · rw [e]; exact hne.out
          · rw [e]
            intro e2
            have hlt := blk_lt hF.out
            have hx' : wa.heap.size ≤ x := hx
            injection e2 with e2
            omega⟩
  case rest =>
    obtain ⟨fv3, hP3, hF3, hNE⟩ := hcut
    clear hP hF c0 f0 a0 a1 a2 a3 a4 af0 af1 af2 af3 af4
    have hfl : (fs ++ [(⟨fk, ft, fn, fat⟩ : FormP)]).length = fs.length + 1 := by simp
    have HFL := Lib.hid hfl
    obtain ⟨fs3, hfs3⟩ : ∃ x, x = fs ++ [(⟨fk, ft, fn, fat⟩ : FormP)] := ⟨_, rfl⟩
    obtain ⟨vs3, hvs3⟩ : ∃ x, x = upd vs (fs.length + 2) (Value.slice none 0 0) := ⟨_, rfl⟩
    obtain ⟨ls3, hls3⟩ : ∃ x, x = upd ls (fs.length + 2) [] := ⟨_, rfl⟩
    rw [← hfs3] at HFL
    rw [← hfs3, ← hvs3, ← hls3] at hP3
    have hl0 : Hid (ls3 0 = ls 0) := by rw [hls3]; exact upd_other _ _ (by omega)
    have hl1 : Hid (ls3 1 = ls 1) := by rw [hls3]; exact upd_other _ _ (by omega)
    have HFS := Lib.hid hfs3
    have HLS := Lib.hid hls3
    clear hfl hfs3 hvs3 hls3
    obtain ⟨A1, c1, hv1⟩ := hP3.out.slice 1 (by rw [HFL.out]; omega)
    rw [hl1.out] at hv1
    have d2 := hP3.out.c2
    obtain ⟨L, hL⟩ : ∃ L, L = (ls 1).length := ⟨_, rfl⟩
    rw [← hL] at hv1
    rw [hv1] at d2
    have HV1 := Lib.hid hv1
    have HL := Lib.hid hL
    clear hv1 hL
    obtain ⟨F, cap3, rfl, _, _⟩ := hP3.out.2.1.form (by rw [HFL.out]; omega)
    go_upto_if 26 with (fail)
    go_cut [] (fun wd => ∃ vs4, Hid (IsParser w0 wd fs3 (.slice (some ⟨F, 0, none⟩) fs3.length cap3) vs4 (if (ls 1).length = 0 then upd ls3 0 (ls3 0 ++ [(fs.length : Int)]) else upd ls3 (lastOpen (ls 1) + 2) (ls3 (lastOpen (ls 1) + 2) ++ [(fs.length : Int)]))) ∧ Hid (wd.heap[w.heap.size]? = some (.cells #[.int .u8 fk, .string ft, .int .i64 fn, .slice none 0 0, .int .i64 fat] 40 (0, 0))))
    case first =>
      by_cases h0 : L = 0
      · subst h0
        have h0 : (ls 1).length = 0 := HL.out.symm
        obtain ⟨A0, c0, hv0⟩ := hP3.out.slice 0 (by rw [HFL.out]; omega)
        have d1 := hP3.out.c1
        have df1 : wc.frozen? ⟨w0.heap.size, 1, none⟩ = false := blk_frozen hP3.out.1 1
        rw [hv0] at d1
        have hO := hP3.out.2.2.1.1 0 (by rw [HFL.out]; omega)
        rw [hv0] at hO
        have HO := Lib.hid hO
        have HB3 := Lib.hid hP3.out.2.2.2
        have hlen0 := HLEN.out 0
        rw [← hl0.out] at hlen0
        have HV0 := Lib.hid hv0
        clear hv0 hO h0
        go_wp2_with (at_builtin; refine print_append_num (w0 := w0) w0.heap.size rfl (.tmp 31) (.tmp 33) 24 3 .i64 8 rfl Try.underlying24 info3 (Nat.succ_pos 7) _ (ls3 0) (fs.length : Int) rfl rfl HO.out HB3.out HB3.out.size ?qa ?_)
        case qa => omega
        intro v1 w1 hown1 hb1 hg1 hat1
        have hw1 : w1.heap[w0.heap.size]? = some (.cells #[.slice (some ⟨F, 0, none⟩) fs3.length cap3, vs3 0, vs3 1] 70 (0, 0)) := blk_grown hP3.out.1 hg1 (own_ne HO.out hP3.out.1 (by decide))
        obtain ⟨g4, cap4, rfl, _, _⟩ := hown1.form (Nat.succ_pos _)
        have x1 : w1.cell? ⟨w0.heap.size, 1, none⟩ = some (vs3 0) := by rw [blk_cell hw1]; rfl
        have xf1 : w1.frozen? ⟨w0.heap.size, 1, none⟩ = false := blk_frozen hw1 1
        have hF4 : Hid (w1.heap[w.heap.size]? = some (.cells #[.int .u8 fk, .string ft, .int .i64 fn, .slice none 0 0, .int .i64 fat] 40 (0, 0))) := blk_grown hF3.out hg1 (own_ne HO.out hF3.out (by decide))
        have hnew : Hid (IsParser w0 (w1.setCell ⟨w0.heap.size, 1, none⟩ (.slice (some ⟨g4, 0, none⟩) ((ls3 0).length + 1) cap4)) fs3 (.slice (some ⟨F, 0, none⟩) fs3.length cap3) (upd vs3 0 (.slice (some ⟨g4, 0, none⟩) ((ls3 0).length + 1) cap4)) (upd ls3 0 (ls3 0 ++ [(fs.length : Int)]))) :=
          IsParser.pushRow hP3.out (i := 0) (by omega) (by simpa [nums] using hown1) (by rw [HV0.out]; exact hg1) (by rw [HV0.out]; exact hat1) hb1
        have hF5 : Hid ((w1.setCell ⟨w0.heap.size, 1, none⟩ (.slice (some ⟨g4, 0, none⟩) ((ls3 0).length + 1) cap4)).heap[w.heap.size]? = some (.cells #[.int .u8 fk, .string ft, .int .i64 fn, .slice none 0 0, .int .i64 fat] 40 (0, 0))) :=
          (Below.heap_setCell w1 _ _ _ (fun e => blk_ne hF4.out hw1 (by decide) e)).trans hF4.out
        have H0 : Hid ((ls 1).length = 0) := HL.out.symm
        clear hown1 hb1 hg1 hat1 hw1
        go_wp2
        go_meet
        case rel => exact ⟨_, by rw [if_pos H0.out]; exact hnew, hF5⟩
      · obtain ⟨m, rfl⟩ : ∃ m, L = m + 1 := ⟨L - 1, by omega⟩
        have e0 : ((m : Int) + 1 == 0) = false := by rw [beq_eq_false_iff_ne]; omega
        have e0' : (((m + 1 : Nat) : Int) == 0) = false := by rw [beq_eq_false_iff_ne]; omega
        obtain ⟨b, hb, hbn⟩ := HOP.out ((ls 1).getD m 0) (by rw [List.getD_eq_getElem?_getD, List.getElem?_eq_getElem (by have := HL.out; omega)]; exact List.getElem_mem _)
        have hlo : Hid (lastOpen (ls 1) = b) := by show _ = _; unfold lastOpen; rw [← HL.out, Nat.add_sub_cancel, hb]; rfl
        have hO1 := hP3.out.2.2.1.1 1 (by rw [HFL.out]; omega)
        rw [HV1.out, hl1.out, ← HL.out] at hO1
        obtain ⟨O, cap1, hA1, _, _⟩ := hO1.form (Nat.succ_pos _)
        injection hA1 with hA1 _ hA2
        subst hA1 hA2
        have hel : wc.cell? ⟨O, m, none⟩ = some (.int .i64 (b : Int)) := by
          have := hO1.cellAt m (by omega)
          rw [this]
          have hml : m < (ls 1).length := by have := HL.out; omega
          simp only [nums, List.getElem?_map, List.getElem?_eq_getElem hml, Option.map_some]
          rw [List.getD_eq_getElem?_getD, List.getElem?_eq_getElem hml] at hb
          have hb' : (ls 1)[m] = (b : Int) := hb
          rw [hb']
        have d0 := hP3.out.c0
        have hbi : (b : Int) < (fs3.length : Int) := by have := HFL.out; omega
        have hbi0 : (0 : Int) ≤ (b : Int) := Int.natCast_nonneg b
        have hmm : (m : Int) < (m : Int) + 1 := by omega
        have hm0 : (0 : Int) ≤ (m : Int) := Int.natCast_nonneg m
        have hws : IntKind.i64.wrap ((m : Int) + 1 - 1) = (m : Int) := by rw [show (m : Int) + 1 - 1 = (m : Int) by omega]; exact IntWalk.i64_in _ (by have := HLEN.out 1; have := HL.out; omega)
        have hws2 : IntKind.i64.wrap (m : Int) = (m : Int) := IntWalk.i64_in _ (by have := HLEN.out 1; have := HL.out; omega)
        have hmm2 : (m : Int) < ((m + 1 : Nat) : Int) := by omega
        have HO1 := Lib.hid hO1
        clear hb hO1
        go_wp2_with (fail)
        go_quiet (fail)
        obtain ⟨we, hwe⟩ : ∃ we, we = wc.drewN nq := ⟨_, rfl⟩
        rw [← hwe]
        have hPe : Hid (IsParser w0 we fs3 (.slice (some ⟨F, 0, none⟩) fs3.length cap3) vs3 ls3) := by rw [hwe]; exact hP3.out.drewN nq
        have hFe : Hid (we.heap[w.heap.size]? = some (.cells #[.int .u8 fk, .string ft, .int .i64 fn, .slice none 0 0, .int .i64 fat] 40 (0, 0))) := by rw [hwe]; exact hF3.out
        clear hwe e0 e0' d0 d2 hel hbi hbi0 hmm hmm2 hm0 hws hws2
        have hb3 : b < fs3.length := by rw [HFL.out]; omega
        obtain ⟨A5, c5, hv5⟩ := hPe.out.slice (b + 2) (by omega)
        have hO5 := hPe.out.2.2.1.1 (b + 2) (by omega)
        obtain ⟨fb, hfb⟩ : ∃ fb, fs3[b]? = some fb := ⟨_, List.getElem?_eq_getElem hb3⟩
        have hcl : we.cell? ⟨F, b * 5 + 3, none⟩ = some (vs3 (b + 2)) := by
          rw [hPe.out.2.1.cellAt (b * 5 + 3) (by omega), fcells_get fs3 2 vs3 b 3 fb hfb (by decide), show 2 + b = b + 2 by omega]
          rfl
        have hcf : we.frozen? ⟨F, b * 5 + 3, none⟩ = false := hPe.out.2.1.frozenAt _
        rw [hv5] at hcl hO5
        have HV5 := Lib.hid hv5
        have HO5 := Lib.hid hO5
        have HBe := Lib.hid hPe.out.2.2.2
        have hlen5 : (ls3 (b + 2)).length ≤ 400 := by
          rw [HLS.out]; unfold upd; split
          · simp
          · exact HLEN.out _
        clear hv5 hO5 hfb
        go_wp2_with (at_builtin; refine print_append_num (w0 := w0) w0.heap.size rfl (.tmp 58) (.tmp 60) 24 3 .i64 8 rfl Try.underlying24 info3 (Nat.succ_pos 7) _ (ls3 (b + 2)) (fs.length : Int) rfl rfl HO5.out HBe.out HBe.out.size ?qa ?_)
        case qa => omega
        intro v1 w1 hown1 hb1 hg1 hat1
        obtain ⟨g4, cap4, rfl, _, _⟩ := hown1.form (Nat.succ_pos _)
        have hrne := own_type_ne hPe.out.2.1 HO5.out (by decide)
        have h2' := own_other hPe.out.2.1 hg1 hrne
        have x1 : w1.cell? ⟨F, b * 5 + 3, none⟩ = some (vs3 (b + 2)) := by
          obtain ⟨fb, hfb⟩ : ∃ fb, fs3[b]? = some fb := ⟨_, List.getElem?_eq_getElem hb3⟩
          rw [h2'.cellAt (b * 5 + 3) (by omega), fcells_get fs3 2 vs3 b 3 fb hfb (by decide), show 2 + b = b + 2 by omega]
          rfl
        have xf1 : w1.frozen? ⟨F, b * 5 + 3, none⟩ = false := h2'.frozenAt _
        have hnew : Hid (IsParser w0 (w1.setCell ⟨F, b * 5 + 3, none⟩ (.slice (some ⟨g4, 0, none⟩) ((ls3 (b + 2)).length + 1) cap4)) fs3 (.slice (some ⟨F, 0, none⟩) fs3.length cap3) (upd vs3 (b + 2) (.slice (some ⟨g4, 0, none⟩) ((ls3 (b + 2)).length + 1) cap4)) (upd ls3 (b + 2) (ls3 (b + 2) ++ [(fs.length : Int)]))) :=
          IsParser.pushKid hPe.out hb3 rfl (by simpa [nums] using hown1) (by rw [HV5.out]; exact hg1) (by rw [HV5.out]; exact hat1) hb1
        have hF4 : w1.heap[w.heap.size]? = some (.cells #[.int .u8 fk, .string ft, .int .i64 fn, .slice none 0 0, .int .i64 fat] 40 (0, 0)) := blk_grown hFe.out hg1 (own_ne HO5.out hFe.out (by decide))
        have hF5 : Hid ((w1.setCell ⟨F, b * 5 + 3, none⟩ (.slice (some ⟨g4, 0, none⟩) ((ls3 (b + 2)).length + 1) cap4)).heap[w.heap.size]? = some (.cells #[.int .u8 fk, .string ft, .int .i64 fn, .slice none 0 0, .int .i64 fat] 40 (0, 0))) := by
          refine (Below.heap_setCell w1 _ _ _ (fun e => ?_)).trans hF4
          have e' : w.heap.size = F := e
          exact hNE.out (by rw [e']; rfl)
        clear hown1 hb1 hg1 hat1 h2' hrne hF4
        go_wp2
        go_meet
        case rel => exact ⟨_, by rw [if_neg (by have := HL.out; omega), hlo.out]; exact hnew, hF5⟩
    case rest =>
      obtain ⟨vs4, hP4, hF4⟩ := hcut
      clear hP3 hF3 d2
      obtain ⟨a0, _, _, _, _, _, _, _, _, _⟩ := form_cells hF4.out
      have hfin : Hid (addLs fs.length fk ls = (if fk = 1 then upd (if (ls 1).length = 0 then upd ls3 0 (ls3 0 ++ [(fs.length : Int)]) else upd ls3 (lastOpen (ls 1) + 2) (ls3 (lastOpen (ls 1) + 2) ++ [(fs.length : Int)])) 1 ((if (ls 1).length = 0 then upd ls3 0 (ls3 0 ++ [(fs.length : Int)]) else upd ls3 (lastOpen (ls 1) + 2) (ls3 (lastOpen (ls 1) + 2) ++ [(fs.length : Int)])) 1 ++ [(fs.length : Int)]) else (if (ls 1).length = 0 then upd ls3 0 (ls3 0 ++ [(fs.length : Int)]) else upd ls3 (lastOpen (ls 1) + 2) (ls3 (lastOpen (ls 1) + 2) ++ [(fs.length : Int)])))) := by
        show _ = _
        rw [HLS.out]; rfl
      have hl41 : Hid ((if (ls 1).length = 0 then upd ls3 0 (ls3 0 ++ [(fs.length : Int)]) else upd ls3 (lastOpen (ls 1) + 2) (ls3 (lastOpen (ls 1) + 2) ++ [(fs.length : Int)])) 1 = ls 1) := by
        show _ = _
        split
        · rw [upd_other _ _ (by omega), hl1.out]
        · rw [upd_other _ _ (by omega), hl1.out]
      obtain ⟨ls4, hls4⟩ : ∃ x, x = (if (ls 1).length = 0 then upd ls3 0 (ls3 0 ++ [(fs.length : Int)]) else upd ls3 (lastOpen (ls 1) + 2) (ls3 (lastOpen (ls 1) + 2) ++ [(fs.length : Int)])) := ⟨_, rfl⟩
      rw [← hls4] at hP4 hfin hl41
      clear hls4
      by_cases hk : fk = 1
      · have e1 : (fk == 1) = true := by simpa using hk
        have HK := Lib.hid hk
        clear hk
        obtain ⟨A6, c6, hv6⟩ := hP4.out.slice 1 (by rw [HFL.out]; omega)
        have d2 := hP4.out.c2
        have df2 := blk_frozen hP4.out.1 2
        rw [hv6] at d2
        have hO6 := hP4.out.2.2.1.1 1 (by rw [HFL.out]; omega)
        rw [hv6] at hO6
        have HO6 := Lib.hid hO6
        have HB4 := Lib.hid hP4.out.2.2.2
        have hlen6 : (ls4 1).length ≤ 400 := by rw [hl41.out]; exact HLEN.out 1
        have HV6 := Lib.hid hv6
        clear hv6 hO6
        go_wp2_with (at_builtin; refine print_append_num (w0 := w0) w0.heap.size rfl (.tmp 71) (.tmp 73) 24 3 .i64 8 rfl Try.underlying24 info3 (Nat.succ_pos 7) _ (ls4 1) (fs.length : Int) rfl rfl HO6.out HB4.out HB4.out.size ?qa ?_)
        case qa => omega
        intro v1 w1 hown1 hb1 hg1 hat1
        have hw1 : w1.heap[w0.heap.size]? = some (.cells #[.slice (some ⟨F, 0, none⟩) fs3.length cap3, vs4 0, vs4 1] 70 (0, 0)) := blk_grown hP4.out.1 hg1 (own_ne HO6.out hP4.out.1 (by decide))
        obtain ⟨g4, cap4, rfl, _, _⟩ := hown1.form (Nat.succ_pos _)
        have x1 : w1.cell? ⟨w0.heap.size, 2, none⟩ = some (vs4 1) := by rw [blk_cell hw1]; rfl
        have xf1 : w1.frozen? ⟨w0.heap.size, 2, none⟩ = false := blk_frozen hw1 2
        have hnew : Hid (IsParser w0 (w1.setCell ⟨w0.heap.size, 2, none⟩ (.slice (some ⟨g4, 0, none⟩) ((ls4 1).length + 1) cap4)) fs3 (.slice (some ⟨F, 0, none⟩) fs3.length cap3) (upd vs4 1 (.slice (some ⟨g4, 0, none⟩) ((ls4 1).length + 1) cap4)) (upd ls4 1 (ls4 1 ++ [(fs.length : Int)]))) :=
          IsParser.pushRow hP4.out (i := 1) (by omega) (by simpa [nums] using hown1) (by rw [HV6.out]; exact hg1) (by rw [HV6.out]; exact hat1) hb1
        clear hown1 hb1 hg1 hat1 hw1
        go_wp2
        first
          | go_end0
          | skip
        exact ⟨rfl, _, _, by rw [hfin.out, if_pos HK.out, ← HFS.out]; exact hnew.out⟩
      · have e1 : (fk == 1) = false := by simpa using hk
        have HK := Lib.hid hk
        clear hk
        go_wp2
        first
          | go_end0
          | skip
        exact ⟨rfl, _, _, by rw [hfin.out, if_neg HK.out, ← HFS.out]; exact hP4.out⟩
end Go.Proofs.Ytiojfdgagdofiaa.HP
/-
The contracts of tree.need and parser.take, over the translation.
-/
set_option linter.unusedVariables false
set_option linter.unusedSimpArgs false
namespace Go.Proofs.Ytiojfdgagdofiaa.HP
open Go.RowKit Go.Proofs.Ytiojfdgagdofiaa.HK Go.Proofs.YtiojfdgagdofiaaW.PrintWords Go.Proofs.YtiojfdgagdofiaaW.PrintLast Go.Proofs.YtiojfdgagdofiaaW.PrintMore

theorem need_ok (a why : Int) (w : World) : Calls Try.prog 43 #[.bool true, .int .i64 a, .int .i64 why] w fun e w' => e = .returned (.tuple #[]) ∧ w' = w := by
  go_enter Try.func43, Try.ntmps43
  go_wp2
  go_end0
  exact ⟨rfl, rfl⟩
/-- What gives up. -/
def gaveUp (a why : Int) : Ending := .panicked [{ v := .iface 66 (.agg #[.int .i64 a, .int .i64 why]), recovered := false }]
theorem need_no (a why : Int) (w : World) : Calls Try.prog 43 #[.bool false, .int .i64 a, .int .i64 why] w fun e w' => e = .panicked [{ v := .iface 66 (.agg #[.int .i64 a, .int .i64 why]), recovered := false }] ∧ w' = w := by
  go_enter Try.func43, Try.ntmps43
  go_wp2
  exact ⟨rfl, rfl, rfl⟩
variable {w0 w : World} {fs : List FormP} {fv : Value} {vs : Nat → Value} {ls : Nat → List Int}
theorem heap_two' (w : World) (o o' : Obj) : ((w.alloc o).alloc o').heap[w.heap.size]? = some o ∧ ((w.alloc o).alloc o').heap[w.heap.size + 1]? = some o' := HK.heap_two w o o'
/-- A closing bracket. -/
def closeLs (ls : Nat → List Int) : Nat → List Int := upd ls 1 ((ls 1).take ((ls 1).length - 1))
theorem IsParser.closed (h : IsParser w0 w fs fv vs ls) {A : Option Addr} {c m : Nat} (hv : vs 1 = .slice A (ls 1).length c) (hm : m ≤ (ls 1).length) : IsParser w0 (w.setCell ⟨w0.heap.size, 2, none⟩ (.slice A m c)) fs fv (upd vs 1 (.slice A m c)) (upd ls 1 ((ls 1).take m)) := by
  obtain ⟨h1, h2, h3, h4⟩ := h
  refine ⟨?_, ?_, (h3.cutBack (by omega) hv hm).far h1 (by decide) 2 _, h4.setCell (p := ⟨w0.heap.size, 2, none⟩) (Nat.le_refl _) _⟩
  · rw [blk_set h1 2 (.slice A m c)]; rfl
  · rw [fcells_congr fs 2 (upd vs 1 (.slice A m c)) vs (fun j h1 h2 => upd_other _ _ (by omega))]
    exact own_setCell h2 (own_ne h2 h1 (by decide)) _
end Go.Proofs.Ytiojfdgagdofiaa.HP
set_option linter.unusedVariables false
set_option linter.unusedSimpArgs false
namespace Go.Proofs.Ytiojfdgagdofiaa.HP
open Go.RowKit Go.Proofs.Ytiojfdgagdofiaa.HK Go.Proofs.YtiojfdgagdofiaaW.PrintWords Go.Proofs.YtiojfdgagdofiaaW.PrintLast Go.Proofs.YtiojfdgagdofiaaW.PrintMore
variable {w0 w : World} {fs : List FormP} {fv : Value} {vs : Nat → Value} {ls : Nat → List Int}
set_option maxHeartbeats 4000000 in
set_option maxRecDepth 100000 in
theorem take_close_no (h : IsParser w0 w fs fv vs ls) (t : ByteArray) (n a : Int) (h0 : (ls 1).length = 0) :
    Calls Try.prog 42 #[.pointer (some ⟨w0.heap.size, 0, none⟩), .agg #[.int .u8 2, .string t, .int .i64 n, .int .i64 a]] w fun e w' => e = gaveUp a 8 ∧ Below w0.heap.size w0 w' := by
  have HH := Lib.hid h
  have H0 := Lib.hid h0
  clear h h0
  go_enter Try.func42, Try.ntmps42
  go_upto_block 0 with (fail)
  obtain ⟨wb, hwb⟩ : ∃ wb, wb = (w.alloc (.cells #[.int .u8 2, .string t, .int .i64 n, .int .i64 a] 37)).alloc (.cells #[.int .u8 2, .string ⟨#[]⟩, .int .i64 0, .slice none 0 0, .int .i64 a] 40) := ⟨_, rfl⟩
  rw [← hwb]
  have hbb : Below w.heap.size w wb := by rw [hwb]; exact ((Below.refl _ w).alloc (Nat.le_refl _) _).alloc (by simp) _
  have HP := Lib.hid (HH.out.moved hbb)
  have HT : Hid (wb.heap[w.heap.size]? = some (.cells #[.int .u8 2, .string t, .int .i64 n, .int .i64 a] 37 (0, 0))) := by rw [hwb]; exact (heap_two' w _ _).1
  have HF : Hid (wb.heap[w.heap.size + 1]? = some (.cells #[.int .u8 2, .string ⟨#[]⟩, .int .i64 0, .slice none 0 0, .int .i64 a] 40 (0, 0))) := by rw [hwb]; exact (heap_two' w _ _).2
  clear hwb hbb
  obtain ⟨t0, t1, t2, t3, _, _, _, _⟩ := tok_cells HT.out
  obtain ⟨A1, c1, hv1⟩ := HP.out.slice 1 (by omega)
  have d2 := HP.out.c2
  rw [hv1] at d2
  have HV1 := Lib.hid hv1
  clear hv1
  rw [H0.out] at d2
  go_wp2_with (fail)
  go_still_tail 8, (by kernel_rfl)
  change wpList _ _ _ _ _ wb.drew
  obtain ⟨wd, hwd⟩ : ∃ wd, wd = wb.drew := ⟨_, rfl⟩
  rw [← hwd]
  have hbd : Below w0.heap.size w0 wd := by rw [hwd]; exact (HP.out.drewN 1).2.2.2
  clear hwd
  go_wp2_with (fail)
  go_at_call 43
  refine (need_no _ _ _).mono ?_
  rintro e w' ⟨rfl, rfl⟩
  exact ⟨rfl, rfl, hbd⟩
end Go.Proofs.Ytiojfdgagdofiaa.HP
set_option linter.unusedVariables false
set_option linter.unusedSimpArgs false
namespace Go.Proofs.Ytiojfdgagdofiaa.HP
open Go.RowKit Go.Proofs.Ytiojfdgagdofiaa.HK Go.Proofs.YtiojfdgagdofiaaW.PrintWords Go.Proofs.YtiojfdgagdofiaaW.PrintLast Go.Proofs.YtiojfdgagdofiaaW.PrintMore
variable {w0 w : World} {fs : List FormP} {fv : Value} {vs : Nat → Value} {ls : Nat → List Int}
set_option maxHeartbeats 4000000 in
set_option maxRecDepth 100000 in
theorem take_close_ok (h : IsParser w0 w fs fv vs ls) (t : ByteArray) (n a : Int) (h0 : 0 < (ls 1).length) (hlen : (ls 1).length ≤ 400) :
    Calls Try.prog 42 #[.pointer (some ⟨w0.heap.size, 0, none⟩), .agg #[.int .u8 2, .string t, .int .i64 n, .int .i64 a]] w fun e w' => e = .returned (.tuple #[]) ∧ ∃ vs', IsParser w0 w' fs fv vs' (closeLs ls) := by
  have HH := Lib.hid h
  have H0 := Lib.hid h0
  have HLEN := Lib.hid hlen
  clear h h0 hlen
  go_enter Try.func42, Try.ntmps42
  go_upto_block 0 with (fail)
  obtain ⟨wb, hwb⟩ : ∃ wb, wb = (w.alloc (.cells #[.int .u8 2, .string t, .int .i64 n, .int .i64 a] 37)).alloc (.cells #[.int .u8 2, .string ⟨#[]⟩, .int .i64 0, .slice none 0 0, .int .i64 a] 40) := ⟨_, rfl⟩
  rw [← hwb]
  have hbb : Below w.heap.size w wb := by rw [hwb]; exact ((Below.refl _ w).alloc (Nat.le_refl _) _).alloc (by simp) _
  have HP := Lib.hid (HH.out.moved hbb)
  have HT : Hid (wb.heap[w.heap.size]? = some (.cells #[.int .u8 2, .string t, .int .i64 n, .int .i64 a] 37 (0, 0))) := by rw [hwb]; exact (heap_two' w _ _).1
  have HF : Hid (wb.heap[w.heap.size + 1]? = some (.cells #[.int .u8 2, .string ⟨#[]⟩, .int .i64 0, .slice none 0 0, .int .i64 a] 40 (0, 0))) := by rw [hwb]; exact (heap_two' w _ _).2
  clear hwb hbb
  obtain ⟨t0, t1, t2, t3, _, _, _, _⟩ := tok_cells HT.out
  obtain ⟨A1, c1, hv1⟩ := HP.out.slice 1 (by omega)
  have d2 := HP.out.c2
  rw [hv1] at d2
  have HV1 := Lib.hid hv1
  clear hv1
  obtain ⟨m, hm⟩ : ∃ m, (ls 1).length = m + 1 := ⟨(ls 1).length - 1, by have := H0.out; omega⟩
  rw [hm] at d2
  have HM := Lib.hid hm
  clear hm
  have e0 : decide ((0 : Int) < ((m + 1 : Nat) : Int)) = true := decide_eq_true (by omega)
  have e0' : decide ((0 : Int) < (m : Int) + 1) = true := decide_eq_true (by omega)
  go_wp2_with (fail)
  go_quiet ((go_at_call 43; with_reducible exact Calls.quiet_of_same (need_ok _ _ _)))
  obtain ⟨wc, hwc⟩ : ∃ wc, wc = wb.drewN nq := ⟨_, rfl⟩
  rw [← hwc]
  have hPc : Hid (IsParser w0 wc fs fv vs ls) := by rw [hwc]; exact HP.out.drewN nq
  clear hwc d2 e0 e0'
  obtain ⟨g4, hgc, hA1⟩ : ∃ g4, m ≤ c1 ∧ A1 = some ⟨g4, 0, none⟩ := by
    have hO := hPc.out.2.2.1.1 1 (by omega)
    rw [HV1.out, HM.out] at hO
    rcases hO.2 with ⟨_, h0⟩ | ⟨g4, cap4, cur, e1, _, _, e2, _⟩
    · omega
    · injection e1 with e3 _ e5
      exact ⟨g4, by omega, e3⟩
  have HC := Lib.hid hgc
  have HV2 : Hid (vs 1 = .slice A1 (ls 1).length c1) := HV1
  rw [hA1] at HV2
  have d2 := hPc.out.c2
  have df2 := blk_frozen hPc.out.1 2
  rw [HV1.out, HM.out] at d2
  have hsl : ∀ W, (Instr.slice 24 (.slice A1 (m + 1) c1) none (some (.int .i64 (m : Int))) none).run Try.prog W = .ok (.slice A1 m c1) W := by
    intro W
    rw [hA1, run_slice_h (P := Try.prog) W 24 (some ⟨g4, 0, none⟩) (m + 1) c1 Try.underlying24 .i64 (m : Int) (by omega) (by have := HC.out; omega)]
    rw [show (sizeOf (Try.prog.elem 24)).run Try.prog W = .ok 1 W by simp [go_sem]]
    simp [go_sem, sliced, Result.andThen, Addr.add]
  have hws : IntKind.i64.wrap ((m : Int) + 1 - 1) = (m : Int) := by rw [show (m : Int) + 1 - 1 = (m : Int) by omega]; exact IntWalk.i64_in _ (by have := HLEN.out; have := HM.out; omega)
  have hws2 : IntKind.i64.wrap (m : Int) = (m : Int) := IntWalk.i64_in _ (by have := HLEN.out; have := HM.out; omega)
  go_wp2_with (fail)
  go_still_tail 14, (by kernel_rfl)
  change wpList _ _ _ _ _ wc.drew
  obtain ⟨wd, hwd⟩ : ∃ wd, wd = wc.drew := ⟨_, rfl⟩
  rw [← hwd]
  have hPd : Hid (IsParser w0 wd fs fv vs ls) := by rw [hwd]; exact hPc.out.drewN 1
  clear hwd d2 df2
  have d2 := hPd.out.c2
  have df2 := blk_frozen hPd.out.1 2
  go_wp2
  first
    | go_end0
    | skip
  have hm1 : m ≤ (ls 1).length := by rw [HM.out]; omega
  have hcl := IsParser.closed hPd.out (A := A1) (c := c1) (m := m) HV1.out hm1
  rw [hA1] at hcl
  have hcl' : IsParser w0 (wd.setCell ⟨w0.heap.size, 2, none⟩ (.slice (some ⟨g4, 0, none⟩) m c1)) fs fv (upd vs 1 (.slice (some ⟨g4, 0, none⟩) m c1)) (closeLs ls) := by
    unfold closeLs
    rw [HM.out, show m + 1 - 1 = m by omega]
    exact hcl
  exact bodyPost_ret (v := .tuple #[]) (by simp [results, Try.results42, go_sem]) rfl ⟨rfl, _, hcl'⟩
end Go.Proofs.Ytiojfdgagdofiaa.HP
set_option linter.unusedVariables false
set_option linter.unusedSimpArgs false
namespace Go.Proofs.Ytiojfdgagdofiaa.HP
open Go.RowKit Go.Proofs.Ytiojfdgagdofiaa.HK Go.Proofs.YtiojfdgagdofiaaW.PrintWords Go.Proofs.YtiojfdgagdofiaaW.PrintLast Go.Proofs.YtiojfdgagdofiaaW.PrintMore
variable {w0 w : World} {fs : List FormP} {fv : Value} {vs : Nat → Value} {ls : Nat → List Int}
set_option maxHeartbeats 4000000 in
set_option maxRecDepth 100000 in
theorem take_open_deep (h : IsParser w0 w fs fv vs ls) (t : ByteArray) (n a : Int) (h0 : ¬ (ls 1).length < 12) :
    Calls Try.prog 42 #[.pointer (some ⟨w0.heap.size, 0, none⟩), .agg #[.int .u8 1, .string t, .int .i64 n, .int .i64 a]] w fun e w' => e = gaveUp a 4 ∧ Below w0.heap.size w0 w' := by
  have HH := Lib.hid h
  have HH0 := Lib.hid h0
  clear h h0
  go_enter Try.func42, Try.ntmps42
  go_upto_block 0 with (fail)
  obtain ⟨wb, hwb⟩ : ∃ wb, wb = (w.alloc (.cells #[.int .u8 1, .string t, .int .i64 n, .int .i64 a] 37)).alloc (.cells #[.int .u8 1, .string ⟨#[]⟩, .int .i64 0, .slice none 0 0, .int .i64 a] 40) := ⟨_, rfl⟩
  rw [← hwb]
  have hbb : Below w.heap.size w wb := by rw [hwb]; exact ((Below.refl _ w).alloc (Nat.le_refl _) _).alloc (by simp) _
  have HP := Lib.hid (HH.out.moved hbb)
  have HT : Hid (wb.heap[w.heap.size]? = some (.cells #[.int .u8 1, .string t, .int .i64 n, .int .i64 a] 37 (0, 0))) := by rw [hwb]; exact (heap_two' w _ _).1
  have HF : Hid (wb.heap[w.heap.size + 1]? = some (.cells #[.int .u8 1, .string ⟨#[]⟩, .int .i64 0, .slice none 0 0, .int .i64 a] 40 (0, 0))) := by rw [hwb]; exact (heap_two' w _ _).2
  have HBB := Lib.hid hbb
  clear hwb hbb
  obtain ⟨t0, t1, t2, t3, _, _, _, _⟩ := tok_cells HT.out
  obtain ⟨A1, c1, hv1⟩ := HP.out.slice 1 (by omega)
  have d2 := HP.out.c2
  rw [hv1] at d2
  have HV1 := Lib.hid hv1
  clear hv1
  have e0 : decide (((ls 1).length : Int) < 12) = false := decide_eq_false (by have := HH0.out; omega)
  go_wp2_with (fail)
  go_still_tail 8, (by kernel_rfl)
  change wpList _ _ _ _ _ wb.drew
  obtain ⟨wd, hwd⟩ : ∃ wd, wd = wb.drew := ⟨_, rfl⟩
  rw [← hwd]
  have hbd : Below w0.heap.size w0 wd := by rw [hwd]; exact (HP.out.drewN 1).2.2.2
  clear hwd
  go_wp2_with (fail)
  go_at_call 43
  refine (need_no _ _ _).mono ?_
  rintro e w' ⟨rfl, rfl⟩
  exact ⟨rfl, rfl, hbd⟩
set_option maxHeartbeats 4000000 in
set_option maxRecDepth 100000 in
theorem take_open_add (h : IsParser w0 w fs fv vs ls) (t : ByteArray) (n a : Int) (h0 : (ls 1).length < 12) (hn : fs.length ≤ 399) (hlen : ∀ i, (ls i).length ≤ 400) (hopen : ∀ x ∈ ls 1, ∃ b : Nat, x = (b : Int) ∧ b < fs.length) :
    Calls Try.prog 42 #[.pointer (some ⟨w0.heap.size, 0, none⟩), .agg #[.int .u8 1, .string t, .int .i64 n, .int .i64 a]] w fun e w' => e = .returned (.tuple #[]) ∧ ∃ fv' vs', IsParser w0 w' (fs ++ [⟨1, ⟨#[]⟩, 0, a⟩]) fv' vs' (addLs fs.length 1 ls) := by
  have HH := Lib.hid h
  have HH0 := Lib.hid h0
  have HHN := Lib.hid hn
  have HHLEN := Lib.hid hlen
  have HHOPEN := Lib.hid hopen
  clear h h0 hn hlen hopen
  go_enter Try.func42, Try.ntmps42
  go_upto_block 0 with (fail)
  obtain ⟨wb, hwb⟩ : ∃ wb, wb = (w.alloc (.cells #[.int .u8 1, .string t, .int .i64 n, .int .i64 a] 37)).alloc (.cells #[.int .u8 1, .string ⟨#[]⟩, .int .i64 0, .slice none 0 0, .int .i64 a] 40) := ⟨_, rfl⟩
  rw [← hwb]
  have hbb : Below w.heap.size w wb := by rw [hwb]; exact ((Below.refl _ w).alloc (Nat.le_refl _) _).alloc (by simp) _
  have HP := Lib.hid (HH.out.moved hbb)
  have HT : Hid (wb.heap[w.heap.size]? = some (.cells #[.int .u8 1, .string t, .int .i64 n, .int .i64 a] 37 (0, 0))) := by rw [hwb]; exact (heap_two' w _ _).1
  have HF : Hid (wb.heap[w.heap.size + 1]? = some (.cells #[.int .u8 1, .string ⟨#[]⟩, .int .i64 0, .slice none 0 0, .int .i64 a] 40 (0, 0))) := by rw [hwb]; exact (heap_two' w _ _).2
  have HBB := Lib.hid hbb
  clear hwb hbb
  obtain ⟨t0, t1, t2, t3, _, _, _, _⟩ := tok_cells HT.out
  obtain ⟨A1, c1, hv1⟩ := HP.out.slice 1 (by omega)
  have d2 := HP.out.c2
  rw [hv1] at d2
  have HV1 := Lib.hid hv1
  clear hv1
  have e0 : decide (((ls 1).length : Int) < 12) = true := decide_eq_true (by have := HH0.out; omega)
  go_wp2_with (fail)
  go_quiet ((go_at_call 43; with_reducible exact Calls.quiet_of_same (need_ok _ _ _)))
  obtain ⟨wc, hwc⟩ : ∃ wc, wc = wb.drewN nq := ⟨_, rfl⟩
  rw [← hwc]
  have hPc : Hid (IsParser w0 wc fs fv vs ls) := by rw [hwc]; exact HP.out.drewN nq
  have hTc : Hid (wc.heap[w.heap.size]? = some (.cells #[.int .u8 1, .string t, .int .i64 n, .int .i64 a] 37 (0, 0))) := by rw [hwc]; exact HT.out
  have hFc : Hid (wc.heap[w.heap.size + 1]? = some (.cells #[.int .u8 1, .string ⟨#[]⟩, .int .i64 0, .slice none 0 0, .int .i64 a] 40 (0, 0))) := by rw [hwc]; exact HF.out
  clear hwc
  clear d2 e0 t0 t1 t2 t3
  obtain ⟨A0, c0, hv0⟩ := own_slice hPc.out.2.1
  have d0 := hPc.out.c0
  rw [hv0] at d0
  obtain ⟨u0, u1, u2, u3, _, _, _, _⟩ := tok_cells hTc.out
  have e1 : decide ((fs.length : Int) < 400) = true := decide_eq_true (by have := HHN.out; omega)
  go_wp2_with (fail)
  go_quiet ((go_at_call 43; with_reducible exact Calls.quiet_of_same (need_ok _ _ _)))
  obtain ⟨wd, hwd⟩ : ∃ wd, wd = wc.drewN nq := ⟨_, rfl⟩
  rw [← hwd]
  have hPd : Hid (IsParser w0 wd fs fv vs ls) := by rw [hwd]; exact hPc.out.drewN nq
  have hTd : Hid (wd.heap[w.heap.size]? = some (.cells #[.int .u8 1, .string t, .int .i64 n, .int .i64 a] 37 (0, 0))) := by rw [hwd]; exact hTc.out
  have hFd : Hid (wd.heap[w.heap.size + 1]? = some (.cells #[.int .u8 1, .string ⟨#[]⟩, .int .i64 0, .slice none 0 0, .int .i64 a] 40 (0, 0))) := by rw [hwd]; exact hFc.out
  clear hwd
  clear d0 u0 u1 u2 u3 e1
  obtain ⟨a0, a1, a2, a3, a4, _, _, _, _, _⟩ := form_cells hFd.out
  go_wp2_with (fail)
  go_at_call 69
  refine (add_calls hPd.out ⟨1, ⟨#[]⟩, 0, a⟩ HHN.out HHLEN.out HHOPEN.out).mono ?_
  rintro e w' ⟨rfl, fv', vs', hq⟩
  go_wp2
  first
    | go_end0
    | skip
  exact ⟨rfl, _, _, hq⟩
set_option maxHeartbeats 4000000 in
set_option maxRecDepth 100000 in
theorem take_open_full (h : IsParser w0 w fs fv vs ls) (t : ByteArray) (n a : Int) (h0 : (ls 1).length < 12) (hn : ¬ fs.length < 400) :
    Calls Try.prog 42 #[.pointer (some ⟨w0.heap.size, 0, none⟩), .agg #[.int .u8 1, .string t, .int .i64 n, .int .i64 a]] w fun e w' => e = gaveUp a 4 ∧ Below w0.heap.size w0 w' := by
  have HH := Lib.hid h
  have HH0 := Lib.hid h0
  have HHN := Lib.hid hn
  clear h h0 hn
  go_enter Try.func42, Try.ntmps42
  go_upto_block 0 with (fail)
  obtain ⟨wb, hwb⟩ : ∃ wb, wb = (w.alloc (.cells #[.int .u8 1, .string t, .int .i64 n, .int .i64 a] 37)).alloc (.cells #[.int .u8 1, .string ⟨#[]⟩, .int .i64 0, .slice none 0 0, .int .i64 a] 40) := ⟨_, rfl⟩
  rw [← hwb]
  have hbb : Below w.heap.size w wb := by rw [hwb]; exact ((Below.refl _ w).alloc (Nat.le_refl _) _).alloc (by simp) _
  have HP := Lib.hid (HH.out.moved hbb)
  have HT : Hid (wb.heap[w.heap.size]? = some (.cells #[.int .u8 1, .string t, .int .i64 n, .int .i64 a] 37 (0, 0))) := by rw [hwb]; exact (heap_two' w _ _).1
  have HF : Hid (wb.heap[w.heap.size + 1]? = some (.cells #[.int .u8 1, .string ⟨#[]⟩, .int .i64 0, .slice none 0 0, .int .i64 a] 40 (0, 0))) := by rw [hwb]; exact (heap_two' w _ _).2
  have HBB := Lib.hid hbb
  clear hwb hbb
  obtain ⟨t0, t1, t2, t3, _, _, _, _⟩ := tok_cells HT.out
  obtain ⟨A1, c1, hv1⟩ := HP.out.slice 1 (by omega)
  have d2 := HP.out.c2
  rw [hv1] at d2
  have HV1 := Lib.hid hv1
  clear hv1
  have e0 : decide (((ls 1).length : Int) < 12) = true := decide_eq_true (by have := HH0.out; omega)
  go_wp2_with (fail)
  go_quiet ((go_at_call 43; with_reducible exact Calls.quiet_of_same (need_ok _ _ _)))
  obtain ⟨wc, hwc⟩ : ∃ wc, wc = wb.drewN nq := ⟨_, rfl⟩
  rw [← hwc]
  have hPc : Hid (IsParser w0 wc fs fv vs ls) := by rw [hwc]; exact HP.out.drewN nq
  have hTc : Hid (wc.heap[w.heap.size]? = some (.cells #[.int .u8 1, .string t, .int .i64 n, .int .i64 a] 37 (0, 0))) := by rw [hwc]; exact HT.out
  have hFc : Hid (wc.heap[w.heap.size + 1]? = some (.cells #[.int .u8 1, .string ⟨#[]⟩, .int .i64 0, .slice none 0 0, .int .i64 a] 40 (0, 0))) := by rw [hwc]; exact HF.out
  clear hwc
  clear d2 e0 t0 t1 t2 t3
  obtain ⟨A0, c0, hv0⟩ := own_slice hPc.out.2.1
  have d0 := hPc.out.c0
  rw [hv0] at d0
  obtain ⟨u0, u1, u2, u3, _, _, _, _⟩ := tok_cells hTc.out
  have e1 : decide ((fs.length : Int) < 400) = false := decide_eq_false (by have := HHN.out; omega)
  go_wp2_with (fail)
  go_still_tail 8, (by kernel_rfl)
  change wpList _ _ _ _ _ wc.drew
  obtain ⟨wd, hwd⟩ : ∃ wd, wd = wc.drew := ⟨_, rfl⟩
  rw [← hwd]
  have hbd : Below w0.heap.size w0 wd := by rw [hwd]; exact (hPc.out.drewN 1).2.2.2
  clear hwd
  go_wp2_with (fail)
  go_at_call 43
  refine (need_no _ _ _).mono ?_
  rintro e w' ⟨rfl, rfl⟩
  exact ⟨rfl, rfl, hbd⟩
end Go.Proofs.Ytiojfdgagdofiaa.HP
set_option linter.unusedVariables false
set_option linter.unusedSimpArgs false
namespace Go.Proofs.Ytiojfdgagdofiaa.HP
open Go.RowKit Go.Proofs.Ytiojfdgagdofiaa.HK Go.Proofs.YtiojfdgagdofiaaW.PrintWords Go.Proofs.YtiojfdgagdofiaaW.PrintLast Go.Proofs.YtiojfdgagdofiaaW.PrintMore
variable {w0 w : World} {fs : List FormP} {fv : Value} {vs : Nat → Value} {ls : Nat → List Int}
set_option maxHeartbeats 4000000 in
set_option maxRecDepth 100000 in
theorem take_name_add (h : IsParser w0 w fs fv vs ls) (t : ByteArray) (n a : Int) (hn : fs.length ≤ 399) (hlen : ∀ i, (ls i).length ≤ 400) (hopen : ∀ x ∈ ls 1, ∃ b : Nat, x = (b : Int) ∧ b < fs.length) :
    Calls Try.prog 42 #[.pointer (some ⟨w0.heap.size, 0, none⟩), .agg #[.int .u8 3, .string t, .int .i64 n, .int .i64 a]] w fun e w' => e = .returned (.tuple #[]) ∧ ∃ fv' vs', IsParser w0 w' (fs ++ [⟨3, t, 0, a⟩]) fv' vs' (addLs fs.length 3 ls) := by
  have HH := Lib.hid h
  have HHN := Lib.hid hn
  have HHLEN := Lib.hid hlen
  have HHOPEN := Lib.hid hopen
  clear h hn hlen hopen
  go_enter Try.func42, Try.ntmps42
  go_upto_block 0 with (fail)
  obtain ⟨wb, hwb⟩ : ∃ wb, wb = (w.alloc (.cells #[.int .u8 3, .string t, .int .i64 n, .int .i64 a] 37)).alloc (.cells #[.int .u8 3, .string ⟨#[]⟩, .int .i64 0, .slice none 0 0, .int .i64 a] 40) := ⟨_, rfl⟩
  rw [← hwb]
  have hbb : Below w.heap.size w wb := by rw [hwb]; exact ((Below.refl _ w).alloc (Nat.le_refl _) _).alloc (by simp) _
  have HP := Lib.hid (HH.out.moved hbb)
  have HT : Hid (wb.heap[w.heap.size]? = some (.cells #[.int .u8 3, .string t, .int .i64 n, .int .i64 a] 37 (0, 0))) := by rw [hwb]; exact (heap_two' w _ _).1
  have HF : Hid (wb.heap[w.heap.size + 1]? = some (.cells #[.int .u8 3, .string ⟨#[]⟩, .int .i64 0, .slice none 0 0, .int .i64 a] 40 (0, 0))) := by rw [hwb]; exact (heap_two' w _ _).2
  have HBB := Lib.hid hbb
  clear hwb hbb
  obtain ⟨t0, t1, t2, t3, _, _, _, _⟩ := tok_cells HT.out
  obtain ⟨a0, a1, a2, a3, a4, f0, f1, f2, f3, f4⟩ := form_cells HF.out
  go_wp2_with (fail)
  obtain ⟨wc, hwc⟩ : ∃ wc, wc = wb.setCell ⟨w.heap.size + 1, 1, none⟩ (.string t) := ⟨_, rfl⟩
  rw [← hwc]
  have hbc : Below w.heap.size w wc := by rw [hwc]; exact HBB.out.setCell (p := ⟨w.heap.size + 1, 1, none⟩) (Nat.le_succ _) _
  have hPc : Hid (IsParser w0 wc fs fv vs ls) := Lib.hid (HH.out.moved hbc)
  have hTc : Hid (wc.heap[w.heap.size]? = some (.cells #[.int .u8 3, .string t, .int .i64 n, .int .i64 a] 37 (0, 0))) := by
    rw [hwc]
    refine (Below.heap_setCell wb _ _ _ (fun e => ?_)).trans HT.out
    have e' : w.heap.size = w.heap.size + 1 := e
    omega
  have hFc : Hid (wc.heap[w.heap.size + 1]? = some (.cells #[.int .u8 3, .string t, .int .i64 0, .slice none 0 0, .int .i64 a] 40 (0, 0))) := by rw [hwc]; exact blk_set HF.out 1 _
  clear hwc hbc a0 a1 a2 a3 a4 f0 f1 f2 f3 f4 t0 t1 t2 t3
  obtain ⟨A0, c0, hv0⟩ := own_slice hPc.out.2.1
  have d0 := hPc.out.c0
  rw [hv0] at d0
  obtain ⟨u0, u1, u2, u3, _, _, _, _⟩ := tok_cells hTc.out
  have e1 : decide ((fs.length : Int) < 400) = true := decide_eq_true (by have := HHN.out; omega)
  go_wp2_with (fail)
  go_quiet ((go_at_call 43; with_reducible exact Calls.quiet_of_same (need_ok _ _ _)))
  obtain ⟨wd, hwd⟩ : ∃ wd, wd = wc.drewN nq := ⟨_, rfl⟩
  rw [← hwd]
  have hPd : Hid (IsParser w0 wd fs fv vs ls) := by rw [hwd]; exact hPc.out.drewN nq
  have hTd : Hid (wd.heap[w.heap.size]? = some (.cells #[.int .u8 3, .string t, .int .i64 n, .int .i64 a] 37 (0, 0))) := by rw [hwd]; exact hTc.out
  have hFd : Hid (wd.heap[w.heap.size + 1]? = some (.cells #[.int .u8 3, .string t, .int .i64 0, .slice none 0 0, .int .i64 a] 40 (0, 0))) := by rw [hwd]; exact hFc.out
  clear hwd
  clear d0 u0 u1 u2 u3 e1
  obtain ⟨a0, a1, a2, a3, a4, _, _, _, _, _⟩ := form_cells hFd.out
  go_wp2_with (fail)
  go_at_call 69
  refine (add_calls hPd.out ⟨3, t, 0, a⟩ HHN.out HHLEN.out HHOPEN.out).mono ?_
  rintro e w' ⟨rfl, fv', vs', hq⟩
  go_wp2
  first
    | go_end0
    | skip
  exact ⟨rfl, _, _, hq⟩
set_option maxHeartbeats 4000000 in
set_option maxRecDepth 100000 in
theorem take_name_full (h : IsParser w0 w fs fv vs ls) (t : ByteArray) (n a : Int) (hn : ¬ fs.length < 400) :
    Calls Try.prog 42 #[.pointer (some ⟨w0.heap.size, 0, none⟩), .agg #[.int .u8 3, .string t, .int .i64 n, .int .i64 a]] w fun e w' => e = gaveUp a 4 ∧ Below w0.heap.size w0 w' := by
  have HH := Lib.hid h
  have HHN := Lib.hid hn
  clear h hn
  go_enter Try.func42, Try.ntmps42
  go_upto_block 0 with (fail)
  obtain ⟨wb, hwb⟩ : ∃ wb, wb = (w.alloc (.cells #[.int .u8 3, .string t, .int .i64 n, .int .i64 a] 37)).alloc (.cells #[.int .u8 3, .string ⟨#[]⟩, .int .i64 0, .slice none 0 0, .int .i64 a] 40) := ⟨_, rfl⟩
  rw [← hwb]
  have hbb : Below w.heap.size w wb := by rw [hwb]; exact ((Below.refl _ w).alloc (Nat.le_refl _) _).alloc (by simp) _
  have HP := Lib.hid (HH.out.moved hbb)
  have HT : Hid (wb.heap[w.heap.size]? = some (.cells #[.int .u8 3, .string t, .int .i64 n, .int .i64 a] 37 (0, 0))) := by rw [hwb]; exact (heap_two' w _ _).1
  have HF : Hid (wb.heap[w.heap.size + 1]? = some (.cells #[.int .u8 3, .string ⟨#[]⟩, .int .i64 0, .slice none 0 0, .int .i64 a] 40 (0, 0))) := by rw [hwb]; exact (heap_two' w _ _).2
  have HBB := Lib.hid hbb
  clear hwb hbb
  obtain ⟨t0, t1, t2, t3, _, _, _, _⟩ := tok_cells HT.out
  obtain ⟨a0, a1, a2, a3, a4, f0, f1, f2, f3, f4⟩ := form_cells HF.out
  go_wp2_with (fail)
  obtain ⟨wc, hwc⟩ : ∃ wc, wc = wb.setCell ⟨w.heap.size + 1, 1, none⟩ (.string t) := ⟨_, rfl⟩
  rw [← hwc]
  have hbc : Below w.heap.size w wc := by rw [hwc]; exact HBB.out.setCell (p := ⟨w.heap.size + 1, 1, none⟩) (Nat.le_succ _) _
  have hPc : Hid (IsParser w0 wc fs fv vs ls) := Lib.hid (HH.out.moved hbc)
  have hTc : Hid (wc.heap[w.heap.size]? = some (.cells #[.int .u8 3, .string t, .int .i64 n, .int .i64 a] 37 (0, 0))) := by
    rw [hwc]
    refine (Below.heap_setCell wb _ _ _ (fun e => ?_)).trans HT.out
    have e' : w.heap.size = w.heap.size + 1 := e
    omega
  have hFc : Hid (wc.heap[w.heap.size + 1]? = some (.cells #[.int .u8 3, .string t, .int .i64 0, .slice none 0 0, .int .i64 a] 40 (0, 0))) := by rw [hwc]; exact blk_set HF.out 1 _
  clear hwc hbc a0 a1 a2 a3 a4 f0 f1 f2 f3 f4 t0 t1 t2 t3
  obtain ⟨A0, c0, hv0⟩ := own_slice hPc.out.2.1
  have d0 := hPc.out.c0
  rw [hv0] at d0
  obtain ⟨u0, u1, u2, u3, _, _, _, _⟩ := tok_cells hTc.out
  have e1 : decide ((fs.length : Int) < 400) = false := decide_eq_false (by have := HHN.out; omega)
  go_wp2_with (fail)
  go_still_tail 8, (by kernel_rfl)
  change wpList _ _ _ _ _ wc.drew
  obtain ⟨wd, hwd⟩ : ∃ wd, wd = wc.drew := ⟨_, rfl⟩
  rw [← hwd]
  have hbd : Below w0.heap.size w0 wd := by rw [hwd]; exact (hPc.out.drewN 1).2.2.2
  clear hwd
  go_wp2_with (fail)
  go_at_call 43
  refine (need_no _ _ _).mono ?_
  rintro e w' ⟨rfl, rfl⟩
  exact ⟨rfl, rfl, hbd⟩
set_option maxHeartbeats 4000000 in
set_option maxRecDepth 100000 in
theorem take_num_add (h : IsParser w0 w fs fv vs ls) (t : ByteArray) (n a : Int) (hn : fs.length ≤ 399) (hlen : ∀ i, (ls i).length ≤ 400) (hopen : ∀ x ∈ ls 1, ∃ b : Nat, x = (b : Int) ∧ b < fs.length) :
    Calls Try.prog 42 #[.pointer (some ⟨w0.heap.size, 0, none⟩), .agg #[.int .u8 4, .string t, .int .i64 n, .int .i64 a]] w fun e w' => e = .returned (.tuple #[]) ∧ ∃ fv' vs', IsParser w0 w' (fs ++ [⟨4, ⟨#[]⟩, n, a⟩]) fv' vs' (addLs fs.length 4 ls) := by
  have HH := Lib.hid h
  have HHN := Lib.hid hn
  have HHLEN := Lib.hid hlen
  have HHOPEN := Lib.hid hopen
  clear h hn hlen hopen
  go_enter Try.func42, Try.ntmps42
  go_upto_block 0 with (fail)
  obtain ⟨wb, hwb⟩ : ∃ wb, wb = (w.alloc (.cells #[.int .u8 4, .string t, .int .i64 n, .int .i64 a] 37)).alloc (.cells #[.int .u8 4, .string ⟨#[]⟩, .int .i64 0, .slice none 0 0, .int .i64 a] 40) := ⟨_, rfl⟩
  rw [← hwb]
  have hbb : Below w.heap.size w wb := by rw [hwb]; exact ((Below.refl _ w).alloc (Nat.le_refl _) _).alloc (by simp) _
  have HP := Lib.hid (HH.out.moved hbb)
  have HT : Hid (wb.heap[w.heap.size]? = some (.cells #[.int .u8 4, .string t, .int .i64 n, .int .i64 a] 37 (0, 0))) := by rw [hwb]; exact (heap_two' w _ _).1
  have HF : Hid (wb.heap[w.heap.size + 1]? = some (.cells #[.int .u8 4, .string ⟨#[]⟩, .int .i64 0, .slice none 0 0, .int .i64 a] 40 (0, 0))) := by rw [hwb]; exact (heap_two' w _ _).2
  have HBB := Lib.hid hbb
  clear hwb hbb
  obtain ⟨t0, t1, t2, t3, _, _, _, _⟩ := tok_cells HT.out
  obtain ⟨a0, a1, a2, a3, a4, f0, f1, f2, f3, f4⟩ := form_cells HF.out
  go_wp2_with (fail)
  obtain ⟨wc, hwc⟩ : ∃ wc, wc = wb.setCell ⟨w.heap.size + 1, 2, none⟩ (.int .i64 n) := ⟨_, rfl⟩
  rw [← hwc]
  have hbc : Below w.heap.size w wc := by rw [hwc]; exact HBB.out.setCell (p := ⟨w.heap.size + 1, 2, none⟩) (Nat.le_succ _) _
  have hPc : Hid (IsParser w0 wc fs fv vs ls) := Lib.hid (HH.out.moved hbc)
  have hTc : Hid (wc.heap[w.heap.size]? = some (.cells #[.int .u8 4, .string t, .int .i64 n, .int .i64 a] 37 (0, 0))) := by
    rw [hwc]
    refine (Below.heap_setCell wb _ _ _ (fun e => ?_)).trans HT.out
    have e' : w.heap.size = w.heap.size + 1 := e
    omega
  have hFc : Hid (wc.heap[w.heap.size + 1]? = some (.cells #[.int .u8 4, .string ⟨#[]⟩, .int .i64 n, .slice none 0 0, .int .i64 a] 40 (0, 0))) := by rw [hwc]; exact blk_set HF.out 2 _
  clear hwc hbc a0 a1 a2 a3 a4 f0 f1 f2 f3 f4 t0 t1 t2 t3
  obtain ⟨A0, c0, hv0⟩ := own_slice hPc.out.2.1
  have d0 := hPc.out.c0
  rw [hv0] at d0
  obtain ⟨u0, u1, u2, u3, _, _, _, _⟩ := tok_cells hTc.out
  have e1 : decide ((fs.length : Int) < 400) = true := decide_eq_true (by have := HHN.out; omega)
  go_wp2_with (fail)
  go_quiet ((go_at_call 43; with_reducible exact Calls.quiet_of_same (need_ok _ _ _)))
  obtain ⟨wd, hwd⟩ : ∃ wd, wd = wc.drewN nq := ⟨_, rfl⟩
  rw [← hwd]
  have hPd : Hid (IsParser w0 wd fs fv vs ls) := by rw [hwd]; exact hPc.out.drewN nq
  have hTd : Hid (wd.heap[w.heap.size]? = some (.cells #[.int .u8 4, .string t, .int .i64 n, .int .i64 a] 37 (0, 0))) := by rw [hwd]; exact hTc.out
  have hFd : Hid (wd.heap[w.heap.size + 1]? = some (.cells #[.int .u8 4, .string ⟨#[]⟩, .int .i64 n, .slice none 0 0, .int .i64 a] 40 (0, 0))) := by rw [hwd]; exact hFc.out
  clear hwd
  clear d0 u0 u1 u2 u3 e1
  obtain ⟨a0, a1, a2, a3, a4, _, _, _, _, _⟩ := form_cells hFd.out
  go_wp2_with (fail)
  go_at_call 69
  refine (add_calls hPd.out ⟨4, ⟨#[]⟩, n, a⟩ HHN.out HHLEN.out HHOPEN.out).mono ?_
  rintro e w' ⟨rfl, fv', vs', hq⟩
  go_wp2
  first
    | go_end0
    | skip
  exact ⟨rfl, _, _, hq⟩
set_option maxHeartbeats 4000000 in
set_option maxRecDepth 100000 in
theorem take_num_full (h : IsParser w0 w fs fv vs ls) (t : ByteArray) (n a : Int) (hn : ¬ fs.length < 400) :
    Calls Try.prog 42 #[.pointer (some ⟨w0.heap.size, 0, none⟩), .agg #[.int .u8 4, .string t, .int .i64 n, .int .i64 a]] w fun e w' => e = gaveUp a 4 ∧ Below w0.heap.size w0 w' := by
  have HH := Lib.hid h
  have HHN := Lib.hid hn
  clear h hn
  go_enter Try.func42, Try.ntmps42
  go_upto_block 0 with (fail)
  obtain ⟨wb, hwb⟩ : ∃ wb, wb = (w.alloc (.cells #[.int .u8 4, .string t, .int .i64 n, .int .i64 a] 37)).alloc (.cells #[.int .u8 4, .string ⟨#[]⟩, .int .i64 0, .slice none 0 0, .int .i64 a] 40) := ⟨_, rfl⟩
  rw [← hwb]
  have hbb : Below w.heap.size w wb := by rw [hwb]; exact ((Below.refl _ w).alloc (Nat.le_refl _) _).alloc (by simp) _
  have HP := Lib.hid (HH.out.moved hbb)
  have HT : Hid (wb.heap[w.heap.size]? = some (.cells #[.int .u8 4, .string t, .int .i64 n, .int .i64 a] 37 (0, 0))) := by rw [hwb]; exact (heap_two' w _ _).1
  have HF : Hid (wb.heap[w.heap.size + 1]? = some (.cells #[.int .u8 4, .string ⟨#[]⟩, .int .i64 0, .slice none 0 0, .int .i64 a] 40 (0, 0))) := by rw [hwb]; exact (heap_two' w _ _).2
  have HBB := Lib.hid hbb
  clear hwb hbb
  obtain ⟨t0, t1, t2, t3, _, _, _, _⟩ := tok_cells HT.out
  obtain ⟨a0, a1, a2, a3, a4, f0, f1, f2, f3, f4⟩ := form_cells HF.out
  go_wp2_with (fail)
  obtain ⟨wc, hwc⟩ : ∃ wc, wc = wb.setCell ⟨w.heap.size + 1, 2, none⟩ (.int .i64 n) := ⟨_, rfl⟩
  rw [← hwc]
  have hbc : Below w.heap.size w wc := by rw [hwc]; exact HBB.out.setCell (p := ⟨w.heap.size + 1, 2, none⟩) (Nat.le_succ _) _
  have hPc : Hid (IsParser w0 wc fs fv vs ls) := Lib.hid (HH.out.moved hbc)
  have hTc : Hid (wc.heap[w.heap.size]? = some (.cells #[.int .u8 4, .string t, .int .i64 n, .int .i64 a] 37 (0, 0))) := by
    rw [hwc]
    refine (Below.heap_setCell wb _ _ _ (fun e => ?_)).trans HT.out
    have e' : w.heap.size = w.heap.size + 1 := e
    omega
  have hFc : Hid (wc.heap[w.heap.size + 1]? = some (.cells #[.int .u8 4, .string ⟨#[]⟩, .int .i64 n, .slice none 0 0, .int .i64 a] 40 (0, 0))) := by rw [hwc]; exact blk_set HF.out 2 _
  clear hwc hbc a0 a1 a2 a3 a4 f0 f1 f2 f3 f4 t0 t1 t2 t3
  obtain ⟨A0, c0, hv0⟩ := own_slice hPc.out.2.1
  have d0 := hPc.out.c0
  rw [hv0] at d0
  obtain ⟨u0, u1, u2, u3, _, _, _, _⟩ := tok_cells hTc.out
  have e1 : decide ((fs.length : Int) < 400) = false := decide_eq_false (by have := HHN.out; omega)
  go_wp2_with (fail)
  go_still_tail 8, (by kernel_rfl)
  change wpList _ _ _ _ _ wc.drew
  obtain ⟨wd, hwd⟩ : ∃ wd, wd = wc.drew := ⟨_, rfl⟩
  rw [← hwd]
  have hbd : Below w0.heap.size w0 wd := by rw [hwd]; exact (hPc.out.drewN 1).2.2.2
  clear hwd
  go_wp2_with (fail)
  go_at_call 43
  refine (need_no _ _ _).mono ?_
  rintro e w' ⟨rfl, rfl⟩
  exact ⟨rfl, rfl, hbd⟩
end Go.Proofs.Ytiojfdgagdofiaa.HP
set_option linter.unusedVariables false
set_option linter.unusedSimpArgs false
namespace Go.Proofs.Ytiojfdgagdofiaa.HP
open Go.RowKit Go.Proofs.Ytiojfdgagdofiaa.HK Go.Proofs.YtiojfdgagdofiaaW.PrintWords Go.Proofs.YtiojfdgagdofiaaW.PrintLast Go.Proofs.YtiojfdgagdofiaaW.PrintMore
variable {w0 w : World} {fs : List FormP} {fv : Value} {vs : Nat → Value} {ls : Nat → List Int}
set_option maxHeartbeats 4000000 in
set_option maxRecDepth 100000 in
theorem take_other (h : IsParser w0 w fs fv vs ls) (k : Int) (t : ByteArray) (n a : Int) (h1 : k ≠ 1) (h2 : k ≠ 2) (h3 : k ≠ 3) (h4 : k ≠ 4) :
    Calls Try.prog 42 #[.pointer (some ⟨w0.heap.size, 0, none⟩), .agg #[.int .u8 k, .string t, .int .i64 n, .int .i64 a]] w fun e w' => e = .returned (.tuple #[]) ∧ IsParser w0 w' fs fv vs ls := by
  have HH := Lib.hid h
  have e1 : (k == 1) = false := by simpa using h1
  have e2 : (k == 2) = false := by simpa using h2
  have e3 : (k == 3) = false := by simpa using h3
  have e4 : (k == 4) = false := by simpa using h4
  clear h h1 h2 h3 h4
  go_enter Try.func42, Try.ntmps42
  go_upto_block 0 with (fail)
  obtain ⟨wb, hwb⟩ : ∃ wb, wb = (w.alloc (.cells #[.int .u8 k, .string t, .int .i64 n, .int .i64 a] 37)).alloc (.cells #[.int .u8 k, .string ⟨#[]⟩, .int .i64 0, .slice none 0 0, .int .i64 a] 40) := ⟨_, rfl⟩
  rw [← hwb]
  have hbb : Below w.heap.size w wb := by rw [hwb]; exact ((Below.refl _ w).alloc (Nat.le_refl _) _).alloc (by simp) _
  have HP := Lib.hid (HH.out.moved hbb)
  have HT : Hid (wb.heap[w.heap.size]? = some (.cells #[.int .u8 k, .string t, .int .i64 n, .int .i64 a] 37 (0, 0))) := by rw [hwb]; exact (heap_two' w _ _).1
  have HF : Hid (wb.heap[w.heap.size + 1]? = some (.cells #[.int .u8 k, .string ⟨#[]⟩, .int .i64 0, .slice none 0 0, .int .i64 a] 40 (0, 0))) := by rw [hwb]; exact (heap_two' w _ _).2
  have HBB := Lib.hid hbb
  clear hwb hbb
  obtain ⟨t0, t1, t2, t3, _, _, _, _⟩ := tok_cells HT.out
  go_wp2_with (fail)
  exact bodyPost_ret (v := .tuple #[]) (by simp [results, Try.results42, go_sem]) rfl ⟨rfl, HP.out⟩
end Go.Proofs.Ytiojfdgagdofiaa.HP
/-
What parser.take does with one token, as a plain function; its contract over the translation.
-/
set_option linter.unusedVariables false
set_option linter.unusedSimpArgs false
namespace Go.Proofs.Ytiojfdgagdofiaa.HP
open Go.RowKit Go.Proofs.Ytiojfdgagdofiaa.HB Go.Proofs.Ytiojfdgagdofiaa.HK Go.Proofs.YtiojfdgagdofiaaW.PrintWords Go.Proofs.YtiojfdgagdofiaaW.PrintLast Go.Proofs.YtiojfdgagdofiaaW.PrintMore
variable {w0 w : World} {fs : List FormP} {fv : Value} {vs : Nat → Value} {ls : Nat → List Int}
/-- The form that a token makes. -/
def formOf (T : S37) : FormP := ⟨T.f0, if T.f0 = 3 then T.f1 else ⟨#[]⟩, if T.f0 = 4 then T.f2 else 0, T.f3⟩
def takeP (fs : List FormP) (ls : Nat → List Int) (T : S37) : Except (Int × Int) (List FormP × (Nat → List Int)) :=
  if T.f0 = 2 then (if (ls 1).length = 0 then .error (T.f3, 8) else .ok (fs, closeLs ls))
  else if T.f0 = 1 ∧ ¬ (ls 1).length < 12 then .error (T.f3, 4)
  else if T.f0 = 1 ∨ T.f0 = 3 ∨ T.f0 = 4 then (if fs.length < 400 then .ok (fs ++ [formOf T], addLs fs.length T.f0 ls) else .error (T.f3, 4))
  else .ok (fs, ls)
/-- What holds between two tokens. -/
def TInv (fs : List FormP) (ls : Nat → List Int) : Prop :=
  fs.length ≤ 400 ∧ (∀ i, (ls i).length ≤ fs.length) ∧ ∀ x ∈ ls 1, ∃ b : Nat, x = (b : Int) ∧ b < fs.length
theorem addLs_len (n : Nat) (k : Int) (ls : Nat → List Int) (h : ∀ i, (ls i).length ≤ n) : ∀ i, (addLs n k ls i).length ≤ n + 1 := by
  have h1 : ∀ i, (upd ls (n + 2) [] i).length ≤ n := by
    intro i
    unfold upd
    split
    · simp
    · exact h i
  have hp : ∀ (f : Nat → List Int) (j : Nat), (∀ i, (f i).length ≤ n) → ∀ i, (upd f j (f j ++ [(n : Int)]) i).length ≤ n + 1 := by
    intro f j hf i
    unfold upd
    split
    · rw [List.length_append, List.length_singleton]; have := hf j; omega
    · have := hf i; omega
  have h11 : upd ls (n + 2) [] 1 = ls 1 := upd_other _ _ (by omega)
  intro i
  unfold addLs
  by_cases h0 : (ls 1).length = 0
  · rw [if_pos h0]
    split
    · by_cases hi : i = 1
      · subst hi
        rw [upd_same, upd_other _ _ (by omega), h11, List.length_append, List.length_singleton]
        have := h 1; omega
      · rw [upd_other _ _ hi]; exact hp _ 0 h1 i
    · exact hp _ 0 h1 i
  · rw [if_neg h0]
    split
    · by_cases hi : i = 1
      · subst hi
        rw [upd_same, upd_other _ _ (by omega), h11, List.length_append, List.length_singleton]
        have := h 1; omega
      · rw [upd_other _ _ hi]; exact hp _ _ h1 i
    · exact hp _ _ h1 i
theorem addLs_one (n : Nat) (k : Int) (ls : Nat → List Int) : addLs n k ls 1 = if k = 1 then ls 1 ++ [(n : Int)] else ls 1 := by
  have h11 : upd ls (n + 2) [] 1 = ls 1 := upd_other _ _ (by omega)
  unfold addLs
  by_cases h0 : (ls 1).length = 0
  · rw [if_pos h0]
    split
    · rw [upd_same, upd_other _ _ (by omega), h11]
    · rw [upd_other _ _ (by omega), h11]
  · rw [if_neg h0]
    split
    · rw [upd_same, upd_other _ _ (by omega), h11]
    · rw [upd_other _ _ (by omega), h11]
theorem TInv.start : TInv [] (fun _ => []) := ⟨Nat.zero_le _, fun _ => Nat.le_refl _, fun x hx => by simp at hx⟩
theorem TInv.take (h : TInv fs ls) {T : S37} {fs' : List FormP} {ls' : Nat → List Int} (ht : takeP fs ls T = .ok (fs', ls')) : TInv fs' ls' := by
  obtain ⟨h1, h2, h3⟩ := h
  unfold takeP at ht
  by_cases e2 : T.f0 = 2
  · rw [if_pos e2] at ht
    by_cases e0 : (ls 1).length = 0
    · rw [if_pos e0] at ht; cases ht
    · rw [if_neg e0] at ht
      injection ht with ht
      injection ht with ha hb
      subst ha hb
      refine ⟨h1, fun i => ?_, fun x hx => ?_⟩
      · unfold closeLs upd
        split
        · rename_i hi; subst hi
          rw [List.length_take]; have := h2 1; omega
        · exact h2 i
      · unfold closeLs at hx
        rw [upd_same] at hx
        exact h3 x (List.mem_of_mem_take hx)
  · rw [if_neg e2] at ht
    by_cases e1 : T.f0 = 1 ∧ ¬ (ls 1).length < 12
    · rw [if_pos e1] at ht; cases ht
    · rw [if_neg e1] at ht
      by_cases e3 : T.f0 = 1 ∨ T.f0 = 3 ∨ T.f0 = 4
      · rw [if_pos e3] at ht
        by_cases e4 : fs.length < 400
        · rw [if_pos e4] at ht
          injection ht with ht
          injection ht with ha hb
          subst ha hb
          refine ⟨by rw [List.length_append, List.length_singleton]; omega, fun i => ?_, fun x hx => ?_⟩
          · rw [List.length_append, List.length_singleton]; exact addLs_len _ _ _ h2 i
          · rw [List.length_append, List.length_singleton]
            rw [addLs_one] at hx
            split at hx
            · rcases List.mem_append.1 hx with hx | hx
              · obtain ⟨b, hb, hlt⟩ := h3 x hx
                exact ⟨b, hb, by omega⟩
              · exact ⟨fs.length, List.mem_singleton.1 hx, by omega⟩
            · obtain ⟨b, hb, hlt⟩ := h3 x hx
              exact ⟨b, hb, by omega⟩
        · rw [if_neg e4] at ht; cases ht
      · rw [if_neg e3] at ht
        injection ht with ht
        injection ht with ha hb
        subst ha hb
        exact ⟨h1, h2, h3⟩
/-- How the call ends. -/
def TakeEnds (w0 : World) (r : Except (Int × Int) (List FormP × (Nat → List Int))) (e : Ending) (w' : World) : Prop :=
  match r with
  | .ok (fs', ls') => e = .returned (.tuple #[]) ∧ ∃ fv' vs', IsParser w0 w' fs' fv' vs' ls'
  | .error (a, why) => e = gaveUp a why ∧ Below w0.heap.size w0 w'
theorem take_calls (h : IsParser w0 w fs fv vs ls) (hI : TInv fs ls) (T : S37) :
    Calls Try.prog 42 #[.pointer (some ⟨w0.heap.size, 0, none⟩), .agg #[.int .u8 T.f0, .string T.f1, .int .i64 T.f2, .int .i64 T.f3]] w fun e w' => TakeEnds w0 (takeP fs ls T) e w' := by
  obtain ⟨k, t, n, a⟩ := T
  have hlen : ∀ i, (ls i).length ≤ 400 := fun i => Nat.le_trans (hI.2.1 i) hI.1
  unfold takeP formOf
  dsimp only
  by_cases e2 : k = 2
  · subst e2
    rw [if_pos rfl]
    by_cases e0 : (ls 1).length = 0
    · rw [if_pos e0]; exact take_close_no h t n a e0
    · rw [if_neg e0]
      refine (take_close_ok h t n a (by omega) (hlen 1)).mono ?_
      rintro e w' ⟨rfl, vs', hq⟩
      exact ⟨rfl, _, _, hq⟩
  · rw [if_neg e2]
    by_cases e1 : k = 1
    · subst e1
      by_cases e0 : (ls 1).length < 12
      · rw [if_neg (by rintro ⟨_, h⟩; exact h e0), if_pos (.inl rfl)]
        by_cases e4 : fs.length < 400
        · rw [if_pos e4, if_neg (show ¬ (1 : Int) = 3 by decide), if_neg (show ¬ (1 : Int) = 4 by decide)]; exact take_open_add h t n a e0 (by omega) hlen hI.2.2
        · rw [if_neg e4]; exact take_open_full h t n a e0 e4
      · rw [if_pos ⟨rfl, e0⟩]; exact take_open_deep h t n a e0
    · rw [if_neg (fun h => e1 h.1)]
      by_cases e3 : k = 3
      · subst e3
        rw [if_pos (.inr (.inl rfl))]
        by_cases e4 : fs.length < 400
        · rw [if_pos e4, if_pos rfl, if_neg (show ¬ (3 : Int) = 4 by decide)]; exact take_name_add h t n a (by omega) hlen hI.2.2
        · rw [if_neg e4]; exact take_name_full h t n a e4
      · by_cases e5 : k = 4
        · subst e5
          rw [if_pos (.inr (.inr rfl))]
          by_cases e4 : fs.length < 400
          · rw [if_pos e4, if_neg (show ¬ (4 : Int) = 3 by decide), if_pos rfl]; exact take_num_add h t n a (by omega) hlen hI.2.2
          · rw [if_neg e4]; exact take_num_full h t n a e4
        · rw [if_neg (by rintro (h | h | h); exact e1 h; exact e3 h; exact e5 h)]
          refine (take_other h k t n a e1 e2 e3 e5).mono ?_
          rintro e w' ⟨rfl, hq⟩
          exact ⟨rfl, _, _, hq⟩
def runP : List FormP → (Nat → List Int) → List S37 → Except (Int × Int) (List FormP × (Nat → List Int))
  | fs, ls, [] => .ok (fs, ls)
  | fs, ls, T :: r => match takeP fs ls T with
    | .ok (fs', ls') => runP fs' ls' r
    | .error e => .error e
/-- What Parse answers. -/
def parseP (ts : List S37) : Except (Int × Int) (List FormP × (Nat → List Int)) :=
  match runP [] (fun _ => []) ts with
  | .ok (fs, ls) => if 0 < (ls 1).length then .error ((fs.getD (lastOpen (ls 1)) ⟨0, ⟨#[]⟩, 0, 0⟩).at_, 8) else .ok (fs, ls)
  | .error e => .error e
theorem TInv.run : ∀ (ts : List S37) (fs : List FormP) (ls : Nat → List Int), TInv fs ls → ∀ fs' ls', runP fs ls ts = .ok (fs', ls') → TInv fs' ls'
  | [], fs, ls, h, fs', ls', he => by
    injection he with he
    injection he with ha hb
    subst ha hb
    exact h
  | T :: r, fs, ls, h, fs', ls', he => by
    rw [runP] at he
    cases ht : takeP fs ls T with
    | error e => rw [ht] at he; cases he
    | ok p =>
      obtain ⟨fs1, ls1⟩ := p
      rw [ht] at he
      exact TInv.run r fs1 ls1 (h.take ht) fs' ls' he
end Go.Proofs.Ytiojfdgagdofiaa.HP
