/-
Rows of numbers, edges and graphs, as they lie in memory; slices.Clone of edges and graph.Check over the translation.
-/
import Derived.Test.YtbldlmolbdkabaaPre
import Derived.Lib.Hide
import Derived.WideKeyEntry
import Derived.DeepKeys4
import Derived.Maps.OwnRows
import Derived.Lib.Walk
import Derived.Lib.SliceRun
set_option linter.unusedVariables false
set_option linter.unusedSimpArgs false
namespace Go.Proofs.Ytbldlmolbdkabaa.HP
open Go.RowKit Go.Proofs.YtbldlmolbdkabaaW.PrintWords Go.Proofs.YtbldlmolbdkabaaW.PrintLast Go.Proofs.YtbldlmolbdkabaaW.PrintMore
def upd {α : Type} (f : Nat → α) (i : Nat) (x : α) : Nat → α := fun j => if j = i then x else f j
theorem upd_same {α : Type} (f : Nat → α) (i : Nat) (x : α) : upd f i x i = x := by simp [upd]
theorem upd_other {α : Type} (f : Nat → α) {i j : Nat} (x : α) (h : j ≠ i) : upd f i x j = f j := by simp [upd, h]

/-! ### rows of whole numbers, apart from each other -/
def RowsN (w : World) (base n : Nat) (vs : Nat → Value) (ls : Nat → List Int) : Prop :=
  (∀ i, i < n → w.ownsRow base 3 1 (vs i) (ls i).length (nums .i64 (ls i))) ∧ ∀ i j, i < n → j < n → i ≠ j → (vs i).ownBlock = none ∨ (vs i).ownBlock ≠ (vs j).ownBlock
theorem RowsN.move {w w1 : World} {base n : Nat} {vs : Nat → Value} {ls : Nat → List Int} (h : RowsN w base n vs ls) (hm : ∀ i k, i < n → (vs i).ownBlock = some k → w1.heap[k]? = w.heap[k]?) : RowsN w1 base n vs ls :=
  ⟨fun i hi => own_move (h.1 i hi) (fun k hk => hm i k hi hk), h.2⟩
theorem RowsN.drew {w : World} {base n : Nat} {vs : Nat → Value} {ls : Nat → List Int} (h : RowsN w base n vs ls) : RowsN w.drew base n vs ls := h.move fun _ _ _ _ => rfl
theorem RowsN.alloc {w : World} {base n : Nat} {vs : Nat → Value} {ls : Nat → List Int} (h : RowsN w base n vs ls) (o : Obj) : RowsN (w.alloc o) base n vs ls :=
  h.move fun i k hi hk => Below.heap_alloc w o k (own_lt (h.1 i hi) k hk)
theorem RowsN.below {w w1 : World} {base n : Nat} {vs : Nat → Value} {ls : Nat → List Int} (h : RowsN w base n vs ls) (hb : Below w.heap.size w w1) : RowsN w1 base n vs ls :=
  h.move fun i k hi hk => hb.block k (own_lt (h.1 i hi) k hk)
theorem RowsN.far {w : World} {base n g t : Nat} {cs : Array Value} {vs : Nat → Value} {ls : Nat → List Int} (h : RowsN w base n vs ls) (hg : w.heap[g]? = some (.cells cs t (0, 0))) (ht : 3 ≠ t) (j : Nat) (u : Value) : RowsN (w.setCell ⟨g, j, none⟩ u) base n vs ls :=
  h.move fun i k hi hk => by
    obtain ⟨cells, hc⟩ := own_typed (h.1 i hi) k hk
    exact Below.heap_setCell w _ u k (fun e => by
      have e' : k = g := e
      subst e'
      exact blk_ne hc hg ht rfl)
/-- What an append to a row of another type leaves. -/
theorem RowsN.grown {w w1 : World} {base n t base' m size : Nat} {v : Value} {xs : List Value} {vs : Nat → Value} {ls : Nat → List Int} (h : RowsN w base n vs ls) (ho : w.ownsRow base' t size v m xs) (ht : 3 ≠ t) (hg : w.grownBy w1 v.ownBlock) : RowsN w1 base n vs ls :=
  h.move fun i k hi hk => hg.block k (own_lt (h.1 i hi) k hk) (by
    intro e
    have := own_type_ne (h.1 i hi) ho ht
    rcases this with h0 | h0
    · rw [hk] at h0; cases h0
    · exact h0 (hk.trans e))
/-- What an append to row i leaves. -/
theorem RowsN.appended {w w1 : World} {base n : Nat} {vs : Nat → Value} {ls : Nat → List Int} {i : Nat} {x : Int} {v1 : Value} (h : RowsN w base n vs ls) (hi : i < n)
    (hown : w1.ownsRow base 3 1 v1 ((ls i).length + 1) (nums .i64 (ls i) ++ [.int .i64 x])) (hg : w.grownBy w1 (vs i).ownBlock) (hat : v1.ownBlock = (vs i).ownBlock ∨ ∃ b, v1.ownBlock = some b ∧ w.heap.size ≤ b) :
    RowsN w1 base n (upd vs i v1) (upd ls i (ls i ++ [x])) := by
  have hold : ∀ j, j < n → j ≠ i → ∀ k, (vs j).ownBlock = some k → k < w.heap.size ∧ some k ≠ (vs i).ownBlock := by
    intro j hj hne k hk
    refine ⟨own_lt (h.1 j hj) k hk, fun e => ?_⟩
    rcases h.2 j i hj hi hne with h0 | h0
    · rw [hk] at h0; cases h0
    · exact h0 (hk.trans e)
  refine ⟨fun j hj => ?_, fun j m hj hm hne => ?_⟩
  · by_cases e : j = i
    · subst e
      rw [upd_same, upd_same, List.length_append, List.length_singleton, nums_append]
      exact hown
    · rw [upd_other _ _ e, upd_other _ _ e]
      exact own_move (h.1 j hj) (fun k hk => hg.block k (hold j hj e k hk).1 (hold j hj e k hk).2)
  · by_cases ej : j = i
    · subst ej
      have em : m ≠ j := fun e => hne e.symm
      rw [upd_same, upd_other _ _ em]
      rcases hat with hat | ⟨b, hb, hle⟩
      · rw [hat]; exact h.2 j m hj hm hne
      · right
        rw [hb]
        intro e
        have := (hold m hm em b e.symm).1
        omega
    · by_cases em : m = i
      · subst em
        rw [upd_same, upd_other _ _ ej]
        rcases hat with hat | ⟨b, hb, hle⟩
        · rw [hat]; exact h.2 j m hj hm hne
        · cases hk : (vs j).ownBlock with
          | none => exact .inl rfl
          | some k =>
            right
            rw [hb]
            intro e
            have := (hold j hj ej k hk).1
            injection e with e
            omega
      · rw [upd_other _ _ ej, upd_other _ _ em]
        exact h.2 j m hj hm hne
/-- One row more, empty. -/
theorem RowsN.more {w : World} {base n : Nat} {vs : Nat → Value} {ls : Nat → List Int} (h : RowsN w base n vs ls) : RowsN w base (n + 1) (upd vs n (.slice none 0 0)) (upd ls n []) := by
  refine ⟨fun i hi => ?_, fun i j hi hj hne => ?_⟩
  · by_cases e : i = n
    · subst e; rw [upd_same, upd_same]; exact own_nil _ _ _ _
    · rw [upd_other _ _ e, upd_other _ _ e]; exact h.1 i (by omega)
  · by_cases e : i = n
    · subst e; rw [upd_same]; exact .inl rfl
    · rw [upd_other _ _ e]
      by_cases e2 : j = n
      · subst e2
        rw [upd_same]
        cases hk : (vs i).ownBlock with
        | none => exact .inl rfl
        | some k => exact .inr (by intro h; cases h)
      · rw [upd_other _ _ e2]; exact h.2 i j (by omega) (by omega) hne
/-- A row cut back. -/
theorem RowsN.cutBack {w : World} {base n : Nat} {vs : Nat → Value} {ls : Nat → List Int} {i m c : Nat} {A : Option Addr} (h : RowsN w base n vs ls) (hi : i < n) (hv : vs i = .slice A (ls i).length c) (hm : m ≤ (ls i).length) : RowsN w base n (upd vs i (.slice A m c)) (upd ls i ((ls i).take m)) := by
  have hb : (Value.slice A m c).ownBlock = (vs i).ownBlock := by rw [hv]; cases A <;> rfl
  refine ⟨fun j hj => ?_, fun j k hj hk hne => ?_⟩
  · by_cases e : j = i
    · subst e
      rw [upd_same, upd_same]
      have := h.1 j hj
      rw [hv] at this
      have := own_take this hm
      rw [Nat.mul_one] at this
      rw [List.length_take, Nat.min_eq_left hm]
      simpa [nums, List.map_take] using this
    · rw [upd_other _ _ e, upd_other _ _ e]; exact h.1 j hj
  · have hu : ∀ x, (upd vs i (.slice A m c) x).ownBlock = (vs x).ownBlock := by
      intro x
      by_cases e : x = i
      · subst e; rw [upd_same, hb]
      · rw [upd_other _ _ e]
    rw [hu, hu]
    exact h.2 j k hj hk hne

/-- A row of whole numbers in memory. -/
def IRow (w : World) (A : Option Addr) (l : List Int) : Prop :=
  ∀ j, j < l.length → ∃ g o : Nat, A = some ⟨g, o, none⟩ ∧ g < w.heap.size ∧ w.cell? ⟨g, o + j, none⟩ = some (.int .i64 (l.getD j 0))
theorem IRow.below {w w1 : World} {A : Option Addr} {l : List Int} (h : IRow w A l) (hb : Below w.heap.size w w1) : IRow w1 A l := by
  intro j hj
  obtain ⟨g, o, hA, hg, c0⟩ := h j hj
  exact ⟨g, o, hA, Nat.lt_of_lt_of_le hg hb.size, by rw [hb.cell (p := ⟨g, o + j, none⟩) hg]; exact c0⟩
theorem IRow.nil (w : World) (A : Option Addr) : IRow w A [] := fun j hj => by simp at hj
theorem own_irow {w : World} {base : Nat} {v : Value} {l : List Int} (h : w.ownsRow base 3 1 v l.length (nums .i64 l)) : ∃ A c, v = .slice A l.length c ∧ l.length ≤ c ∧ IRow w A l := by
  rcases h.2 with ⟨rfl, h0⟩ | ⟨g, cap, cur, rfl, _, _, hle, _⟩
  · exact ⟨none, 0, by rw [h0], by omega, fun j hj => by omega⟩
  · refine ⟨some ⟨g, 0, none⟩, cap, rfl, hle, fun j hj => ⟨g, 0, rfl, own_lt h g rfl, ?_⟩⟩
    have := h.cellAt (0 + j) (by omega)
    rw [this, Nat.zero_add]
    simp [nums, List.getD_eq_getElem?_getD, List.getElem?_eq_getElem hj]
theorem irow_reads {w : World} {A : Option Addr} {l : List Int} (h : IRow w A l) (hl : l.length ≤ 9223372036854775807) : ReadsInt w .i64 A l.length l := by
  refine ⟨rfl, hl, fun h0 => ?_⟩
  obtain ⟨g, o, e, _, _⟩ := h 0 h0
  refine ⟨⟨g, o, none⟩, e, fun j hj => ?_⟩
  obtain ⟨g', o', e', _, hc⟩ := h j hj
  rw [e] at e'
  injection e' with e'
  injection e' with e1 e2
  subst e1 e2
  rw [show (⟨g, o, none⟩ : Addr).add j = ⟨g, o + j, none⟩ by unfold Addr.add; split <;> simp_all]
  exact hc
def lenV : Value → Nat
  | .slice _ n _ => n
  | _ => 0

theorem info3 : (Try.prog.info? 3).map (fun i => (i.zero, i.size, i.bytes)) = some (some (.int .i64 0), 1, 8) := by kernel_rfl
theorem info36 : (Try.prog.info? 36).map (fun i => (i.zero, i.size, i.bytes)) = some (some (.agg #[.int .i64 0, .int .i64 0]), 2, 16) := by kernel_rfl
theorem info37 : (Try.prog.info? 37).map (fun i => (i.zero, i.size, i.bytes)) = some (some (.slice none 0 0), 1, 24) := by kernel_rfl

/-! ### edges -/
abbrev EdgeP := Int × Int
def noEdge : EdgeP := (0, 0)
/-- A row of edges in memory. -/
def ERow (w : World) (A : Option Addr) (es : List EdgeP) : Prop :=
  ∀ (j : Nat) (p : EdgeP), es[j]? = some p → ∃ g o : Nat, A = some ⟨g, o, none⟩ ∧ g < w.heap.size ∧ w.cell? ⟨g, o + j * 2, none⟩ = some (.int .i64 p.1) ∧ w.cell? ⟨g, o + j * 2 + 1, none⟩ = some (.int .i64 p.2)
theorem ERow.below {w w1 : World} {A : Option Addr} {es : List EdgeP} (h : ERow w A es) (hb : Below w.heap.size w w1) : ERow w1 A es := by
  intro j p hj
  obtain ⟨g, o, hA, hg, c0, c1⟩ := h j p hj
  have hh : ∀ i, w1.cell? ⟨g, i, none⟩ = w.cell? ⟨g, i, none⟩ := fun i => hb.cell (p := ⟨g, i, none⟩) hg
  exact ⟨g, o, hA, Nat.lt_of_lt_of_le hg hb.size, by rw [hh]; exact c0, by rw [hh]; exact c1⟩
theorem ERow.nil (w : World) (A : Option Addr) : ERow w A [] := fun j p hj => by simp at hj
def ecells (es : List EdgeP) : List Value := es.flatMap fun p => [.int .i64 p.1, .int .i64 p.2]
theorem ecells_length : ∀ (es : List EdgeP), (ecells es).length = es.length * 2
  | [] => rfl
  | p :: r => by
    have := ecells_length r
    show (ecells r).length + 1 + 1 = _
    rw [List.length_cons]
    omega
theorem ecells_append (es fs : List EdgeP) : ecells (es ++ fs) = ecells es ++ ecells fs := by unfold ecells; rw [List.flatMap_append]
theorem ecells_get : ∀ (es : List EdgeP) (j : Nat) (p : EdgeP), es[j]? = some p → (ecells es)[j * 2]? = some (.int .i64 p.1) ∧ (ecells es)[j * 2 + 1]? = some (.int .i64 p.2)
  | [], j, p, h => by simp at h
  | q :: r, 0, p, h => by
    have : q = p := by simpa using h
    subst this
    exact ⟨rfl, rfl⟩
  | q :: r, j + 1, p, h => by
    have := ecells_get r j p (by simpa using h)
    rw [show (j + 1) * 2 = j * 2 + 2 by omega]
    exact this
theorem own_erow {w : World} {base : Nat} {v : Value} {es : List EdgeP} (h : w.ownsRow base 36 2 v es.length (ecells es)) : ∃ A c, v = .slice A es.length c ∧ es.length ≤ c ∧ ERow w A es := by
  rcases h.2 with ⟨rfl, h0⟩ | ⟨g, cap, cur, rfl, _, _, hle, _⟩
  · exact ⟨none, 0, by rw [h0], by omega, fun j p hj => by have := (List.getElem?_eq_some_iff.1 hj).1; omega⟩
  · refine ⟨some ⟨g, 0, none⟩, cap, rfl, hle, fun j p hj => ⟨g, 0, rfl, own_lt h g rfl, ?_, ?_⟩⟩
    all_goals
      have hlt := (List.getElem?_eq_some_iff.1 hj).1
      obtain ⟨x0, x1⟩ := ecells_get es j p hj
    · rw [Nat.zero_add, h.cellAt (j * 2) (by omega)]; exact x0
    · rw [Nat.zero_add, h.cellAt (j * 2 + 1) (by omega)]; exact x1
theorem ecells_one (es : List EdgeP) : ∀ u ∈ ecells es, u.oneCell' = true := by
  intro u hu
  unfold ecells at hu
  obtain ⟨p, _, hp⟩ := List.mem_flatMap.1 hu
  simp at hp
  rcases hp with rfl | rfl <;> rfl
theorem addr_add (g o j : Nat) : (⟨g, o, none⟩ : Addr).add j = ⟨g, o + j, none⟩ := by unfold Addr.add; split <;> simp_all
theorem erow_cells {w : World} {g o : Nat} {es : List EdgeP} (h : ERow w (some ⟨g, o, none⟩) es) : ∀ (j : Nat) (u : Value), (ecells es)[j]? = some u → w.cell? ((⟨g, o, none⟩ : Addr).add j) = some u := by
  intro j u hu
  have hlt := (List.getElem?_eq_some_iff.1 hu).1
  rw [ecells_length] at hlt
  obtain ⟨q, r, rfl, hr⟩ : ∃ q r, j = q * 2 + r ∧ r < 2 := ⟨j / 2, j % 2, by omega, Nat.mod_lt _ (by decide)⟩
  have hq : q < es.length := by omega
  obtain ⟨g', o', e, _, c0, c1⟩ := h q es[q] (List.getElem?_eq_getElem hq)
  obtain ⟨x0, x1⟩ := ecells_get es q es[q] (List.getElem?_eq_getElem hq)
  injection e with e
  injection e with e1 e2
  subst e1 e2
  rw [addr_add, show o + (q * 2 + r) = o + q * 2 + r by omega]
  match r, hr, hu with
  | 0, _, hu => rw [Nat.add_zero, c0, ← x0]; exact hu
  | 1, _, hu => rw [c1, ← x1]; exact hu
/-- slices.Clone of edges. -/
def EdgeEnds (w : World) (es : List EdgeP) (e : Ending) (w' : World) : Prop := ∃ v, e = .returned v ∧ w'.ownsRow w.heap.size 36 2 v es.length (ecells es) ∧ Below w.heap.size w w'
set_option maxHeartbeats 4000000 in
set_option maxRecDepth 100000 in
theorem cloneEdges_calls (w : World) (A : Option Addr) (c : Nat) (es : List EdgeP) (hE : ERow w A es) (hl : es.length ≤ 1000000) : Calls Try.prog 29 #[.slice A es.length c] w fun e w' => EdgeEnds w es e w' := by
  have q : ∀ (w : World) (a : Option Addr) (n c n' c' : Nat), (binOp .eql 32 (.slice a n c) (.slice none n' c')).run Try.prog w = .ok (.bool a.isNone) w := fun w a n c n' c' => Lib.run_eql_slice_nil w _ _ a n c n' c' Try.underlying32
  obtain ⟨i0, hi, hz0, hz1, hz2⟩ := info_parts info36
  cases A with
  | none =>
    have h0 : es = [] := by
      cases es with
      | nil => rfl
      | cons x r => obtain ⟨g, o, e, _⟩ := hE 0 x rfl; cases e
    subst h0
    clear hE
    go_enter Try.func29, Try.ntmps29
    go_wp2
    go_ret
    exact ⟨_, rfl, own_nil _ _ _ _, Below.refl _ _⟩
  | some a =>
    have hc : ∀ (j : Nat) (u : Value), (ecells es)[j]? = some u → w.cell? (a.add j) = some u := by
      intro j u hu
      have hlt := (List.getElem?_eq_some_iff.1 hu).1
      rw [ecells_length] at hlt
      obtain ⟨g, o, e, _⟩ := hE 0 es[0] (List.getElem?_eq_getElem (by omega))
      injection e with e
      subst e
      exact erow_cells hE j u hu
    have HC := Lib.hid hc
    clear hc hE
    go_enter Try.func29, Try.ntmps29
    go_wp2_with (at_builtin; refine wpList_append_own _ rfl _ _ 32 rfl w.heap.size 36 i0 (.agg #[.int .i64 0, .int .i64 0]) 2 16 Try.underlying32 hi hz0 hz1 hz2 rfl (by decide) _ _ _ rfl (World.ownsRow_made w #[] 0 (Nat.le_refl _) (Nat.zero_le _) rfl) a es.length c (ecells es) rfl ?qc1 ?qc2 ?qc3 ?qc4 ?qc5 ?qc6 ?_)
    case qc1 => rw [ecells_length]
    case qc2 => intro j u hu; exact Lib.cell?_alloc_some _ (HC.out j u hu)
    case qc3 => exact ecells_one es
    case qc4 => unfold maxLen; omega
    case qc5 => omega
    case qc6 => simp
    intro v' w1 hown hgrow hnil
    go_wp2
    go_ret
    exact ⟨v', rfl, by simpa using hown, ((Below.refl _ w).alloc (Nat.le_refl _) _).grown hgrow (by simp) (by intro k hk; simp [Value.ownBlock] at hk; omega)⟩

/-! ### which graphs may be -/
def okG (n : Int) (es : List EdgeP) : Prop := (1 ≤ n ∧ n ≤ 12) ∧ es.length ≤ 30 ∧ ∀ p ∈ es, (0 ≤ p.1 ∧ p.1 < n) ∧ (0 ≤ p.2 ∧ p.2 < n)
open Classical in
noncomputable def errG (n : Int) (es : List EdgeP) : Int := if okG n es then 0 else 11
set_option maxHeartbeats 4000000 in
set_option maxRecDepth 100000 in
/-- Check's function value. -/
theorem node_calls (W : World) (b : Nat) (n x : Int) (hc : W.cell? ⟨b, 0, none⟩ = some (.int .i64 n)) :
    Calls Try.prog 33 #[.int .i64 x, .pointer (some ⟨b, 0, none⟩)] W fun e W' => e = .returned (.bool (decide (0 ≤ x) && decide (x < n))) ∧ W' = W := by
  by_cases h0 : 0 ≤ x
  · have b0 : decide (x ≥ 0) = true := decide_eq_true h0
    have b0' : decide (0 ≤ x) = true := decide_eq_true h0
    by_cases h1 : x < n
    · have b1 : decide (x < n) = true := decide_eq_true h1
      clear h0 h1
      go_enter Try.func33, Try.ntmps33
      go_wp2
      go_ret
      exact ⟨by show Ending.returned (Value.bool _) = _; rw [b0', b1]; rfl, rfl⟩
    · have b1 : decide (x < n) = false := decide_eq_false h1
      clear h0 h1
      go_enter Try.func33, Try.ntmps33
      go_wp2
      go_ret
      exact ⟨by show Ending.returned (Value.bool _) = _; rw [b0', b1]; rfl, rfl⟩
  · have b0 : decide (x ≥ 0) = false := decide_eq_false h0
    have b0' : decide (0 ≤ x) = false := decide_eq_false h0
    clear h0
    go_enter Try.func33, Try.ntmps33
    go_wp2
    go_ret
    exact ⟨by show Ending.returned (Value.bool _) = _; rw [b0']; rfl, rfl⟩
def CheckEnds (w : World) (n : Int) (es : List EdgeP) (e : Ending) (w' : World) : Prop := ∃ x, e = .returned (.tuple #[.int .i64 x, .int .i64 (errG n es)]) ∧ Below w.heap.size w w'
def InG (n : Int) (p : EdgeP) : Prop := (0 ≤ p.1 ∧ p.1 < n) ∧ (0 ≤ p.2 ∧ p.2 < n)
set_option maxHeartbeats 16000000 in
set_option maxRecDepth 100000 in
theorem check_calls (w : World) (A : Option Addr) (c : Nat) (n : Int) (es : List EdgeP) (hE : ERow w A es) (hl : es.length ≤ 140737488351232) : Calls Try.prog 19 #[.int .i64 n, .slice A es.length c] w fun e w' => CheckEnds w n es e w' := by
  have HE := Lib.hid hE
  clear hE
  by_cases h1 : n < 1
  · have b1 : decide (n < 1) = true := decide_eq_true h1
    have he : errG n es = 11 := if_neg (fun h => by have := h.1; omega)
    have HEE := Lib.hid he
    clear h1 he
    go_enter Try.func19, Try.ntmps19
    go_wp2
    exact bodyPost_ret (v := .tuple #[.int .i64 (-1), .int .i64 11]) (by simp [results, Try.results19, go_sem]) rfl ⟨-1, by rw [HEE.out], (Below.refl _ w).alloc (Nat.le_refl _) _⟩
  · have b1 : decide (n < 1) = false := decide_eq_false h1
    by_cases h2 : 12 < n
    · have b2 : decide (12 < n) = true := decide_eq_true h2
      have b2' : decide (n > 12) = true := decide_eq_true h2
      have he : errG n es = 11 := if_neg (fun h => by have := h.1; omega)
      have HEE := Lib.hid he
      clear h1 h2 he
      go_enter Try.func19, Try.ntmps19
      go_wp2
      exact bodyPost_ret (v := .tuple #[.int .i64 (-1), .int .i64 11]) (by simp [results, Try.results19, go_sem]) rfl ⟨-1, by rw [HEE.out], (Below.refl _ w).alloc (Nat.le_refl _) _⟩
    · have b2 : decide (12 < n) = false := decide_eq_false h2
      have b2' : decide (n > 12) = false := decide_eq_false h2
      by_cases h3 : 30 < es.length
      · have b3 : decide ((30 : Int) < (es.length : Int)) = true := decide_eq_true (by omega)
        have b3' : decide ((es.length : Int) > 30) = true := decide_eq_true (by omega)
        have he : errG n es = 11 := if_neg (fun h => by have := h.2.1; omega)
        have HEE := Lib.hid he
        clear h1 h2 h3 he
        go_enter Try.func19, Try.ntmps19
        go_wp2
        exact bodyPost_ret (v := .tuple #[.int .i64 (-1), .int .i64 11]) (by simp [results, Try.results19, go_sem]) rfl ⟨-1, by rw [HEE.out], (Below.refl _ w).alloc (Nat.le_refl _) _⟩
      · have b3 : decide ((30 : Int) < (es.length : Int)) = false := decide_eq_false (by omega)
        have b3' : decide ((es.length : Int) > 30) = false := decide_eq_false (by omega)
        obtain ⟨wa, hwa⟩ : ∃ wa, wa = w.alloc (.cells #[.int .i64 n] 3) := ⟨_, rfl⟩
        have hba : Below w.heap.size w wa := by rw [hwa]; exact (Below.refl _ w).alloc (Nat.le_refl _) _
        have hxa : wa.heap[w.heap.size]? = some (.cells #[.int .i64 n] 3 (0, 0)) := by rw [hwa]; exact blk_new w _
        have HXA := Lib.hid hxa
        have HBA := Lib.hid hba
        have HWA := Lib.hid hwa
        have H12 : Hid ((1 ≤ n ∧ n ≤ 12) ∧ es.length ≤ 30) := by show _ ∧ _; omega
        have h30 : es.length ≤ 30 := by omega
        clear h1 h2 h3 hba hxa hl
        go_enter Try.func19, Try.ntmps19
        go_upto_region 4 with (fail)
        rw [← HWA.out]
        clear hwa
        go_wp2_with (fail)
        go_loopw [23] (fun x wr => ∃ j : Nat, x = .int .i64 (j : Int) ∧ j ≤ es.length ∧ Hid ((∀ p ∈ es.take j, InG n p) ∧ Below wa.heap.size wa wr)) (fun x _ => es.length - (intOf x).toNat)
        case atStart => exact ⟨0, rfl, Nat.zero_le _, fun p hp => by simp at hp, Below.refl _ _⟩
        case round =>
          obtain ⟨j, rfl, hj, hR⟩ := hrel
          obtain ⟨hok, hbr⟩ := hR.out
          by_cases hlt : j < es.length
          · obtain ⟨p, hp⟩ : ∃ p, es[j]? = some p := ⟨_, List.getElem?_eq_getElem hlt⟩
            obtain ⟨g, o, hA, _, c0, c1⟩ := (HE.out.below (below_then HBA.out HBA.out.size hbr)) j p hp
            subst hA
            obtain ⟨p1, p2⟩ := p
            dsimp only at c0 c1
            have qd : decide ((j : Int) < (es.length : Int)) = true := decide_eq_true (by omega)
            have z1 : (j : Int) < (es.length : Int) := by omega
            have z0 : (0 : Int) ≤ (j : Int) := by omega
            have hw : IntKind.i64.wrap ((j : Int) + 1) = ((j + 1 : Nat) : Int) := by rw [IntWalk.i64_in _ (by omega)]; omega
            obtain ⟨we, hwe⟩ : ∃ we, we = wr.alloc (.cells #[.int .i64 p1, .int .i64 p2] 36) := ⟨_, rfl⟩
            have hbe : Below wr.heap.size wr we := by rw [hwe]; exact (Below.refl _ wr).alloc (Nat.le_refl _) _
            have hxe : we.heap[wr.heap.size]? = some (.cells #[.int .i64 p1, .int .i64 p2] 36 (0, 0)) := by rw [hwe]; exact blk_new wr _
            have y0 : we.cell? ⟨wr.heap.size, 0, none⟩ = some (.int .i64 p1) := by rw [blk_cell hxe]; rfl
            have y1 : we.cell? ⟨wr.heap.size, 1, none⟩ = some (.int .i64 p2) := by rw [blk_cell hxe]; rfl
            have hbx : Below wa.heap.size wa we := below_then hbr hbr.size hbe
            have hcx : we.cell? ⟨w.heap.size, 0, none⟩ = some (.int .i64 n) := by rw [blk_cell (blk_below HXA.out hbx)]; rfl
            have HN : Hid (∀ x, Calls Try.prog 33 #[.int .i64 x, .pointer (some ⟨w.heap.size, 0, none⟩)] we fun e W' => e = .returned (.bool (decide (0 ≤ x) && decide (x < n))) ∧ W' = we) := fun x => node_calls we w.heap.size n x hcx
            have HBX := Lib.hid hbx
            have HWE := Lib.hid hwe
            have HOK := Lib.hid hok
            have HP := Lib.hid hp
            clear hbe hxe hbx hcx hwe hok hp hR hbr
            go_upto_region 7 with (fail)
            rw [← HWE.out]
            clear c0 c1
            go_wp2_with (fail)
            refine (HN.out p1).mono ?_
            rintro e W' ⟨rfl, rfl⟩
            by_cases hp1 : 0 ≤ p1 ∧ p1 < n
            · have b4 : (decide (0 ≤ p1) && decide (p1 < n)) = true := by rw [decide_eq_true hp1.1, decide_eq_true hp1.2]; rfl
              rw [b4]
              go_wp2_with (fail)
              refine (HN.out p2).mono ?_
              rintro e W' ⟨rfl, rfl⟩
              by_cases hp2 : 0 ≤ p2 ∧ p2 < n
              · have b5 : (decide (0 ≤ p2) && decide (p2 < n)) = true := by rw [decide_eq_true hp2.1, decide_eq_true hp2.2]; rfl
                rw [b5]
                have hnew : Hid ((∀ p ∈ es.take (j + 1), InG n p) ∧ Below wa.heap.size wa W') := by
                  refine ⟨fun p hp => ?_, HBX.out⟩
                  rw [List.take_add_one, HP.out] at hp
                  rcases List.mem_append.1 hp with h | h
                  · exact HOK.out p h
                  · have e : p = (p1, p2) := by simpa using h
                    subst e
                    exact ⟨hp1, hp2⟩
                clear hp1 hp2
                go_wp2
                go_roundw
                case measure => simp [intOf]; omega
                case rel => exact ⟨j + 1, by first | rfl | (rw [hw]) | simp, by omega, hnew⟩
              · have b5 : (decide (0 ≤ p2) && decide (p2 < n)) = false := by
                  rw [Bool.and_eq_false_iff, decide_eq_false_iff_not, decide_eq_false_iff_not]; omega
                rw [b5]
                have he : errG n es = 11 := if_neg (fun h => hp2 (h.2.2 _ (List.mem_of_getElem? HP.out)).2)
                have HEE := Lib.hid he
                clear hp1 hp2 he
                go_wp2
                exact bodyPost_ret (v := .tuple #[.int .i64 (j : Int), .int .i64 11]) (by simp [results, Try.results19, go_sem]) rfl ⟨(j : Int), by rw [HEE.out], below_then HBA.out HBA.out.size HBX.out⟩
            · have b4 : (decide (0 ≤ p1) && decide (p1 < n)) = false := by
                rw [Bool.and_eq_false_iff, decide_eq_false_iff_not, decide_eq_false_iff_not]; omega
              rw [b4]
              have he : errG n es = 11 := if_neg (fun h => hp1 (h.2.2 _ (List.mem_of_getElem? HP.out)).1)
              have HEE := Lib.hid he
              clear hp1 he
              go_wp2
              exact bodyPost_ret (v := .tuple #[.int .i64 (j : Int), .int .i64 11]) (by simp [results, Try.results19, go_sem]) rfl ⟨(j : Int), by rw [HEE.out], below_then HBA.out HBA.out.size HBX.out⟩
          · obtain rfl : j = es.length := by omega
            have qd : decide ((es.length : Int) < (es.length : Int)) = false := decide_eq_false (by omega)
            have he : errG n es = 0 := if_pos ⟨H12.out.1, H12.out.2, by rw [List.take_length] at hok; exact hok⟩
            have HEE := Lib.hid he
            have HBR := Lib.hid hbr
            clear he hok hR hbr
            go_wp2
            exact bodyPost_ret (v := .tuple #[.int .i64 0, .int .i64 0]) (by simp [results, Try.results19, go_sem]) rfl ⟨0, by rw [HEE.out], below_then HBA.out HBA.out.size HBR.out⟩
end Go.Proofs.Ytbldlmolbdkabaa.HP
