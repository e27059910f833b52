/-
What graph.made keeps while it puts edges in: rows apart, the map's rows apart from all.
-/
import Derived.Test.YtbldlmolbdkabaaCaA
set_option linter.unusedVariables false
set_option linter.unusedSimpArgs false
namespace Go.Proofs.Ytbldlmolbdkabaa.HP
open Go.RowKit Go.Proofs.YtbldlmolbdkabaaW.PrintWords Go.Proofs.YtbldlmolbdkabaaW.PrintLast Go.Proofs.YtbldlmolbdkabaaW.PrintMore
open Go.ChangeMaps (setBlock heap_setBlock_same heap_setBlock_other)
theorem laidOut : laidOutB Try.prog = true := by kernel_rfl
theorem row36 : (36 : TypeId) < Try.prog.types.size := of_decide_eq_true (by kernel_rfl)
theorem wide36 : (match Try.prog.underlying 36 with | some (.array _ _) | some (.struct _) => true | _ => false) = true := by rw [Try.underlying36]
theorem law36 : WideMaps.KeyLaw Try.prog 36 := deep_law_laid laidOut (m := 2) (by omega) row36 (by kernel_rfl) wide36
theorem formed36 {c0 c1 : Value} : (Value.agg #[c0, c1]).formed Try.prog 36 = true := by
  have h : Try.prog.cellsOf 36 = 2 := by kernel_rfl
  simp [Value.formed, Try.underlying36, h]
theorem edge_key (a b : Int) (ha : (Lit.int .i64 a).wf = true) (hb : (Lit.int .i64 b).wf = true) : ∃ kl, keyOf Try.prog 36 (.agg #[.int .i64 a, .int .i64 b]) = some kl := by
  refine ⟨.string (keyBytes [.int .i64 a, .int .i64 b]), ?_⟩
  obtain ⟨d, hd⟩ : ∃ d, Try.prog.types.size = d + 1 := ⟨Try.prog.types.size - 1, (Nat.succ_pred_eq_of_pos (Nat.lt_of_le_of_lt (Nat.zero_le _) row36)).symm⟩
  have c36 : Try.prog.cellsOf 36 = 2 := by kernel_rfl
  have c3 : Try.prog.cellsOf 3 = 1 := by kernel_rfl
  unfold keyOf
  rw [hd, Try.underlying36]
  dsimp only
  rw [formed36, show Try.prog.keyType 36 = true by kernel_rfl]
  have e3 : ∀ x : Int, (Lit.int .i64 x).wf = true → Try.prog.keyLits (d + 1) 3 [.int .i64 x] = some [.int .i64 x] := by
    intro x hx
    unfold Program.keyLits
    rw [Try.underlying3]
    simp [hx]
  have e36 : Try.prog.keyLits (d + 1 + 1) 36 (Value.cells (.agg #[.int .i64 a, .int .i64 b])).toList = some [.int .i64 a, .int .i64 b] := by
    unfold Program.keyLits
    rw [Try.underlying36]
    simp [Value.cells, c36, c3, e3 a ha, e3 b hb]
  rw [e36]
  rfl
/-- The map's entries: each value a row of its own, apart from each other's and from the rows rv. -/
structure MapRows (w : World) (base M k N : Nat) (me : Array MapEntry) (clock : Nat) (rv : Nat → Value) : Prop where
  blk : w.heap[M]? = some (.map me clock)
  fit : WideElems.Fit (H := Unit) Try.prog 36 (fun _ => some (.nil, [])) me clock
  size : me.size ≤ k
  own : ∀ x ∈ me.toList, ∃ zs : List Int, zs.length ≤ k ∧ w.ownsRow base 3 1 x.val zs.length (nums .i64 zs)
  apart : ∀ x ∈ me.toList, ∀ y ∈ me.toList, x.key ≠ y.key → x.val.ownBlock = none ∨ x.val.ownBlock ≠ y.val.ownBlock
  far : ∀ x ∈ me.toList, ∀ j, j < N → x.val.ownBlock = none ∨ x.val.ownBlock ≠ (rv j).ownBlock
variable {w w1 : World} {base M k N : Nat} {me : Array MapEntry} {clock : Nat} {rv : Nat → Value}
theorem MapRows.made (w : World) (base M N : Nat) (rv : Nat → Value) (h : w.heap[M]? = some (.map #[] 0)) : MapRows w base M 0 N #[] 0 rv :=
  ⟨h, ⟨by simp, MapKept.stamped_empty 0, by simp⟩, Nat.le_refl _, by simp, by simp, by simp⟩
theorem MapRows.move (h : MapRows w base M k N me clock rv) (hM : w1.heap[M]? = w.heap[M]?) (hm : ∀ x ∈ me.toList, ∀ b, x.val.ownBlock = some b → w1.heap[b]? = w.heap[b]?) : MapRows w1 base M k N me clock rv :=
  ⟨hM.trans h.blk, h.fit, h.size, fun x hx => by obtain ⟨zs, hl, ho⟩ := h.own x hx; exact ⟨zs, hl, own_move ho (fun b hb => hm x hx b hb)⟩, h.apart, h.far⟩
theorem MapRows.below (h : MapRows w base M k N me clock rv) (hb : Below w.heap.size w w1) : MapRows w1 base M k N me clock rv :=
  h.move (hb.block M (blk_lt h.blk)) (fun x hx b hb2 => by obtain ⟨zs, _, ho⟩ := h.own x hx; exact hb.block b (own_lt ho b hb2))
theorem MapRows.setCell (h : MapRows w base M k N me clock rv) {g t : Nat} {cs : Array Value} (hg : w.heap[g]? = some (.cells cs t (0, 0))) (ht : 3 ≠ t) (j : Nat) (u : Value) : MapRows (w.setCell ⟨g, j, none⟩ u) base M k N me clock rv := by
  refine h.move ?_ (fun x hx b hb => ?_)
  · exact Below.heap_setCell w ⟨g, j, none⟩ u M (fun e => by
      have e2 : M = g := e
      subst e2
      rw [h.blk] at hg
      cases hg)
  · obtain ⟨zs, _, ho⟩ := h.own x hx
    obtain ⟨cells, hc⟩ := own_typed ho b hb
    exact Below.heap_setCell w ⟨g, j, none⟩ u b (fun e => by
      have e2 : b = g := e
      subst e2
      exact blk_ne hc hg ht rfl)
theorem own_row_ne_map {b2 sz n t : Nat} {v : Value} {xs : List Value} (ho : w.ownsRow b2 t sz v n xs) (h : w.heap[M]? = some (.map me clock)) : some M ≠ v.ownBlock := by
  intro e
  obtain ⟨cells, hc⟩ := own_typed ho M e.symm
  rw [h] at hc
  cases hc
/-- One of the rows rv has been appended to. -/
theorem MapRows.pushed {w3 : World} {j : Nat} {v3 : Value} {l : List Int} (h : MapRows w base M k N me clock rv) (hj : j < N) (ho : w.ownsRow base 3 1 (rv j) l.length (nums .i64 l)) (hg : w.grownBy w3 (rv j).ownBlock) (hat : v3.ownBlock = (rv j).ownBlock ∨ ∃ b, v3.ownBlock = some b ∧ w.heap.size ≤ b) :
    MapRows w3 base M k N me clock (upd rv j v3) := by
  have hmv : MapRows w3 base M k N me clock rv := h.move (hg.block M (blk_lt h.blk) (own_row_ne_map ho h.blk)) (fun x hx b hb => by
    obtain ⟨zs, _, hx2⟩ := h.own x hx
    refine hg.block b (own_lt hx2 b hb) (fun e => ?_)
    rcases h.far x hx j hj with h0 | h0
    · rw [hb] at h0; cases h0
    · exact h0 (hb.trans e))
  refine ⟨hmv.blk, hmv.fit, hmv.size, hmv.own, hmv.apart, fun x hx i hi => ?_⟩
  by_cases e : i = j
  · subst e
    rw [upd_same]
    rcases hat with hat | ⟨b, hat, hle⟩
    · rw [hat]; exact h.far x hx i hi
    · cases hb : x.val.ownBlock with
      | none => exact .inl rfl
      | some bx =>
        right
        rw [hat]
        intro e
        injection e with e
        obtain ⟨zs, _, hx2⟩ := h.own x hx
        have := own_lt hx2 bx hb
        omega
  · rw [upd_other _ _ e]; exact h.far x hx i hi
theorem zero37 (w : World) : (zeroValue 37).run Try.prog w = .ok (.slice none 0 0) w := by kernel_rfl
/-- The map's entry, and the way back. -/
theorem MapRows.entry (h : MapRows w base M k N me clock rv) (hk : k < maxLen) (key : Value) (kl : Lit) (hkey : keyOf Try.prog 36 key = some kl) :
    ∃ (v0 : Value) (st : Nat) (es1 : Array MapEntry) (clock1 : Nat) (zs : List Int), zs.length ≤ k ∧ (Instr.mapEntry 65 (.map (some M)) key).run Try.prog w = .ok (.tuple #[v0, goInt st]) (setBlock w M (.map es1 clock1)) ∧
      w.ownsRow base 3 1 v0 zs.length (nums .i64 zs) ∧ (∀ j, j < N → v0.ownBlock = none ∨ v0.ownBlock ≠ (rv j).ownBlock) ∧
      ∀ (w3 : World) (v3 : Value) (ys : List Int), w3.heap[M]? = some (.map es1 clock1) → w.heap.size ≤ w3.heap.size → (∀ b, b < w.heap.size → b ≠ M → some b ≠ v0.ownBlock → w3.heap[b]? = w.heap[b]?) → ys.length ≤ k + 1 → w3.ownsRow base 3 1 v3 ys.length (nums .i64 ys) →
        (v3.ownBlock = v0.ownBlock ∨ ∃ b, v3.ownBlock = some b ∧ w.heap.size ≤ b) → (∀ j, j < N → ∀ b, (rv j).ownBlock = some b → b < w.heap.size) →
        ∃ es' clock', (Instr.entryStore 65 (.map (some M)) (goInt st) v3).run Try.prog w3 = .ok () (setBlock w3 M (.map es' clock')) ∧ MapRows (setBlock w3 M (.map es' clock')) base M (k + 1) N es' clock' rv := by
  have K := Maps.Keyed.of_law law36
  obtain ⟨v0, st, es1, clock1, hrun, hwho, hback⟩ := WideElems.entry_then_store (H := Unit) law36 Try.underlying65 zero37 h.blk h.fit hkey
  have hv0 : ∃ zs : List Int, zs.length ≤ k ∧ w.ownsRow base 3 1 v0 zs.length (nums .i64 zs) := by
    rcases hwho with ⟨e0, hm, _, rfl⟩ | ⟨_, rfl⟩
    · exact h.own e0 hm
    · exact ⟨[], Nat.zero_le _, own_nil _ _ _ _⟩
  obtain ⟨zs, hzl, hzo⟩ := hv0
  refine ⟨v0, st, es1, clock1, zs, hzl, hrun, hzo, ?_, ?_⟩
  · intro j hj
    rcases hwho with ⟨e0, hm, _, rfl⟩ | ⟨_, rfl⟩
    · exact h.far e0 hm j hj
    · exact .inl rfl
  · intro w3 v3 ys hM3 hs3 hsame hyl hyo hat hrv
    obtain ⟨es', clock', hst, hup⟩ := hback w3 v3 hM3
    obtain ⟨es2, clock2, hup2, F', hput, _, _, hfrom⟩ := Maps.fit_store (R' := fun _ => some (.nil, [])) K Try.underlying65 h.blk h.fit (Nat.lt_of_le_of_lt h.size hk) (key := key) (val := v3) (fun x _ _ z hz => hz) hkey rfl
    rw [hup] at hup2
    have hMlt := blk_lt h.blk
    have hee : es' = es2 ∧ clock' = clock2 := by
      injection hup2 with _ e
      have := congrArg (fun W : World => W.heap[M]?) e
      simp only [heap_setBlock_same h.blk] at this
      injection this with this
      injection this with e1 e2
      exact ⟨e1, e2⟩
    obtain ⟨rfl, rfl⟩ := hee
    refine ⟨es', clock', hst, ?_⟩
    have hother : ∀ b, b ≠ M → (setBlock w3 M (.map es' clock')).heap[b]? = w3.heap[b]? := fun b hb => heap_setBlock_other hM3 _ hb
    have hv3 : (setBlock w3 M (.map es' clock')).ownsRow base 3 1 v3 ys.length (nums .i64 ys) := own_move hyo (fun b hb => hother b (fun e => own_row_ne_map hyo hM3 (by rw [hb, e])))
    have hold : ∀ x ∈ me.toList, x.key ≠ key → ∃ zs : List Int, zs.length ≤ k ∧ (setBlock w3 M (.map es' clock')).ownsRow base 3 1 x.val zs.length (nums .i64 zs) := by
      intro x hx hne
      obtain ⟨zx, hl, ho⟩ := h.own x hx
      refine ⟨zx, hl, own_move ho (fun b hb => ?_)⟩
      have hbM : b ≠ M := fun e => own_row_ne_map ho h.blk (by rw [hb, e])
      rw [hother b hbM]
      refine hsame b (own_lt ho b hb) hbM (fun e => ?_)
      rcases hwho with ⟨e0, hm, hke, rfl⟩ | ⟨_, rfl⟩
      · rcases h.apart x hx e0 hm (by rw [hke]; exact hne) with h0 | h0
        · rw [hb] at h0; cases h0
        · exact h0 (hb.trans e)
      · cases e
    have hapart : ∀ x ∈ me.toList, x.key ≠ key → x.val.ownBlock = none ∨ x.val.ownBlock ≠ v3.ownBlock := by
      intro x hx hne
      rcases hat with hat | ⟨b, hat, hle⟩
      · rw [hat]
        rcases hwho with ⟨e0, hm, hke, rfl⟩ | ⟨_, rfl⟩
        · exact h.apart x hx e0 hm (by rw [hke]; exact hne)
        · cases hb : x.val.ownBlock with
          | none => exact .inl rfl
          | some bx => exact .inr (fun e => by cases e)
      · cases hb : x.val.ownBlock with
        | none => exact .inl rfl
        | some bx =>
          right
          rw [hat]
          intro e
          injection e with e
          obtain ⟨zx, _, ho⟩ := h.own x hx
          have := own_lt ho bx hb
          omega
    refine ⟨heap_setBlock_same hM3 _, F', ?_, ?_, ?_, ?_⟩
    · have e1 : es'.size = ((es'.toList.map (WideElems.rg (H := Unit) Try.prog 36 (fun _ => some (.nil, [])))).foldr DataW.insert []).length := by rw [DataW.length_sorted]; simp
      rw [e1, hput]
      unfold ChangeMaps.putKey
      rw [DataW.length_insert]
      have e2 := List.length_filter_le (ChangeMaps.notKey kl) ((me.toList.map (WideElems.rg (H := Unit) Try.prog 36 (fun _ => some (.nil, [])))).foldr DataW.insert [])
      rw [DataW.length_sorted] at e2
      simp at e2
      have := h.size
      omega
    · intro x hx
      rcases hfrom x hx with ⟨hx0, hne⟩ | ⟨_, hv⟩
      · obtain ⟨zx, hl, ho⟩ := hold x hx0 hne
        exact ⟨zx, by omega, ho⟩
      · rw [hv]; exact ⟨ys, hyl, hv3⟩
    · intro x hx y hy hne
      rcases hfrom x hx with ⟨hx0, hxk⟩ | ⟨hxk, hxv⟩ <;> rcases hfrom y hy with ⟨hy0, hyk⟩ | ⟨hyk, hyv⟩
      · exact h.apart x hx0 y hy0 hne
      · rw [hyv]; exact hapart x hx0 hxk
      · rw [hxv]
        rcases hapart y hy0 hyk with h0 | h0
        · cases hb : v3.ownBlock with
          | none => exact .inl rfl
          | some b => right; rw [h0]; intro e; cases e
        · exact .inr (fun e => h0 e.symm)
      · exact absurd (hxk.trans hyk.symm) hne
    · intro x hx j hj
      rcases hfrom x hx with ⟨hx0, _⟩ | ⟨_, hxv⟩
      · exact h.far x hx0 j hj
      · rw [hxv]
        rcases hat with hat | ⟨b, hat, hle⟩
        · rw [hat]
          rcases hwho with ⟨e0, hm, _, rfl⟩ | ⟨_, rfl⟩
          · exact h.far e0 hm j hj
          · exact .inl rfl
        · right
          rw [hat]
          intro e
          have := hrv j hj b e.symm
          omega
end Go.Proofs.Ytbldlmolbdkabaa.HP
