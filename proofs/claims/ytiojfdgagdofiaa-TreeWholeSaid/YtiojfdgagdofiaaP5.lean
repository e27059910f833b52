/-
Texts joined: VaA, VaB, VaC, VaD, VaE, VaF, VaG.
-/
import Derived.Test.YtiojfdgagdofiaaP3
import Derived.Test.YtiojfdgagdofiaaP4
import Derived.Sort.CutIn
/-
A form, with all below it, taken into a list of its own: plain.
-/
set_option linter.unusedVariables false
set_option linter.unusedSimpArgs false
namespace Go.Proofs.Ytiojfdgagdofiaa.HP
/-- Forms taken so far, and the row of kids of each (form i's is row i + 2). -/
abbrev TkSt := List FormP × (Nat → List Int)
def tkPush (st : TkSt) (n p : Nat) : TkSt := (st.1, upd st.2 (n + 2) (st.2 (n + 2) ++ [(p : Int)]))
def tkAdd (st : TkSt) (F : FormP) : TkSt := (st.1 ++ [F], upd st.2 (st.1.length + 2) [])
/-- One kid more. -/
def tkKid (g : Nat → TkSt → TkSt) (n : Nat) (st : TkSt) (k : Nat) : TkSt := tkPush (g k st) n st.1.length
def takeF (N : Nat) (fs : List FormP) (ks : Nat → List Int) : Nat → Nat → TkSt → TkSt
  | 0, i, st => tkAdd st (fs.getD i noForm)
  | f + 1, i, st => (kidsB N i (ks i)).foldl (tkKid (takeF N fs ks f) st.1.length) (tkAdd st (fs.getD i noForm))
theorem foldl_congr' {α β : Type} {f g : α → β → α} : ∀ {l : List β} {a : α}, (∀ a, ∀ x ∈ l, f a x = g a x) → l.foldl f a = l.foldl g a
  | [], _, _ => rfl
  | x :: r, a, h => by rw [List.foldl_cons, List.foldl_cons, h a x List.mem_cons_self]; exact foldl_congr' (fun a y hy => h a y (List.mem_cons_of_mem _ hy))
theorem takeF_fuel (N : Nat) (fs : List FormP) (ks : Nat → List Int) : ∀ (f f' i : Nat) (st : TkSt), N ≤ i + 1 + f → N ≤ i + 1 + f' → takeF N fs ks f i st = takeF N fs ks f' i st
  | 0, 0, i, st, _, _ => rfl
  | 0, f' + 1, i, st, h, _ => by rw [takeF, takeF, kidsB_nil _ (by omega)]; rfl
  | f + 1, 0, i, st, _, h => by rw [takeF, takeF, kidsB_nil _ (by omega)]; rfl
  | f + 1, f' + 1, i, st, h, h' => by
    rw [takeF, takeF]
    refine foldl_congr' (fun a k hk => ?_)
    have := kidsB_mem hk
    unfold tkKid
    rw [takeF_fuel N fs ks f f' k a (by omega) (by omega)]
def tk (N : Nat) (fs : List FormP) (ks : Nat → List Int) (i : Nat) (st : TkSt) : TkSt := takeF N fs ks N i st
theorem tk_eq (N : Nat) (fs : List FormP) (ks : Nat → List Int) (i : Nat) (st : TkSt) :
    tk N fs ks i st = (kidsB N i (ks i)).foldl (tkKid (tk N fs ks) st.1.length) (tkAdd st (fs.getD i noForm)) := by
  show takeF N fs ks N i st = _
  rw [takeF_fuel N fs ks N (N + 1) i st (by omega) (by omega), takeF]
  rfl
/-- When so many kids have been gone through. -/
def tkSo (N : Nat) (fs : List FormP) (ks : Nat → List Int) (i : Nat) (st : TkSt) (l : List Nat) : TkSt := l.foldl (tkKid (tk N fs ks) st.1.length) (tkAdd st (fs.getD i noForm))
theorem tkSo_all (N : Nat) (fs : List FormP) (ks : Nat → List Int) (i : Nat) (st : TkSt) : tkSo N fs ks i st (kidsB N i (ks i)) = tk N fs ks i st := (tk_eq N fs ks i st).symm
theorem tkSo_snoc (N : Nat) (fs : List FormP) (ks : Nat → List Int) (i : Nat) (st : TkSt) (l : List Nat) (k : Nat) : tkSo N fs ks i st (l ++ [k]) = tkPush (tk N fs ks k (tkSo N fs ks i st l)) st.1.length (tkSo N fs ks i st l).1.length := by
  unfold tkSo
  rw [List.foldl_append]
  rfl
theorem tk_fold {N : Nat} {fs : List FormP} {ks : Nat → List Int} (n : Nat) : ∀ (l : List Nat) (st : TkSt), n < st.1.length → (∀ k ∈ l, ∀ s : TkSt, (tk N fs ks k s).1.length = s.1.length + 1 + (bel N ks k).length ∧ (∀ j, j < s.1.length + 2 → (tk N fs ks k s).2 j = s.2 j) ∧ (∀ j, j < s.1.length → (tk N fs ks k s).1[j]? = s.1[j]?)) →
    (l.foldl (tkKid (tk N fs ks) n) st).1.length = st.1.length + (pre N ks l).length ∧ (∀ j, j < st.1.length + 2 → j ≠ n + 2 → (l.foldl (tkKid (tk N fs ks) n) st).2 j = st.2 j) ∧ (∀ j, j < st.1.length → (l.foldl (tkKid (tk N fs ks) n) st).1[j]? = st.1[j]?) ∧
      ((l.foldl (tkKid (tk N fs ks) n) st).2 (n + 2)).length = (st.2 (n + 2)).length + l.length
  | [], st, _, _ => ⟨rfl, fun _ _ _ => rfl, fun _ _ => rfl, rfl⟩
  | k :: r, st, hn, h => by
    rw [List.foldl_cons]
    obtain ⟨h1, h2, h3⟩ := h k List.mem_cons_self st
    have e1 : (tkKid (tk N fs ks) n st k).1.length = st.1.length + 1 + (bel N ks k).length := h1
    obtain ⟨a1, a2, a3, a4⟩ := tk_fold n r (tkKid (tk N fs ks) n st k) (by omega) (fun x hx => h x (List.mem_cons_of_mem _ hx))
    refine ⟨?_, fun j hj hne => ?_, fun j hj => ?_, ?_⟩
    · rw [a1, e1, pre_cons, List.length_cons, List.length_append]; omega
    · rw [a2 j (by omega) hne]
      show upd _ _ _ j = _
      rw [upd_other _ _ hne, h2 j hj]
    · rw [a3 j (by omega)]
      exact h3 j hj
    · rw [a4]
      show List.length (upd _ _ _ _) + _ = _
      rw [upd_same, h2 (n + 2) (by omega), List.length_append, List.length_singleton, List.length_cons]
      omega
theorem tk_spec (N : Nat) (fs : List FormP) (ks : Nat → List Int) : ∀ (d k : Nat), N - k = d → ∀ s : TkSt, (tk N fs ks k s).1.length = s.1.length + 1 + (bel N ks k).length ∧ (∀ j, j < s.1.length + 2 → (tk N fs ks k s).2 j = s.2 j) ∧ (∀ j, j < s.1.length → (tk N fs ks k s).1[j]? = s.1[j]?) := by
  intro d
  induction d using Nat.strongRecOn with
  | _ d ih =>
    intro k hd s
    have hl : (tkAdd s (fs.getD k noForm)).1.length = s.1.length + 1 := by unfold tkAdd; simp
    obtain ⟨a1, a2, a3, _⟩ := tk_fold (N := N) (fs := fs) (ks := ks) s.1.length (kidsB N k (ks k)) (tkAdd s (fs.getD k noForm)) (by omega) (fun x hx => by
      have := kidsB_mem hx
      exact ih (N - x) (by omega) x rfl)
    rw [tk_eq]
    refine ⟨by rw [a1, hl, bel_pre], fun j hj => ?_, fun j hj => ?_⟩
    · rw [a2 j (by omega) (by omega)]
      exact upd_other _ _ (by omega)
    · rw [a3 j (by omega)]
      show (s.1 ++ _)[j]? = _
      exact List.getElem?_append_left hj
/-- What is known when so many kids have been gone through. -/
theorem tkSo_spec (N : Nat) (fs : List FormP) (ks : Nat → List Int) (i : Nat) (st : TkSt) (l : List Nat) :
    (tkSo N fs ks i st l).1.length = st.1.length + 1 + (pre N ks l).length ∧ ((tkSo N fs ks i st l).2 (st.1.length + 2)).length = l.length := by
  have hl : (tkAdd st (fs.getD i noForm)).1.length = st.1.length + 1 := by unfold tkAdd; simp
  obtain ⟨a1, _, _, a4⟩ := tk_fold (N := N) (fs := fs) (ks := ks) st.1.length l (tkAdd st (fs.getD i noForm)) (by omega) (fun x _ => tk_spec N fs ks (N - x) x rfl)
  refine ⟨by unfold tkSo; rw [a1, hl], ?_⟩
  unfold tkSo
  rw [a4]
  show List.length (upd _ _ _ _) + _ = _
  rw [upd_same]
  simp
theorem tk_row (N : Nat) (fs : List FormP) (ks : Nat → List Int) (k : Nat) (s : TkSt) (j : Nat) (hj : j < s.1.length + 2) : (tk N fs ks k s).2 j = s.2 j := (tk_spec N fs ks (N - k) k rfl s).2.1 j hj
theorem tk_len (N : Nat) (fs : List FormP) (ks : Nat → List Int) (k : Nat) (s : TkSt) : (tk N fs ks k s).1.length = s.1.length + 1 + (bel N ks k).length := (tk_spec N fs ks (N - k) k rfl s).1
end Go.Proofs.Ytiojfdgagdofiaa.HP
/-
How the object that takes forms lies in memory; what a world keeps when it moves.
-/
set_option linter.unusedVariables false
set_option linter.unusedSimpArgs false
namespace Go.Proofs.Ytiojfdgagdofiaa.HP
open Go.RowKit Go.Proofs.Ytiojfdgagdofiaa.HB Go.Proofs.Ytiojfdgagdofiaa.HK Go.Proofs.YtiojfdgagdofiaaW.PrintWords Go.Proofs.YtiojfdgagdofiaaW.PrintLast Go.Proofs.YtiojfdgagdofiaaW.PrintMore
/-- All blocks but those that are owned are as they were; what is owned was owned, or is new. -/
structure TkMv (n₀ : Nat) (O : Nat → Prop) (W W' : World) (O' : Nat → Prop) : Prop where
  same : ∀ k, k < W.heap.size → ¬ O k → W'.heap[k]? = W.heap[k]?
  fresh : ∀ k, O' k → O k ∨ W.heap.size ≤ k
  below : Below n₀ W W'
theorem TkMv.refl (n₀ : Nat) (O : Nat → Prop) (W : World) : TkMv n₀ O W W O := ⟨fun _ _ _ => rfl, fun _ h => .inl h, Below.refl _ _⟩
theorem TkMv.trans {n₀ : Nat} {O1 O2 O3 : Nat → Prop} {W1 W2 W3 : World} (h : TkMv n₀ O1 W1 W2 O2) (k : TkMv n₀ O2 W2 W3 O3) : TkMv n₀ O1 W1 W3 O3 := by
  have hs := h.below.size
  refine ⟨fun j hj hO => ?_, fun j hj => ?_, h.below.trans k.below⟩
  · rw [k.same j (by omega) (fun e => ?_), h.same j hj hO]
    rcases h.fresh j e with e | e
    · exact hO e
    · omega
  · rcases k.fresh j hj with e | e
    · exact h.fresh j e
    · exact .inr (by omega)
theorem TkMv.block {n₀ : Nat} {O O' : Nat → Prop} {W W' : World} (h : TkMv n₀ O W W' O') {k : Nat} {o : Obj} (hk : W.heap[k]? = some o) (hO : ¬ O k) : W'.heap[k]? = some o := (h.same k (blk_lt hk) hO).trans hk
theorem TkMv.not {n₀ : Nat} {O O' : Nat → Prop} {W W' : World} (h : TkMv n₀ O W W' O') {k : Nat} (hk : k < W.heap.size) (hO : ¬ O k) : ¬ O' k := fun e => by
  rcases h.fresh k e with e | e
  · exact hO e
  · omega
theorem TkMv.alloc {n₀ : Nat} {O : Nat → Prop} (W : World) (o : Obj) (hn : n₀ ≤ W.heap.size) : TkMv n₀ O W (W.alloc o) O := ⟨fun k hk _ => Below.heap_alloc W o k hk, fun _ h => .inl h, (Below.refl _ W).alloc hn o⟩
theorem TkMv.drew {n₀ : Nat} {O O' : Nat → Prop} {W W' : World} (h : TkMv n₀ O W W' O') : TkMv n₀ O W W'.drew O' := ⟨h.same, h.fresh, below_drew h.below⟩
theorem TkMv.drewl {n₀ : Nat} {O : Nat → Prop} (W : World) : TkMv n₀ O W W.drew O := ⟨fun _ _ _ => rfl, fun _ h => .inl h, below_drew (Below.refl _ _)⟩
/-- A store into a block that was not there. -/
theorem TkMv.store {n₀ : Nat} {O O' : Nat → Prop} {W W' : World} (h : TkMv n₀ O W W' O') {b : Nat} (hb : W.heap.size ≤ b) (hn : n₀ ≤ b) (j : Nat) (u : Value) : TkMv n₀ O W (W'.setCell ⟨b, j, none⟩ u) O' :=
  ⟨fun k hk hO => (Below.heap_setCell _ _ _ _ (by show k ≠ b; omega)).trans (h.same k hk hO), h.fresh, h.below.setCell (p := ⟨b, j, none⟩) hn u⟩
/-- What a taker owns. -/
def TkOwn (g : Nat) (fv : Value) (vs : Nat → Value) (m : Nat) (k : Nat) : Prop := k = g ∨ some k = fv.ownBlock ∨ ∃ i, i < m ∧ some k = (vs i).ownBlock
/-- A taker at block g of type t. -/
structure IsTk (n₀ g t : Nat) (A : Option Addr) (N c : Nat) (w : World) (out : List FormP) (fv : Value) (vs : Nat → Value) (ls : Nat → List Int) : Prop where
  obj : w.heap[g]? = some (.cells #[.slice A N c, fv] t (0, 0))
  row : w.ownsRow n₀ 40 5 fv out.length (fcells out 2 vs)
  kids : RowsN w n₀ (out.length + 2) vs ls
  base : n₀ ≤ g
  ty : t ≠ 40 ∧ t ≠ 3
variable {n₀ g t N c : Nat} {A : Option Addr} {w : World} {out : List FormP} {fv : Value} {vs : Nat → Value} {ls : Nat → List Int}
theorem IsTk.lt (h : IsTk n₀ g t A N c w out fv vs ls) {k : Nat} (hk : TkOwn g fv vs (out.length + 2) k) : k < w.heap.size := by
  rcases hk with rfl | e | ⟨i, hi, e⟩
  · exact blk_lt h.obj
  · exact own_lt h.row k e.symm
  · exact own_lt (h.kids.1 i hi) k e.symm
theorem IsTk.cells (h : IsTk n₀ g t A N c w out fv vs ls) {k : Nat} (hk : TkOwn g fv vs (out.length + 2) k) : ∃ o : Obj, w.heap[k]? = some o ∧ o.isCells = true := by
  rcases hk with rfl | e | ⟨i, hi, e⟩
  · exact ⟨_, h.obj, rfl⟩
  · obtain ⟨cells, hc⟩ := own_typed h.row k e.symm; exact ⟨_, hc, rfl⟩
  · obtain ⟨cells, hc⟩ := own_typed (h.kids.1 i hi) k e.symm; exact ⟨_, hc, rfl⟩
/-- A world in which all that is owned is as it was. -/
theorem IsTk.move (h : IsTk n₀ g t A N c w out fv vs ls) {w1 : World} (hm : ∀ k, TkOwn g fv vs (out.length + 2) k → w1.heap[k]? = w.heap[k]?) : IsTk n₀ g t A N c w1 out fv vs ls :=
  ⟨(hm g (.inl rfl)).trans h.obj, own_move h.row (fun k hk => hm k (.inr (.inl hk.symm))), h.kids.move (fun i k hi hk => hm k (.inr (.inr ⟨i, hi, hk.symm⟩))), h.base, h.ty⟩
theorem IsTk.alloc (h : IsTk n₀ g t A N c w out fv vs ls) (o : Obj) : IsTk n₀ g t A N c (w.alloc o) out fv vs ls := h.move fun k hk => Below.heap_alloc w o k (h.lt hk)
theorem IsTk.drewN (h : IsTk n₀ g t A N c w out fv vs ls) : IsTk n₀ g t A N c w.drew out fv vs ls := h.move fun _ _ => rfl
theorem IsTk.store (h : IsTk n₀ g t A N c w out fv vs ls) {b : Nat} (hb : ¬ TkOwn g fv vs (out.length + 2) b) (j : Nat) (u : Value) : IsTk n₀ g t A N c (w.setCell ⟨b, j, none⟩ u) out fv vs ls :=
  h.move fun k hk => Below.heap_setCell _ _ _ _ (by intro e; have e' : k = b := e; subst e'; exact hb hk)
theorem IsTk.below (h : IsTk n₀ g t A N c w out fv vs ls) {w1 : World} (hb : Below w.heap.size w w1) : IsTk n₀ g t A N c w1 out fv vs ls := h.move fun k hk => hb.block k (h.lt hk)
theorem IsTk.kept (h : IsTk n₀ g t A N c w out fv vs ls) {w1 : World} {row : Option Nat} (hg : w.grownBy w1 row) (hr : ∀ r, row = some r → ∃ o : Obj, w.heap[r]? = some o ∧ o.isCells = false) : IsTk n₀ g t A N c w1 out fv vs ls :=
  h.move fun k hk => hg.block k (h.lt hk) (fun e => by
    obtain ⟨o, ho, hc⟩ := hr k e.symm
    obtain ⟨o', ho', hc'⟩ := h.cells hk
    rw [ho] at ho'
    injection ho' with ho'
    subst ho'
    rw [hc] at hc'
    cases hc')
theorem TkMv.kept {O O' : Nat → Prop} {W X Y : World} (h : TkMv n₀ O W X O') {row : Option Nat} (hg : X.grownBy Y row) (hr : ∀ r, row = some r → W.heap.size ≤ r ∧ ∃ o : Obj, X.heap[r]? = some o ∧ o.isCells = false) (hn : n₀ ≤ W.heap.size) : TkMv n₀ O W Y O' := by
  have hs := h.below.size
  refine ⟨fun k hk hO => (hg.block k (by omega) (fun e => ?_)).trans (h.same k hk hO), h.fresh, ?_⟩
  · have := (hr k e.symm).1; omega
  · exact h.below.grown hg (by omega) (fun k e => by have := (hr k e).1; omega)
theorem TkMv.keeps {O' : Nat → Prop} {W' : World} (h : IsTk n₀ g t A N c w out fv vs ls) (hm : TkMv n₀ (TkOwn g fv vs (out.length + 2)) w W' O') : KeepsOthers w W' :=
  ⟨hm.below.size, fun k o hk ho => hm.block hk (fun e => by
    obtain ⟨o', h1, h2⟩ := h.cells e
    rw [hk] at h1
    injection h1 with h1
    subst h1
    rw [ho] at h2
    cases h2)⟩
theorem IsTk.addForm (h : IsTk n₀ g t A N c w out fv vs ls) {w3 : World} {fv3 : Value} {f : FormP} (hown : w3.ownsRow n₀ 40 5 fv3 (out.length + 1) (fcells out 2 vs ++ fcell f (.slice none 0 0))) (hg : w.grownBy w3 fv.ownBlock) :
    IsTk n₀ g t A N c (w3.setCell ⟨g, 1, none⟩ fv3) (out ++ [f]) fv3 (upd vs (out.length + 2) (.slice none 0 0)) (upd ls (out.length + 2) []) := by
  obtain ⟨h1, h2, h3, h4, h5⟩ := h
  have hg3 : w3.heap[g]? = some (.cells #[.slice A N c, fv] t (0, 0)) := blk_grown h1 hg (own_ne h2 h1 (Ne.symm h5.1))
  refine ⟨blk_set hg3 1 _, ?_, ?_, h4, h5⟩
  · rw [fcells_snoc, List.length_append, List.length_singleton, show 2 + out.length = out.length + 2 by omega, upd_same, fcells_congr out 2 (upd vs (out.length + 2) (.slice none 0 0)) vs (fun j h1 h2 => upd_other _ _ (by omega))]
    exact own_setCell hown (own_ne hown hg3 (Ne.symm h5.1)) _
  · rw [List.length_append, List.length_singleton, show out.length + 1 + 2 = out.length + 2 + 1 by omega]
    exact ((h3.grown h2 (by decide) hg).more).far hg3 (Ne.symm h5.2) 1 _
theorem TkMv.addForm (h : IsTk n₀ g t A N c w out fv vs ls) {w3 : World} {fv3 : Value} (hg : w.grownBy w3 fv.ownBlock) (hn : n₀ ≤ w.heap.size) (hat : fv3.ownBlock = fv.ownBlock ∨ ∃ b, fv3.ownBlock = some b ∧ w.heap.size ≤ b) :
    TkMv n₀ (TkOwn g fv vs (out.length + 2)) w (w3.setCell ⟨g, 1, none⟩ fv3) (TkOwn g fv3 (upd vs (out.length + 2) (.slice none 0 0)) (out.length + 1 + 2)) := by
  refine ⟨fun k hk hO => ?_, fun k hk => ?_, ?_⟩
  · exact (Below.heap_setCell _ _ _ _ (by intro e; have e' : k = g := e; exact hO (.inl e'))).trans (hg.block k hk (fun e => hO (.inr (.inl e))))
  · rcases hk with e | e | ⟨i, hi, e⟩
    · exact .inl (.inl e)
    · rcases hat with hat | ⟨b, hb, hle⟩
      · exact .inl (.inr (.inl (e.trans hat)))
      · rw [hb] at e; injection e with e; exact .inr (by omega)
    · by_cases hi2 : i = out.length + 2
      · rw [hi2, upd_same] at e; cases e
      · rw [upd_other _ _ hi2] at e
        exact .inl (.inr (.inr ⟨i, by omega, e⟩))
  · exact ((Below.refl n₀ w).grown hg hn (fun k e => own_base h.row k e)).setCell (p := ⟨g, 1, none⟩) h.base _
theorem IsTk.pushKid (h : IsTk n₀ g t A N c w out fv vs ls) {b F cap : Nat} (hbl : b < out.length) (hfv : fv = .slice (some ⟨F, 0, none⟩) out.length cap) {w1 : World} {v1 : Value} {x : Int} (hown : w1.ownsRow n₀ 3 1 v1 ((ls (b + 2)).length + 1) (nums .i64 (ls (b + 2)) ++ [.int .i64 x])) (hg : w.grownBy w1 (vs (b + 2)).ownBlock)
    (hat : v1.ownBlock = (vs (b + 2)).ownBlock ∨ ∃ k, v1.ownBlock = some k ∧ w.heap.size ≤ k) : IsTk n₀ g t A N c (w1.setCell ⟨F, b * 5 + 3, none⟩ v1) out fv (upd vs (b + 2) v1) (upd ls (b + 2) (ls (b + 2) ++ [x])) := by
  obtain ⟨h1, h2, h3, h4, h5⟩ := h
  have hr := h3.1 (b + 2) (by omega)
  have hg3 : w1.heap[g]? = some (.cells #[.slice A N c, fv] t (0, 0)) := blk_grown h1 hg (own_ne hr h1 (Ne.symm h5.2))
  have h2' : w1.ownsRow n₀ 40 5 fv out.length (fcells out 2 vs) := own_other h2 hg (own_type_ne h2 hr (by decide))
  have hFb : fv.ownBlock = some F := by rw [hfv]; rfl
  obtain ⟨cells, hF⟩ := own_typed h2' F hFb
  refine ⟨?_, ?_, ?_, h4, h5⟩
  · rw [Below.heap_setCell w1 _ _ _ (fun e => blk_ne hF hg3 (Ne.symm h5.1) (by have e' : g = F := e; exact e'.symm))]
    exact hg3
  · have hs := fcells_set out 2 vs b v1 hbl
    rw [show 2 + b = b + 2 by omega] at hs
    rw [← hs]
    rw [hfv] at h2' ⊢
    exact (h2'.stored (b * 5 + 3) v1).1
  · exact (h3.appended (by omega) hown hg hat).far hF (by decide) _ _
theorem TkMv.pushKid (h : IsTk n₀ g t A N c w out fv vs ls) {b F cap : Nat} (hbl : b < out.length) (hfv : fv = .slice (some ⟨F, 0, none⟩) out.length cap) {w1 : World} {v1 : Value} (hg : w.grownBy w1 (vs (b + 2)).ownBlock) (hn : n₀ ≤ w.heap.size)
    (hat : v1.ownBlock = (vs (b + 2)).ownBlock ∨ ∃ k, v1.ownBlock = some k ∧ w.heap.size ≤ k) :
    TkMv n₀ (TkOwn g fv vs (out.length + 2)) w (w1.setCell ⟨F, b * 5 + 3, none⟩ v1) (TkOwn g fv (upd vs (b + 2) v1) (out.length + 2)) := by
  have hFb : fv.ownBlock = some F := by rw [hfv]; rfl
  refine ⟨fun k hk hO => ?_, fun k hk => ?_, ?_⟩
  · exact (Below.heap_setCell _ _ _ _ (by intro e; have e' : k = F := e; exact hO (.inr (.inl (by rw [hFb, e']))))).trans (hg.block k hk (fun e => hO (.inr (.inr ⟨b + 2, by omega, e⟩))))
  · rcases hk with e | e | ⟨i, hi, e⟩
    · exact .inl (.inl e)
    · exact .inl (.inr (.inl e))
    · by_cases hi2 : i = b + 2
      · rw [hi2, upd_same] at e
        rcases hat with hat | ⟨k', hb, hle⟩
        · exact .inl (.inr (.inr ⟨b + 2, by omega, e.trans hat⟩))
        · rw [hb] at e; injection e with e; exact .inr (by omega)
      · rw [upd_other _ _ hi2] at e
        exact .inl (.inr (.inr ⟨i, hi, e⟩))
  · exact ((Below.refl n₀ w).grown hg hn (fun k e => own_base (h.kids.1 (b + 2) (by omega)) k e)).setCell (p := ⟨F, b * 5 + 3, none⟩) (own_base h.row F hFb) _
theorem pre_take_le (N : Nat) (ks : Nat → List Int) (i : Nat) (l : List Int) (j : Nat) : (pre N ks (kidsB N i (l.take j))).length ≤ (pre N ks (kidsB N i l)).length := by
  have e : kidsB N i l = kidsB N i (l.take j) ++ kidsB N i (l.drop j) := by
    unfold kidsB
    rw [← List.map_append, ← List.filter_append, List.take_append_drop]
  rw [e, pre_append, List.length_append]
  omega
end Go.Proofs.Ytiojfdgagdofiaa.HP
/-
The document's mover.move over the translation: a form, with all below it, into a list of its own.
-/
set_option linter.unusedVariables false
set_option linter.unusedSimpArgs false
namespace Go.Proofs.Ytiojfdgagdofiaa.HP
open Go.RowKit Go.Proofs.Ytiojfdgagdofiaa.HB Go.Proofs.Ytiojfdgagdofiaa.HK Go.Proofs.YtiojfdgagdofiaaW.PrintWords Go.Proofs.YtiojfdgagdofiaaW.PrintLast Go.Proofs.YtiojfdgagdofiaaW.PrintMore
/-- When so many kids have been gone through. -/
def MvRel (n₀ g t : Nat) (A : Option Addr) (c : Nat) (W : World) (fs : List FormP) (ks : Nat → List Int) (i : Nat) (st : TkSt) (O : Nat → Prop) (wr : World) (j : Nat) : Prop :=
  ∃ fv' vs', IsTk n₀ g t A fs.length c wr (tkSo fs.length fs ks i st (kidsB fs.length i ((ks i).take j))).1 fv' vs' (tkSo fs.length fs ks i st (kidsB fs.length i ((ks i).take j))).2 ∧ TkMv n₀ O W wr (TkOwn g fv' vs' ((tkSo fs.length fs ks i st (kidsB fs.length i ((ks i).take j))).1.length + 2))
/-- How the taking ends. -/
def TkEnds (n₀ g t : Nat) (A : Option Addr) (N c : Nat) (W : World) (st : TkSt) (fv : Value) (vs : Nat → Value) (st' : TkSt) (e : Ending) (W' : World) : Prop :=
  e = .returned (.int .i64 (st.1.length : Int)) ∧ ∃ fv' vs', IsTk n₀ g t A N c W' st'.1 fv' vs' st'.2 ∧ TkMv n₀ (TkOwn g fv vs (st.1.length + 2)) W W' (TkOwn g fv' vs' (st'.1.length + 2))
set_option maxHeartbeats 16000000 in
set_option maxRecDepth 100000 in
theorem move_calls (w : World) (A : Option Addr) (c g : Nat) (fs : List FormP) (ks : Nat → List Int) (hF : FRow w A fs ks) (hN : fs.length ≤ 1000000) (hk : ∀ j, (ks j).length ≤ 140737488351232) :
    ∀ (d i : Nat) (W : World) (st : TkSt) (fv : Value) (vs : Nat → Value), fs.length - i = d → i < fs.length → IsTk w.heap.size g 95 A fs.length c W st.1 fv vs st.2 → st.1.length + 1 + (bel fs.length ks i).length ≤ 400 → Below w.heap.size w W →
    Calls Try.prog 60 #[.pointer (some ⟨g, 0, none⟩), .int .i64 (i : Int)] W fun e W' => TkEnds w.heap.size g 95 A fs.length c W st fv vs (tk fs.length fs ks i st) e W' := by
  have HF := Lib.hid hF
  have HK := Lib.hid hk
  clear hF hk
  intro d
  induction d using Nat.strongRecOn with
  | _ d ih =>
    rintro i W ⟨out, ls⟩ fv vs hd hi hT hsz hW
    dsimp only at hT hsz ⊢
    have IH : Hid (∀ (k : Nat) (W : World) (st : TkSt) (fv : Value) (vs : Nat → Value), i < k → k < fs.length → IsTk w.heap.size g 95 A fs.length c W st.1 fv vs st.2 → st.1.length + 1 + (bel fs.length ks k).length ≤ 400 → Below w.heap.size w W → Calls Try.prog 60 #[.pointer (some ⟨g, 0, none⟩), .int .i64 (k : Int)] W fun e W' => TkEnds w.heap.size g 95 A fs.length c W st fv vs (tk fs.length fs ks k st) e W') :=
      fun k W st fv vs h1 h2 => ih (fs.length - k) (by omega) k W st fv vs rfl h2
    clear ih hd
    obtain ⟨F, hj⟩ : ∃ F, fs[i]? = some F := ⟨_, List.getElem?_eq_getElem hi⟩
    have hFd : fs.getD i noForm = F := by rw [List.getD_eq_getElem?_getD, hj]; rfl
    obtain ⟨g2, o2, C, e2, hA2, hg2, d0, d1, d2, d3, d4, _, hI⟩ := (HF.out.below hW) i F hj
    subst hA2
    obtain ⟨A0, c0, rfl⟩ := own_slice hT.row
    have y0 : W.cell? ⟨g, 0, none⟩ = some (.slice (some ⟨g2, o2, none⟩) fs.length c) := by rw [blk_cell hT.obj]; rfl
    have y1 : W.cell? ⟨g, 1, none⟩ = some (.slice A0 out.length c0) := by rw [blk_cell hT.obj]; rfl
    have hne : Hid (¬ TkOwn g (.slice A0 out.length c0) vs (out.length + 2) W.heap.size) := fun e => by have := hT.lt e; omega
    have hng : g ≠ W.heap.size := by have := blk_lt hT.obj; omega
    have z1 : (i : Int) < (fs.length : Int) := by omega
    have z0 : (0 : Int) ≤ (i : Int) := by omega
    have HT := Lib.hid hT
    have HW := Lib.hid hW
    have HI := Lib.hid hI
    have HFD := Lib.hid hFd
    clear hT hW hI hj hFd
    go_enter Try.func60, Try.ntmps60
    go_upto_region 4 with (fail)
    obtain ⟨wa, hwa⟩ : ∃ wa, wa = W.alloc (.cells #[.int .u8 F.k, .string F.t, .int .i64 F.n, .slice none 0 0, .int .i64 F.at_] 40) := ⟨_, rfl⟩
    rw [← hwa]
    have hP : Hid (IsTk w.heap.size g 95 (some ⟨g2, o2, none⟩) fs.length c wa out (.slice A0 out.length c0) vs ls) := by rw [hwa]; exact HT.out.alloc _
    have hBk : Hid (wa.heap[W.heap.size]? = some (.cells #[.int .u8 F.k, .string F.t, .int .i64 F.n, .slice none 0 0, .int .i64 F.at_] 40 (0, 0))) := by rw [hwa]; exact heap_alloc_new W _
    have hMa : Hid (TkMv w.heap.size (TkOwn g (.slice A0 out.length c0) vs (out.length + 2)) W wa (TkOwn g (.slice A0 out.length c0) vs (out.length + 2))) := by rw [hwa]; exact TkMv.alloc W _ HW.out.size
    have hWa : Hid (Below w.heap.size w wa) := HW.out.trans hMa.out.below
    clear hwa y0 y1 d0 d1 d2 d3 d4
    have y1 : wa.cell? ⟨g, 1, none⟩ = some (.slice A0 out.length c0) := by rw [blk_cell hP.out.obj]; rfl
    have f1 : wa.frozen? ⟨g, 1, none⟩ = false := blk_frozen hP.out.obj 1
    obtain ⟨a0, a1, a2, a3, a4, af0, af1, af2, af3, af4⟩ := form_cells hBk.out
    go_cut [] (fun wc => ∃ fv3, Hid (IsTk w.heap.size g 95 (some ⟨g2, o2, none⟩) fs.length c wc (tkAdd (out, ls) F).1 fv3 (upd vs (out.length + 2) (.slice none 0 0)) (tkAdd (out, ls) F).2) ∧ Hid (TkMv w.heap.size (TkOwn g (.slice A0 out.length c0) vs (out.length + 2)) W wc (TkOwn g fv3 (upd vs (out.length + 2) (.slice none 0 0)) (out.length + 1 + 2))))
    case first =>
      have hO : wa.drew.ownsRow w.heap.size 40 5 (.slice A0 out.length c0) out.length (fcells out 2 vs) := hP.out.row
      have HO := Lib.hid hO
      have hBd : Hid (Below w.heap.size w wa.drew) := below_drew hWa.out
      have hlong : (out.length + 1) * 64 ≤ 140737488355328 := by omega
      have hal1 : (wa.alloc (.cells #[.int .u8 F.k, .string F.t, .int .i64 F.n, .slice none 0 0, .int .i64 F.at_] 40)).cell? ⟨g, 1, none⟩ = some (.slice A0 out.length c0) := (World.cell?_alloc_some _ _ _ (by rw [y1]; rfl)).trans y1
      clear hO
      go_region_law (refine step_append_cells (W := wa.drew) (w0 := w) w.heap.size rfl (.tmp 27) (.tmp 29) 23 40 (.agg #[.int .u8 0, .string ⟨#[]⟩, .int .i64 0, .slice none 0 0, .int .i64 0]) 5 64 rfl Try.underlying23 info40 rfl (by decide) (by decide) (.slice A0 out.length c0) out.length (fcells out 2 vs) [.int .u8 F.k, .string F.t, .int .i64 F.n, .slice none 0 0, .int .i64 F.at_] rfl rfl rfl (form_one F) HO.out hBd.out hBd.out.size hlong ?_; intro v3 w3 hown3 hb3 hg3 hat3; obtain ⟨g3, cap3, rfl, _, _⟩ := hown3.form (Nat.succ_pos _); have hL3 := Lib.hid (form_apart hP.out.obj HO.out (by decide) hg3); have c3 : w3.cell? ⟨g, 1, none⟩ = some (.slice A0 out.length c0) := (by rw [blk_cell hL3.out]; rfl); have f3 := blk_frozen hL3.out 1; have HO3 := Lib.hid hown3; clear hown3)
      all_goals
        go_wp2
        go_meet
        case rel =>
          exact ⟨_, IsTk.addForm (f := F) hP.out.drewN HO3.out hg3, hMa.out.trans ((TkMv.drewl wa).trans (TkMv.addForm hP.out.drewN hg3 hBd.out.size hat3))⟩
    case rest =>
      obtain ⟨fv3, hP3, hM3⟩ := hcut
      clear hP hBk hMa hWa y1 f1 a0 a1 a2 a3 a4 af0 af1 af2 af3 af4
      have hst : (tkAdd (out, ls) F).1.length = out.length + 1 := by unfold tkAdd; simp
      have hR0 : MvRel w.heap.size g 95 (some ⟨g2, o2, none⟩) c W fs ks i (out, ls) (TkOwn g (.slice A0 out.length c0) vs (out.length + 2)) wc 0 := by
        unfold MvRel tkSo
        rw [List.take_zero, show kidsB fs.length i [] = [] from rfl, List.foldl_nil, HFD.out, hst]
        exact ⟨fv3, _, hP3.out, hM3.out⟩
      have HR0 := Lib.hid hR0
      clear hP3 hM3 hR0 hst
      go_wp2_with (fail)
      go_loopw [7] (fun x wr => ∃ j : Nat, x = .int .i64 (j : Int) ∧ j ≤ (ks i).length ∧ Hid (MvRel w.heap.size g 95 (some ⟨g2, o2, none⟩) c W fs ks i (out, ls) (TkOwn g (.slice A0 out.length c0) vs (out.length + 2)) wr j)) (fun x _ => (ks i).length - (intOf x).toNat)
      case atStart => exact ⟨0, rfl, Nat.zero_le _, HR0⟩
      case round =>
        obtain ⟨j, rfl, hj, hR⟩ := hrel
        obtain ⟨fv', vs', hT, hM⟩ := hR.out
        obtain ⟨st1, hst1⟩ : ∃ st1, st1 = tkSo fs.length fs ks i (out, ls) (kidsB fs.length i ((ks i).take j)) := ⟨_, rfl⟩
        have hsp := tkSo_spec fs.length fs ks i (out, ls) (kidsB fs.length i ((ks i).take j))
        rw [← hst1] at hT hM hsp
        have hple := pre_take_le fs.length ks i (ks i) j
        rw [bel_pre] at hsz
        have hWr : Below w.heap.size w wr := HW.out.trans hM.below
        obtain ⟨gq, oq, Cq, eq, hAq, _, _, _, _, q3, _, _, hIq⟩ := (HF.out.below hWr) i F (by rw [List.getD_eq_getElem?_getD, List.getElem?_eq_getElem hi] at HFD; have := HFD.out; rw [List.getElem?_eq_getElem hi]; exact congrArg some this)
        injection hAq with hAq
        injection hAq with e1 e2
        subst e1 e2
        have y0 : wr.cell? ⟨g, 0, none⟩ = some (.slice (some ⟨g2, o2, none⟩) fs.length c) := by rw [blk_cell hT.obj]; rfl
        have HT := Lib.hid hT
        have HM := Lib.hid hM
        have HIq := Lib.hid hIq
        have HST1 := Lib.hid hst1
        have HSP := Lib.hid hsp
        have hlk := HK.out i
        have HPLE := Lib.hid hple
        have HSZ := Lib.hid hsz
        clear hR hT hM hIq hst1 hsp hple hsz
        by_cases hlt : j < (ks i).length
        · obtain ⟨gc, oc, hAc, _, x0⟩ := HIq.out j hlt
          subst hAc
          obtain ⟨p, hp⟩ : ∃ p, p = (ks i).getD j 0 := ⟨_, rfl⟩
          rw [← hp] at x0
          have qd : decide ((j : Int) < ((ks i).length : Int)) = true := decide_eq_true (by omega)
          have u1 : (j : Int) < ((ks i).length : Int) := by omega
          have u0 : (0 : Int) ≤ (j : Int) := by omega
          have hw : IntKind.i64.wrap ((j : Int) + 1) = ((j + 1 : Nat) : Int) := by rw [IntWalk.i64_in _ (by omega)]; omega
          have hsn := Lib.hid (kidsB_snoc fs.length i (ks i) j hlt)
          rw [← hp] at hsn
          by_cases hv : (i : Int) < p ∧ p < (fs.length : Int)
          · obtain ⟨k, rfl⟩ : ∃ k : Nat, p = (k : Int) := ⟨p.toNat, by omega⟩
            have hik : i < k := by omega
            have hkN : k < fs.length := by omega
            have q1 : decide ((i : Int) < (k : Int)) = true := decide_eq_true (by omega)
            have q1' : decide ((k : Int) > (i : Int)) = true := decide_eq_true (by omega)
            have q2 : decide ((k : Int) < (fs.length : Int)) = true := decide_eq_true (by omega)
            have hnext : Hid (kidsB fs.length i ((ks i).take (j + 1)) = kidsB fs.length i ((ks i).take j) ++ [k]) := by show _ = _; rw [hsn.out, if_pos hv, Int.toNat_natCast]
            have hfit : st1.1.length + 1 + (bel fs.length ks k).length ≤ 400 := by
              have h1 := pre_take_le fs.length ks i (ks i) (j + 1)
              rw [hnext.out, pre_append, List.length_append, pre_cons, List.length_cons, List.length_append] at h1
              have h2 := HSP.out.1
              have h3 := HSZ.out
              dsimp only at h2
              omega
            have hb : out.length < st1.1.length := by have := HSP.out.1; dsimp only at this; omega
            have HC := Lib.hid (IH.out k wr st1 fv' vs' hik hkN HT.out hfit hWr)
            clear hv hp hsn
            go_wp2_with (fail)
            refine HC.out.mono ?_
            rintro e w2 ⟨rfl, fv2, vs2, hT2, hM2⟩
            obtain ⟨st2, hst2⟩ : ∃ st2, st2 = tk fs.length fs ks k st1 := ⟨_, rfl⟩
            rw [← hst2] at hT2 hM2
            have hl2 : st2.1.length = st1.1.length + 1 + (bel fs.length ks k).length := by rw [hst2]; exact tk_len fs.length fs ks k st1
            have hb2 : out.length < st2.1.length := by omega
            have hr2 : Hid (st2.2 (out.length + 2) = st1.2 (out.length + 2)) := by show _ = _; rw [hst2]; exact tk_row fs.length fs ks k st1 _ (by omega)
            have hlr : (st2.2 (out.length + 2)).length ≤ 400 := by
              rw [hr2.out]
              have h1 := HSP.out.2
              rw [h1]
              have h2 := pre_len fs.length ks (kidsB fs.length i ((ks i).take j))
              have h3 := HPLE.out
              have h4 := HSZ.out
              omega
            obtain ⟨F2, cap2, hfv2, _, _⟩ := hT2.row.form (by omega)
            subst hfv2
            obtain ⟨B1, c1, hv1⟩ := own_slice (hT2.kids.1 (out.length + 2) (by omega))
            have hO5 := hT2.kids.1 (out.length + 2) (by omega)
            obtain ⟨fb, hfb⟩ : ∃ fb, st2.1[out.length]? = some fb := ⟨_, List.getElem?_eq_getElem hb2⟩
            have hcl : w2.cell? ⟨F2, out.length * 5 + 3, none⟩ = some (vs2 (out.length + 2)) := by
              rw [hT2.row.cellAt (out.length * 5 + 3) (by omega), fcells_get st2.1 2 vs2 out.length 3 fb hfb (by decide), show 2 + out.length = out.length + 2 by omega]
              rfl
            rw [hv1] at hcl hO5
            have y1 : w2.cell? ⟨g, 1, none⟩ = some (.slice (some ⟨F2, 0, none⟩) st2.1.length cap2) := by rw [blk_cell hT2.obj]; rfl
            have hO5d : w2.drew.ownsRow w.heap.size 3 1 (.slice B1 (st2.2 (out.length + 2)).length c1) (st2.2 (out.length + 2)).length (nums .i64 (st2.2 (out.length + 2))) := hO5
            have HO5 := Lib.hid hO5d
            have HV1 := Lib.hid hv1
            have HT2 := Lib.hid hT2
            have HM2 := Lib.hid (HM.out.trans hM2)
            have hBd : Hid (Below w.heap.size w w2.drew) := below_drew (HW.out.trans HM2.out.below)
            have v1 : ((out.length : Nat) : Int) < (st2.1.length : Int) := by omega
            have v0 : (0 : Int) ≤ ((out.length : Nat) : Int) := by omega
            have hlong : ((st2.2 (out.length + 2)).length + 1) * 8 ≤ 140737488355328 := by omega
            have hal1 : (w2.alloc (.cells #[.int .i64 (st1.1.length : Int)] 3)).cell? ⟨F2, out.length * 5 + 3, none⟩ = some (.slice B1 (st2.2 (out.length + 2)).length c1) := (World.cell?_alloc_some _ _ _ (by show (w2.cell? _).isSome = true; rw [hcl]; rfl)).trans hcl
            have hal2 : (w2.alloc (.cells #[.int .i64 (st1.1.length : Int)] 3)).cell? ⟨g, 1, none⟩ = some (.slice (some ⟨F2, 0, none⟩) st2.1.length cap2) := (World.cell?_alloc_some _ _ _ (by show (w2.cell? _).isSome = true; rw [y1]; rfl)).trans y1
            have HSLOT : Hid (∀ w3 : World, w2.drew.grownBy w3 (Value.slice B1 (st2.2 (out.length + 2)).length c1).ownBlock → w3.cell? ⟨F2, out.length * 5 + 3, none⟩ = some (vs2 (out.length + 2)) ∧ w3.frozen? ⟨F2, out.length * 5 + 3, none⟩ = false ∧ w3.cell? ⟨g, 1, none⟩ = some (.slice (some ⟨F2, 0, none⟩) st2.1.length cap2)) := fun w3 hg3 => by
              have hr3 := own_other HT2.out.drewN.row hg3 (own_type_ne HT2.out.drewN.row HO5.out (by decide))
              refine ⟨?_, hr3.frozenAt _, by rw [blk_cell (blk_grown (w := w2.drew) HT2.out.obj hg3 (own_ne (w := w2.drew) HO5.out HT2.out.obj (by decide)))]; rfl⟩
              rw [hr3.cellAt (out.length * 5 + 3) (by omega), fcells_get st2.1 2 vs2 out.length 3 fb hfb (by decide), show 2 + out.length = out.length + 2 by omega]
              rfl
            have HFIN : Hid (∀ (w3 : World) (v3 : Value), w3.ownsRow w.heap.size 3 1 v3 ((st2.2 (out.length + 2)).length + 1) (nums .i64 (st2.2 (out.length + 2)) ++ [.int .i64 (st1.1.length : Int)]) → w2.drew.grownBy w3 (Value.slice B1 (st2.2 (out.length + 2)).length c1).ownBlock → (v3.ownBlock = (Value.slice B1 (st2.2 (out.length + 2)).length c1).ownBlock ∨ ∃ x, v3.ownBlock = some x ∧ w2.drew.heap.size ≤ x) →
                MvRel w.heap.size g 95 (some ⟨g2, o2, none⟩) c W fs ks i (out, ls) (TkOwn g (.slice A0 out.length c0) vs (out.length + 2)) (w3.setCell ⟨F2, out.length * 5 + 3, none⟩ v3) (j + 1)) := fun w3 v3 hown3 hg3 hat3 => by
              unfold MvRel
              rw [hnext.out, tkSo_snoc, ← HST1.out, ← hst2]
              have hg3' : w2.drew.grownBy w3 (vs2 (out.length + 2)).ownBlock := by rw [HV1.out]; exact hg3
              have hat3' : v3.ownBlock = (vs2 (out.length + 2)).ownBlock ∨ ∃ x, v3.ownBlock = some x ∧ w2.drew.heap.size ≤ x := by rw [HV1.out]; exact hat3
              exact ⟨_, _, IsTk.pushKid HT2.out.drewN hb2 rfl hown3 hg3' hat3', HM2.out.trans ((TkMv.drewl w2).trans (TkMv.pushKid HT2.out.drewN hb2 rfl hg3' hBd.out.size hat3'))⟩
            have HST2 := Lib.hid hst2
            clear hT2 hM2 hst2 hO5 hO5d hv1 hfb hfit hl2 hb hb2
            go_wp2_with (fail)
            go_region_law (refine step_append_cells (W := w2.drew) (w0 := w) w.heap.size rfl (.tmp 84) (.tmp 86) 24 3 (.int .i64 0) 1 8 rfl Try.underlying24 info3 rfl (by decide) (by decide) (.slice B1 (st2.2 (out.length + 2)).length c1) (st2.2 (out.length + 2)).length (nums .i64 (st2.2 (out.length + 2))) [.int .i64 (st1.1.length : Int)] rfl rfl rfl (by intro u hu; simp at hu; subst hu; rfl) HO5.out hBd.out hBd.out.size hlong ?_; intro v3 w3 hown3 hb3 hg3 hat3; obtain ⟨g3, cap3, rfl, _, _⟩ := hown3.form (Nat.succ_pos _); have c3 := (HSLOT.out w3 hg3).1; have f3 := (HSLOT.out w3 hg3).2.1; have f4 := (HSLOT.out w3 hg3).2.2; have HO3 := Lib.hid hown3; clear hown3)
            all_goals
              go_wp2
              go_roundw
              case measure => simp [intOf]; omega
              case rel => exact ⟨j + 1, by first | rfl | (rw [hw]) | simp, by omega, HFIN.out w3 _ HO3.out hg3 hat3⟩
          · have hnext : Hid (kidsB fs.length i ((ks i).take (j + 1)) = kidsB fs.length i ((ks i).take j)) := by show _ = _; rw [hsn.out, if_neg hv, List.append_nil]
            have HFIN : Hid (MvRel w.heap.size g 95 (some ⟨g2, o2, none⟩) c W fs ks i (out, ls) (TkOwn g (.slice A0 out.length c0) vs (out.length + 2)) wr (j + 1)) := by
              show MvRel _ _ _ _ _ _ _ _ _ _ _ _ _
              unfold MvRel
              rw [hnext.out, ← HST1.out]
              exact ⟨_, _, HT.out, HM.out⟩
            clear hp hsn hnext
            by_cases h1 : (i : Int) < p
            · have q1 : decide ((i : Int) < p) = true := decide_eq_true (by omega)
              have q1' : decide (p > (i : Int)) = true := decide_eq_true (by omega)
              have q2 : decide (p < (fs.length : Int)) = false := decide_eq_false (by omega)
              clear hv h1
              go_wp2
              go_roundw
              case measure => simp [intOf]; omega
              case rel => exact ⟨j + 1, by first | rfl | (rw [hw]) | simp, by omega, HFIN⟩
            · have q1 : decide ((i : Int) < p) = false := decide_eq_false (by omega)
              have q1' : decide (p > (i : Int)) = false := decide_eq_false (by omega)
              clear hv h1
              go_wp2
              go_roundw
              case measure => simp [intOf]; omega
              case rel => exact ⟨j + 1, by first | rfl | (rw [hw]) | simp, by omega, HFIN⟩
        · obtain rfl : j = (ks i).length := by omega
          have qd : decide (((ks i).length : Int) < ((ks i).length : Int)) = false := decide_eq_false (by omega)
          have hall : st1 = tk fs.length fs ks i (out, ls) := by rw [HST1.out, List.take_length, tkSo_all]
          have HALL := Lib.hid hall
          clear hall hlt
          go_wp2
          go_ret
          refine ⟨rfl, fv', vs', ?_⟩
          rw [← HALL.out]
          exact ⟨HT.out, HM.out⟩
end Go.Proofs.Ytiojfdgagdofiaa.HP
/-
The kids of a form, gone through: no more yields than there are kids.
-/
set_option linter.unusedVariables false
set_option linter.unusedSimpArgs false
namespace Go.Proofs.Ytiojfdgagdofiaa.HP
open Go.RowKit Go.Proofs.Ytiojfdgagdofiaa.HB Go.Proofs.Ytiojfdgagdofiaa.HK Go.Proofs.YtiojfdgagdofiaaW.PrintWords Go.Proofs.YtiojfdgagdofiaaW.PrintLast Go.Proofs.YtiojfdgagdofiaaW.PrintMore
attribute [local go_sem] Oper.semAt_some wide_fn wide_depth
set_option maxHeartbeats 4000000 in
set_option maxRecDepth 100000 in
theorem kids1_few (n : Nat) (hn : 2 ≤ n) (l b1 b2 : Nat) (A : Option Addr) (c : Nat) (fs : List FormP) (ks : Nat → List Int) (i : Nat) (hi : i < fs.length) (w0 : World) (hF : FRow w0 A fs ks) (hN : fs.length ≤ 140737488351232) (hlen : (ks i).length ≤ 140737488351232) (J Jx : List (KidT fs.length i (ks i)) → World → Prop)
    (W : World) (hJ : AbidesFrom W.heap.size J)
    (hY : ∀ pre x W, J pre W → pre.length < (kidsAll fs.length i (ks i)).length → YieldAt Fence.wide (n - 1) Try.prog l #[.int .i64 ((x.1 : Nat) : Int)] W fun e W' =>
      (e = .returned (.bool true) ∧ J (pre ++ [x]) W' ∧ KpC w0.heap.size b1 b2 W W') ∨ (e = .returned (.bool false) ∧ Jx (pre ++ [x]) W'))
    (hb1 : W.heap[b1]? = some (.cells #[.slice A fs.length c] 23 (0, 0))) (hb2 : W.heap[b2]? = some (.cells #[.int .i64 (i : Int)] 3 (0, 0))) (hW : Below w0.heap.size w0 W) (h0 : J [] W) :
    CallsIn Fence.wide n Try.prog 72 #[.func (.yield l) #[] #[], .pointer (some ⟨b1, 0, none⟩), .pointer (some ⟨b2, 0, none⟩)] W fun e W' => (∃ v, e = .returned v) ∧
      ((∃ ys, ys = kidsAll fs.length i (ks i) ∧ J ys W') ∨ (∃ pre, pre <+: kidsAll fs.length i (ks i) ∧ Jx pre W')) := by
  have hc1 : W.cell? ⟨b1, 0, none⟩ = some (.slice A fs.length c) := (blk_cell hb1 0).trans rfl
  have hc2 : W.cell? ⟨b2, 0, none⟩ = some (.int .i64 (i : Int)) := (blk_cell hb2 0).trans rfl
  obtain ⟨T, hT⟩ : ∃ T, fs[i]? = some T := ⟨_, List.getElem?_eq_getElem hi⟩
  obtain ⟨g, o, B, d, hA, hg, _, _, _, d3, _, hd, hI⟩ := hF i T hT
  have HI := Lib.hid hI
  have D3 : W.cell? ⟨g, o + i * 5 + 3, none⟩ = some (.slice B (ks i).length d) := by rw [hW.cell (p := ⟨g, o + i * 5 + 3, none⟩) hg]; exact d3
  have hi1 : (i : Int) < (fs.length : Int) := by omega
  have hi0 : (0 : Int) ≤ (i : Int) := by omega
  subst hA
  clear hT d3 hI
  refine callsIn_of_wp Try.func72 rfl trivial ?_ rfl
  simp only [Try.ntmps72, List.size_toArray, List.length_cons, List.length_nil, Nat.reduceAdd, Nat.reduceSub, Array.replicate_succ, Array.replicate_zero, List.push_toArray, List.append_toArray, List.nil_append, List.cons_append]
  gi_wp2
  gi_loopw [12] (fun x wr => ∃ k : Nat, k ≤ (ks i).length ∧ x = .int .i64 k ∧ J (kidsT fs.length i (ks i) k) wr ∧ Hid (Below w0.heap.size w0 wr) ∧ Hid (wr.heap[b1]? = some (.cells #[.slice (some ⟨g, o, none⟩) fs.length c] 23 (0, 0))) ∧ Hid (wr.heap[b2]? = some (.cells #[.int .i64 (i : Int)] 3 (0, 0)))) (fun x _ => (ks i).length - (intOf x).toNat)
  case atStart => exact ⟨0, Nat.zero_le _, rfl, h0, hW, hb1, hb2⟩
  case round =>
    obtain ⟨k, hk, rfl, hJs, hB, hb1r, hb2r⟩ := hrel
    by_cases hlt : k < (ks i).length
    · obtain ⟨g2, o2, hA2, hg2, c0⟩ := (HI.out.below hB.out) k hlt
      subst hA2
      obtain ⟨p, hp⟩ : ∃ p, p = (ks i).getD k 0 := ⟨_, rfl⟩
      rw [← hp] at c0
      have hpl := kidsT_len fs.length i (ks i) k
      have hcb1 : wr.cell? ⟨b1, 0, none⟩ = some (.slice (some ⟨g, o, none⟩) fs.length c) := (blk_cell hb1r.out 0).trans rfl
      have hcb2 : wr.cell? ⟨b2, 0, none⟩ = some (.int .i64 (i : Int)) := (blk_cell hb2r.out 0).trans rfl
      have HP := Lib.hid hp
      have hJ2 := Lib.hid hJs
      have q1 : (k : Int) < ((ks i).length : Int) := by omega
      have q0 : (0 : Int) ≤ (k : Int) := by omega
      have qd : decide ((k : Int) < ((ks i).length : Int)) = true := decide_eq_true q1
      have hw2 : IntKind.i64.wrap ((k : Int) + 1) = ((k + 1 : Nat) : Int) := by rw [IntWalk.i64_in _ (by omega)]; omega
      clear hp hJs
      by_cases h1 : (i : Int) < p
      · have a1 : decide ((i : Int) < p) = true := decide_eq_true h1
        have a1' : decide (p > (i : Int)) = true := decide_eq_true h1
        by_cases h2 : p < (fs.length : Int)
        · have a2 : decide (p < (fs.length : Int)) = true := decide_eq_true h2
          obtain ⟨hm, hyes⟩ := kidsT_yes (N := fs.length) (i := i) (l := ks i) hlt (by rw [← HP.out]; exact h1) (by rw [← HP.out]; exact h2)
          have HY := Lib.hid hyes
          obtain ⟨fn, tmps, assign, body, hy, hR⟩ := hY _ (⟨((ks i).getD k 0).toNat, hm⟩ : KidT fs.length i (ks i)) wr hJ2.out (by have h5 := (kidsT_prefix fs.length i (ks i) (k + 1) (by omega)).length_le; rw [hyes, List.length_append, List.length_singleton] at h5; exact h5)
          dsimp only at hy
          have hpp : ((((ks i).getD k 0).toNat : Nat) : Int) = p := by rw [← HP.out]; omega
          rw [hpp] at hy
          clear hpp hyes
          gi_wp2
          refine hR.mono ?_
          rintro e W3 (⟨rfl, hJ4, hk4⟩ | ⟨rfl, hJx⟩)
          · have hJ5 := Lib.hid hJ4
            have hB5 := Lib.hid (hB.out.trans hk4.1)
            have hb5 := Lib.hid (hk4.2.1.trans hb1r.out)
            have hb6 := Lib.hid (hk4.2.2.trans hb2r.out)
            clear hJ4 hk4 hR hy
            gi_wp2
            go_roundw
            case measure => simp [intOf]; omega
            case rel => exact ⟨k + 1, by omega, by go_num, by rw [HY.out]; exact hJ5.out, hB5.out, hb5.out, hb6.out⟩
          · have hJ5 := Lib.hid hJx
            clear hJx hR hy
            gi_wp2
            refine bodyPost_ret (results_none rfl _ _ _) rfl ?_
            refine ⟨⟨_, rfl⟩, .inr ⟨kidsT fs.length i (ks i) (k + 1), kidsT_prefix _ _ _ _ (by omega), ?_⟩⟩
            rw [HY.out]
            exact hJ5.out
        · have a2 : decide (p < (fs.length : Int)) = false := decide_eq_false h2
          have HY := Lib.hid (kidsT_no (N := fs.length) (i := i) (l := ks i) hlt (by rw [← HP.out]; rintro ⟨_, h⟩; exact h2 h))
          gi_wp2
          go_roundw
          case measure => simp [intOf]; omega
          case rel => exact ⟨k + 1, by omega, by go_num, by rw [HY.out]; exact hJ2.out, hB.out, hb1r.out, hb2r.out⟩
      · have a1 : decide ((i : Int) < p) = false := decide_eq_false h1
        have a1' : decide (p > (i : Int)) = false := decide_eq_false h1
        have HY := Lib.hid (kidsT_no (N := fs.length) (i := i) (l := ks i) hlt (by rw [← HP.out]; rintro ⟨h, _⟩; exact h1 h))
        gi_wp2
        go_roundw
        case measure => simp [intOf]; omega
        case rel => exact ⟨k + 1, by omega, by go_num, by rw [HY.out]; exact hJ2.out, hB.out, hb1r.out, hb2r.out⟩
    · obtain rfl : k = (ks i).length := by omega
      gi_wp2
      go_end0
      exact ⟨⟨_, rfl⟩, .inl ⟨_, rfl, hJs⟩⟩
theorem kids_few (n : Nat) (hn : 2 ≤ n) (b1 b2 : Nat) (A : Option Addr) (c : Nat) (fs : List FormP) (ks : Nat → List Int) (i : Nat) (hi : i < fs.length) (w0 w : World) (hF : FRow w0 A fs ks) (hN : fs.length ≤ 140737488351232) (hlen : (ks i).length ≤ 140737488351232)
    (hb1 : w.heap[b1]? = some (.cells #[.slice A fs.length c] 23 (0, 0))) (hb2 : w.heap[b2]? = some (.cells #[.int .i64 (i : Int)] 3 (0, 0))) (hw : Below w0.heap.size w0 w) :
    SeqStopsK Fence.wide n Try.prog 72 #[.pointer (some ⟨b1, 0, none⟩), .pointer (some ⟨b2, 0, none⟩)] (fun x : KidT fs.length i (ks i) => #[Value.int .i64 ((x.1 : Nat) : Int)]) (KpC w0.heap.size b1 b2) (fun ys => ys = kidsAll fs.length i (ks i)) (fun pre => pre <+: kidsAll fs.length i (ks i)) (kidsAll fs.length i (ks i)).length w :=
  fun l J Jx W hW hJ _ hY h0 => kids1_few n hn l b1 b2 A c fs ks i hi w0 hF hN hlen J Jx W hJ hY (blk_below hb1 hW) (blk_below hb2 hW) (below_then hw hw.size hW) h0
end Go.Proofs.Ytiojfdgagdofiaa.HP
/-
tree's taker.take over the translation: a form, with all below it, into a list of its own.
-/
set_option linter.unusedVariables false
set_option linter.unusedSimpArgs false
namespace Go.Proofs.Ytiojfdgagdofiaa.HP
open Go.RowKit Go.Proofs.Ytiojfdgagdofiaa.HB Go.Proofs.Ytiojfdgagdofiaa.HK Go.Proofs.YtiojfdgagdofiaaW.PrintWords Go.Proofs.YtiojfdgagdofiaaW.PrintLast Go.Proofs.YtiojfdgagdofiaaW.PrintMore
attribute [local go_sem] Oper.semAt_some wide_fn wide_depth
theorem bel_kid {N : Nat} {ks : Nat → List Int} {i k : Nat} (h : k ∈ kidsB N i (ks i)) : 1 + (bel N ks k).length ≤ (bel N ks i).length := by
  rw [bel_pre N ks i]
  generalize kidsB N i (ks i) = l at h
  induction l with
  | nil => cases h
  | cons x r ih =>
    rw [pre_cons, List.length_cons, List.length_append]
    rcases List.mem_cons.1 h with rfl | h
    · omega
    · have := ih h; omega
theorem pre_mul {N : Nat} {ks : Nat → List Int} {i : Nat} : ∀ (l : List Nat), (∀ x ∈ l, x ∈ kidsB N i (ks i)) → (pre N ks l).length ≤ l.length * (bel N ks i).length
  | [], _ => Nat.zero_le _
  | x :: r, h => by
    have h1 := bel_kid (h x List.mem_cons_self)
    have h2 := pre_mul r (fun y hy => h y (List.mem_cons_of_mem _ hy))
    rw [pre_cons, List.length_cons, List.length_cons, List.length_append, Nat.succ_mul]
    omega
/-- An operation that reads, into slot d, taken first. -/
theorem take_at {P : Program} {md : Region.Mode} {ops : Array Oper} {Q : Exit → Act → World → Prop} {S : World → Prop} {i d : Nat} {oi : Oper} {v : Value} {fuel : Nat} {listed : Array Bool} {a : Act} {w : World} (hi : ops[i]? = some oi) (hd : oi.dst = some d)
    (hs : Region.noSelect ops = true) (hf : Region.free md ops listed i = true) (hr : (Region.ready md ops listed).contains i = true)
    (hQ : ∀ c a w, Q (.panic c) (a.put oi.dst v) w → Q (.panic c) a w) (hy : YieldsIf P ops S oi v a) (hS : S w)
    (h : wpAnyH P md ops Q S fuel (listed.setIfInBounds i true) { tmps := a.tmps.setIfInBounds d v, defers := a.defers } w) : wpAnyH P md ops Q S (fuel + 1) listed a w :=
  wpAnyH_take hi hs hf hr hQ hy hS (by rw [hd]; exact h)
set_option maxHeartbeats 16000000 in
set_option maxRecDepth 100000 in
theorem taker_calls (w : World) (A : Option Addr) (c g : Nat) (fs : List FormP) (ks : Nat → List Int) (hF : FRow w A fs ks) (hN : fs.length ≤ 1000000) (hk : ∀ j, (ks j).length ≤ 140737488351232) :
    ∀ (d i : Nat) (W : World) (st : TkSt) (fv : Value) (vs : Nat → Value), fs.length - i = d → i < fs.length → IsTk w.heap.size g 91 A fs.length c W st.1 fv vs st.2 → (bel fs.length ks i).length ≤ 400 → st.1.length + 160001 * (1 + (bel fs.length ks i).length) ≤ 100000000 → Below w.heap.size w W →
    Calls Try.prog 58 #[.pointer (some ⟨g, 0, none⟩), .int .i64 (i : Int)] W fun e W' => TkEnds w.heap.size g 91 A fs.length c W st fv vs (tk fs.length fs ks i st) e W' := by
  have HF := Lib.hid hF
  have HK := Lib.hid hk
  clear hF hk
  intro d
  induction d using Nat.strongRecOn with
  | _ d ih =>
    rintro i W ⟨out, ls⟩ fv vs hd hi hT hbl hsz hW
    dsimp only at hT hsz ⊢
    have IH : Hid (∀ (k : Nat) (W : World) (st : TkSt) (fv : Value) (vs : Nat → Value), i < k → k < fs.length → IsTk w.heap.size g 91 A fs.length c W st.1 fv vs st.2 → (bel fs.length ks k).length ≤ 400 → st.1.length + 160001 * (1 + (bel fs.length ks k).length) ≤ 100000000 → Below w.heap.size w W → Calls Try.prog 58 #[.pointer (some ⟨g, 0, none⟩), .int .i64 (k : Int)] W fun e W' => TkEnds w.heap.size g 91 A fs.length c W st fv vs (tk fs.length fs ks k st) e W') :=
      fun k W st fv vs h1 h2 => ih (fs.length - k) (by omega) k W st fv vs rfl h2
    clear ih hd
    obtain ⟨F, hj⟩ : ∃ F, fs[i]? = some F := ⟨_, List.getElem?_eq_getElem hi⟩
    have hFd : fs.getD i noForm = F := by rw [List.getD_eq_getElem?_getD, hj]; rfl
    obtain ⟨A0, c0, rfl⟩ := own_slice hT.row
    have hg0 := blk_lt hT.obj
    have z1 : (i : Int) < (fs.length : Int) := by omega
    have z0 : (0 : Int) ≤ (i : Int) := by omega
    obtain ⟨W1, hW1⟩ : ∃ W1, W1 = W.alloc (.cells #[.pointer (some ⟨g, 0, none⟩)] 89) := ⟨_, rfl⟩
    have hT1 : IsTk w.heap.size g 91 A fs.length c W1 out (.slice A0 out.length c0) vs ls := by rw [hW1]; exact hT.alloc _
    have hM1 : TkMv w.heap.size (TkOwn g (.slice A0 out.length c0) vs (out.length + 2)) W W1 (TkOwn g (.slice A0 out.length c0) vs (out.length + 2)) := by rw [hW1]; exact TkMv.alloc W _ hW.size
    have hs1 : W1.heap.size = W.heap.size + 1 := by rw [hW1]; exact Array.size_push _
    have hx1 : W1.heap[W.heap.size]? = some (.cells #[.pointer (some ⟨g, 0, none⟩)] 89 (0, 0)) := by rw [hW1]; exact blk_new W _
    have y1 : W1.cell? ⟨g, 1, none⟩ = some (.slice A0 out.length c0) := by rw [blk_cell hT1.obj]; rfl
    have y2 : W1.cell? ⟨W.heap.size, 0, none⟩ = some (.pointer (some ⟨g, 0, none⟩)) := by rw [blk_cell hx1]; rfl
    obtain ⟨W2, hW2⟩ : ∃ W2, W2 = W1.alloc (.cells #[.int .i64 (out.length : Int)] 3) := ⟨_, rfl⟩
    have hT2 : IsTk w.heap.size g 91 A fs.length c W2 out (.slice A0 out.length c0) vs ls := by rw [hW2]; exact hT1.alloc _
    have hM2 : TkMv w.heap.size (TkOwn g (.slice A0 out.length c0) vs (out.length + 2)) W1 W2 (TkOwn g (.slice A0 out.length c0) vs (out.length + 2)) := by rw [hW2]; exact TkMv.alloc W1 _ (by have := hW.size; omega)
    have hs2 : W2.heap.size = W.heap.size + 1 + 1 := by rw [hW2, ← hs1]; exact Array.size_push _
    have hx2 : W2.heap[W.heap.size]? = some (.cells #[.pointer (some ⟨g, 0, none⟩)] 89 (0, 0)) := by rw [hW2]; exact blk_alloc hx1 _
    have hn2 : W2.heap[W.heap.size + 1]? = some (.cells #[.int .i64 (out.length : Int)] 3 (0, 0)) := by rw [hW2, ← hs1]; exact blk_new W1 _
    have u0 : W2.cell? ⟨g, 0, none⟩ = some (.slice A fs.length c) := by rw [blk_cell hT2.obj]; rfl
    have u2 : W2.cell? ⟨W.heap.size, 0, none⟩ = some (.pointer (some ⟨g, 0, none⟩)) := by rw [blk_cell hx2]; rfl
    have hWW2 : Below w.heap.size w W2 := hW.trans (hM1.below.trans hM2.below)
    obtain ⟨g2, o2, C, e2, hA2, hg2, d0, d1, d2, d3, d4, _, hI⟩ := (HF.out.below hWW2) i F hj
    subst hA2
    obtain ⟨W3, hW3⟩ : ∃ W3, W3 = W2.alloc (.cells #[.int .u8 F.k, .string F.t, .int .i64 F.n, .slice none 0 0, .int .i64 F.at_] 40) := ⟨_, rfl⟩
    have hT3 : IsTk w.heap.size g 91 (some ⟨g2, o2, none⟩) fs.length c W3 out (.slice A0 out.length c0) vs ls := by rw [hW3]; exact hT2.alloc _
    have hM3 : TkMv w.heap.size (TkOwn g (.slice A0 out.length c0) vs (out.length + 2)) W W3 (TkOwn g (.slice A0 out.length c0) vs (out.length + 2)) := by rw [hW3]; exact hM1.trans (hM2.trans (TkMv.alloc W2 _ (by have := hW.size; omega)))
    have hs3 : W3.heap.size = W.heap.size + 1 + 1 + 1 := by rw [hW3, ← hs2]; exact Array.size_push _
    have hx3 : W3.heap[W.heap.size]? = some (.cells #[.pointer (some ⟨g, 0, none⟩)] 89 (0, 0)) := by rw [hW3]; exact blk_alloc hx2 _
    have hn3 : W3.heap[W.heap.size + 1]? = some (.cells #[.int .i64 (out.length : Int)] 3 (0, 0)) := by rw [hW3]; exact blk_alloc hn2 _
    have hf3 : W3.heap[W.heap.size + 1 + 1]? = some (.cells #[.int .u8 F.k, .string F.t, .int .i64 F.n, .slice none 0 0, .int .i64 F.at_] 40 (0, 0)) := by rw [hW3, ← hs2]; exact blk_new W2 _
    have HW := Lib.hid hW
    have HWE1 := Lib.hid hW1
    have HWE2 := Lib.hid hW2
    have HWE3 := Lib.hid hW3
    have HS1 := Lib.hid hs1
    have HS2 := Lib.hid hs2
    have HS3 := Lib.hid hs3
    have HT3 := Lib.hid hT3
    have HM3 := Lib.hid hM3
    have HX3 := Lib.hid hx3
    have HN3 := Lib.hid hn3
    have HF3 := Lib.hid hf3
    have HNO : Hid (∀ x, W.heap.size ≤ x → x < W.heap.size + 1 + 1 + 1 → ¬ TkOwn g (.slice A0 out.length c0) vs (out.length + 2) x) := fun x hx _ e => by have := hT.lt e; omega
    have HFD := Lib.hid hFd
    clear hT hT1 hT2 hT3 hM1 hM2 hM3 hW hI hj hFd hW1 hW2 hW3 hs1 hs2 hs3 hx1 hx2 hx3 hn2 hn3 hf3 hWW2
    refine (callsIn_wide (n := 6)).1 ?_
    refine callsIn_of_wp_marks Try.func58 rfl trivial ?_ rfl
    simp only [Try.ntmps58, List.size_toArray, List.length_cons, List.length_nil, Nat.reduceAdd, Nat.reduceSub, Array.replicate_succ, Array.replicate_zero, List.push_toArray, List.append_toArray, List.nil_append, List.cons_append]
    gi_upto_region 1 with (fail)
    rw [← HWE1.out]
    gi_upto_region 2 with (fail)
    rw [HS1.out, ← HWE2.out]
    clear y1 y2
    gi_upto_region 4 with (fail)
    rw [HS2.out, ← HWE3.out]
    clear u0 u2 d0 d1 d2 d3 d4
    have y1 : W3.cell? ⟨g, 1, none⟩ = some (.slice A0 out.length c0) := by rw [blk_cell HT3.out.obj]; rfl
    have f1 : W3.frozen? ⟨g, 1, none⟩ = false := blk_frozen HT3.out.obj 1
    have y2 : W3.cell? ⟨W.heap.size, 0, none⟩ = some (.pointer (some ⟨g, 0, none⟩)) := by rw [blk_cell HX3.out]; rfl
    obtain ⟨a0, a1, a2, a3, a4, af0, af1, af2, af3, af4⟩ := form_cells HF3.out
    gi_cut [] from 22 (fun wc => ∃ fv3, Hid (IsTk w.heap.size g 91 (some ⟨g2, o2, none⟩) fs.length c wc (tkAdd (out, ls) F).1 fv3 (upd vs (out.length + 2) (.slice none 0 0)) (tkAdd (out, ls) F).2) ∧ Hid (TkMv w.heap.size (TkOwn g (.slice A0 out.length c0) vs (out.length + 2)) W3 wc (TkOwn g fv3 (upd vs (out.length + 2) (.slice none 0 0)) (out.length + 1 + 2))))
    case first =>
      have HO : Hid (W3.drew.ownsRow w.heap.size 40 5 (.slice A0 out.length c0) out.length (fcells out 2 vs)) := HT3.out.row
      have hBd : Hid (Below w.heap.size w W3.drew) := below_drew (HW.out.trans HM3.out.below)
      have hlong : (out.length + 1) * 64 ≤ 140737488355328 := by omega
      have hal1 : (W3.alloc (.cells #[.int .u8 F.k, .string F.t, .int .i64 F.n, .slice none 0 0, .int .i64 F.at_] 40)).cell? ⟨g, 1, none⟩ = some (.slice A0 out.length c0) := (World.cell?_alloc_some _ _ _ (by rw [y1]; rfl)).trans y1
      have hal2 : (W3.alloc (.cells #[.int .u8 F.k, .string F.t, .int .i64 F.n, .slice none 0 0, .int .i64 F.at_] 40)).cell? ⟨W.heap.size, 0, none⟩ = some (.pointer (some ⟨g, 0, none⟩)) := (World.cell?_alloc_some _ _ _ (by rw [y2]; rfl)).trans y2
      refine wpIn_wide.2 (wp_region_noPanic ?_)
      go_region_law (refine step_append_cells (W := W3.drew) (w0 := w) w.heap.size rfl (.tmp 26) (.tmp 28) 23 40 (.agg #[.int .u8 0, .string ⟨#[]⟩, .int .i64 0, .slice none 0 0, .int .i64 0]) 5 64 rfl Try.underlying23 info40 rfl (by decide) (by decide) (.slice A0 out.length c0) out.length (fcells out 2 vs) [.int .u8 F.k, .string F.t, .int .i64 F.n, .slice none 0 0, .int .i64 F.at_] rfl rfl rfl (form_one F) HO.out hBd.out hBd.out.size hlong ?_; intro v3 w3 hown3 hb3 hg3 hat3; obtain ⟨g3, cap3, rfl, _, _⟩ := hown3.form (Nat.succ_pos _); have hL3 := Lib.hid (form_apart HT3.out.obj HO.out (by decide) hg3); have c3 : w3.cell? ⟨g, 1, none⟩ = some (.slice A0 out.length c0) := (by rw [blk_cell hL3.out]; rfl); have f3 := blk_frozen hL3.out 1; have c4 : w3.cell? ⟨W.heap.size, 0, none⟩ = some (.pointer (some ⟨g, 0, none⟩)) := (by rw [blk_cell (form_apart HX3.out HO.out (by decide) hg3)]; rfl); have HO3 := Lib.hid hown3; clear hown3)
      all_goals
        refine NoPanic.normal ?_
        gi_wp2
        gi_meet
        case rel =>
          exact ⟨_, IsTk.addForm (f := F) HT3.out.drewN HO3.out hg3, (TkMv.drewl W3).trans (TkMv.addForm HT3.out.drewN hg3 hBd.out.size hat3)⟩
    case rest =>
      obtain ⟨fv3, hP3, hM3⟩ := hcut
      have hX4 : wc.heap[W.heap.size]? = some (.cells #[.pointer (some ⟨g, 0, none⟩)] 89 (0, 0)) := hM3.out.block HX3.out (HNO.out _ (by omega) (by omega))
      have hN4 : wc.heap[W.heap.size + 1]? = some (.cells #[.int .i64 (out.length : Int)] 3 (0, 0)) := hM3.out.block HN3.out (HNO.out _ (by omega) (by omega))
      have hsc := hM3.out.below.size
      obtain ⟨O3, hO3⟩ : ∃ O3, O3 = TkOwn g fv3 (upd vs (out.length + 2) (.slice none 0 0)) (out.length + 1 + 2) := ⟨_, rfl⟩
      have hst : (tkAdd (out, ls) F).1.length = out.length + 1 := by unfold tkAdd; simp
      have hno3 : ∀ x, W.heap.size ≤ x → x < W.heap.size + 1 + 1 + 1 → ¬ O3 x := fun x h1 h2 => by rw [hO3]; exact hM3.out.not (by rw [HS3.out]; exact h2) (HNO.out x h1 h2)
      have hlt3 : ∀ x, O3 x → x < wc.heap.size := fun x h => hP3.out.lt (by rw [hst, ← hO3]; exact h)
      have hWc : Below w.heap.size w wc := HW.out.trans (HM3.out.below.trans hM3.out.below)
      have y2 : wc.cell? ⟨W.heap.size, 0, none⟩ = some (.pointer (some ⟨g, 0, none⟩)) := by rw [blk_cell hX4]; rfl
      have y0 : wc.cell? ⟨g, 0, none⟩ = some (.slice (some ⟨g2, o2, none⟩) fs.length c) := by rw [blk_cell hP3.out.obj]; rfl
      have HX4 := Lib.hid hX4
      have HN4 := Lib.hid hN4
      have HNO3 := Lib.hid hno3
      have HLT3 := Lib.hid hlt3
      have HWC := Lib.hid hWc
      have HST := Lib.hid hst
      have HO3 := Lib.hid hO3
      have hss := HS3.out
      clear hX4 hN4 hno3 hlt3 hWc hst hO3 y1 f1 a0 a1 a2 a3 a4 af0 af1 af2 af3 af4
      gi_wp2_with (gi_at_call 49; refine (kids_in Fence.wide _ trivial rfl (some ⟨g2, o2, none⟩) fs.length c (i : Int) _).mono ?_; rintro e w' ⟨rfl, rfl⟩)
      obtain ⟨W4, hW4⟩ : ∃ W4, W4 = (wc.alloc (.cells #[.slice (some ⟨g2, o2, none⟩) fs.length c] 23)).alloc (.cells #[.int .i64 (i : Int)] 3) := ⟨_, rfl⟩
      rw [← hW4]
      have hs4 : W4.heap.size = wc.heap.size + 2 := by rw [hW4]; simp
      have hP4 : IsTk w.heap.size g 91 (some ⟨g2, o2, none⟩) fs.length c W4 (tkAdd (out, ls) F).1 fv3 (upd vs (out.length + 2) (.slice none 0 0)) (tkAdd (out, ls) F).2 := by rw [hW4]; exact (hP3.out.alloc _).alloc _
      have hM4 : TkMv w.heap.size O3 wc W4 O3 := by rw [hW4]; exact (TkMv.alloc wc _ HWC.out.size).trans (TkMv.alloc _ _ (by have := HWC.out.size; simp; omega))
      have k4 : W4.heap[wc.heap.size]? = some (.cells #[.slice (some ⟨g2, o2, none⟩) fs.length c] 23 (0, 0)) := by rw [hW4]; exact blk_alloc (blk_new wc _) _
      have k5 : W4.heap[wc.heap.size + 1]? = some (.cells #[.int .i64 (i : Int)] 3 (0, 0)) := by
        rw [hW4]
        have := blk_new (wc.alloc (.cells #[.slice (some ⟨g2, o2, none⟩) fs.length c] 23)) (.cells #[.int .i64 (i : Int)] 3)
        simpa using this
      have hX4 : W4.heap[W.heap.size]? = some (.cells #[.pointer (some ⟨g, 0, none⟩)] 89 (0, 0)) := hM4.block HX4.out (HNO3.out _ (by omega) (by omega))
      have hN4 : W4.heap[W.heap.size + 1]? = some (.cells #[.int .i64 (out.length : Int)] 3 (0, 0)) := hM4.block HN4.out (HNO3.out _ (by omega) (by omega))
      have hbw4 : Below w.heap.size w W4 := HWC.out.trans hM4.below
      have hnw := hbw4.size
      clear hW4
      refine wpIn_rangeFunc_ownF rfl (by omega) (gf := 72) (lb := #[.pointer (some ⟨wc.heap.size, 0, none⟩), .pointer (some ⟨wc.heap.size + 1, 0, none⟩)]) rfl trivial (enters_of Try.func72 (by kernel_rfl) rfl)
        (kids_few 5 (by omega) wc.heap.size (wc.heap.size + 1) (some ⟨g2, o2, none⟩) c fs ks i hi w W4 HF.out (by omega) (HK.out i) k4 k5 hbw4) kpc_t (kpc_b (by omega) (by omega) (by omega)) (Below.refl _ _) (fun _ => rfl)
        (fun p V => ∃ fv' vs', IsTk w.heap.size g 91 (some ⟨g2, o2, none⟩) fs.length c V (tkSo fs.length fs ks i (out, ls) (p.map Subtype.val)).1 fv' vs' (tkSo fs.length fs ks i (out, ls) (p.map Subtype.val)).2 ∧ TkMv w.heap.size O3 W4 V (TkOwn g fv' vs' ((tkSo fs.length fs ks i (out, ls) (p.map Subtype.val)).1.length + 2)))
        (fun cc p V => False)
        (fun s X Y row hs hg hr => by
          obtain ⟨fv', vs', h1, h2⟩ := hs
          exact ⟨fv', vs', h1.kept hg (fun r e => (hr r e).2), h2.kept hg hr hbw4.size⟩)
        (fun cc s X Y row hs hg hr => hs)
        ?start ?act ?assign ?body ?done ?stop
      case assign =>
        intro l' x V K hK
        gi_wp2
        exact hK
      case start =>
        refine ⟨fv3, upd vs (out.length + 2) (.slice none 0 0), ?_, ?_⟩
        · unfold tkSo
          rw [List.map_nil, List.foldl_nil, HFD.out]
          exact hP4
        · unfold tkSo
          rw [List.map_nil, List.foldl_nil, HFD.out, HST.out, ← HO3.out]
          exact TkMv.refl _ _ _
      case stop => exact fun D cc p V _ _ h _ => h.elim
      case body =>
        rintro l' p x V ⟨fv', vs', hT, hM⟩ hlen2
        have hsp := tkSo_spec fs.length fs ks i (out, ls) (p.map Subtype.val)
        have hsn := tkSo_snoc fs.length fs ks i (out, ls) (p.map Subtype.val) x.1
        rw [show p.map Subtype.val ++ [x.1] = (p ++ [x]).map Subtype.val by simp] at hsn
        obtain ⟨st1, hst1⟩ : ∃ st1, st1 = tkSo fs.length fs ks i (out, ls) (p.map Subtype.val) := ⟨_, rfl⟩
        rw [← hst1] at hT hM hsp hsn
        have HSN := Lib.hid hsn
        clear hsn
        obtain ⟨k, hkm⟩ := x
        have hkk := kidsB_mem hkm
        have hkb := bel_kid hkm
        have hpm := pre_mul (p.map Subtype.val) (fun y hy => by obtain ⟨z, _, rfl⟩ := List.mem_map.1 hy; exact z.2)
        rw [List.length_map] at hpm
        have hall : (kidsAll fs.length i (ks i)).length ≤ 400 := by
          have h1 := congrArg List.length (kidsAll_val fs.length i (ks i))
          rw [List.length_map] at h1
          have h2 := pre_len fs.length ks (kidsB fs.length i (ks i))
          rw [← bel_pre] at h2
          omega
        have hmul : p.length * (bel fs.length ks i).length ≤ 400 * 400 := Nat.mul_le_mul (by omega) hbl
        have hsp1 : st1.1.length = out.length + 1 + (pre fs.length ks (p.map Subtype.val)).length := hsp.1
        have hsp2 : (st1.2 (out.length + 2)).length ≤ 400 := by have h := hsp.2; rw [List.length_map] at h; show List.length _ ≤ _; rw [h]; omega
        have hfit : st1.1.length + 160001 * (1 + (bel fs.length ks k).length) ≤ 100000000 := by omega
        have HC := Lib.hid (IH.out k V st1 fv' vs' hkk.1 hkk.2 hT (by omega) hfit (hbw4.trans hM.below))
        have hxV : V.heap[W.heap.size]? = some (.cells #[.pointer (some ⟨g, 0, none⟩)] 89 (0, 0)) := hM.block hX4 (HNO3.out _ (by omega) (by omega))
        have hnV : V.heap[W.heap.size + 1]? = some (.cells #[.int .i64 (out.length : Int)] 3 (0, 0)) := hM.block hN4 (HNO3.out _ (by omega) (by omega))
        have hVs := hM.below.size
        have hnoV : ∀ x, W.heap.size ≤ x → x < W.heap.size + 1 + 1 + 1 → ¬ TkOwn g fv' vs' (st1.1.length + 2) x := fun x h1 h2 => hM.not (by omega) (HNO3.out x h1 h2)
        have hnoK : ∀ x, wc.heap.size ≤ x → x < wc.heap.size + 2 → ¬ TkOwn g fv' vs' (st1.1.length + 2) x := fun x h1 h2 => hM.not (by omega) (fun e => by have := HLT3.out x e; omega)
        have y2 : V.cell? ⟨W.heap.size, 0, none⟩ = some (.pointer (some ⟨g, 0, none⟩)) := by rw [blk_cell hxV]; rfl
        have hb : out.length < st1.1.length := by omega
        have HT := Lib.hid hT
        have HM := Lib.hid hM
        have HXV := Lib.hid hxV
        have HNV := Lib.hid hnV
        have HNOV := Lib.hid hnoV
        have HNOK := Lib.hid hnoK
        have HST1 := Lib.hid hst1
        clear hT hM hxV hnV hnoV hnoK hst1 hsp hpm hall hmul hsp1 hlen2 hP3 hM3 hP4 hM4 k4 k5 hX4 hN4
        gi_wp2_with (gi_at_call 58; refine (CallsIn.inRound l' ((callsIn_wide (n := 3)).2 HC.out)).mono ?_; rintro e V2 ⟨rfl, fv2, vs2, hT2, hM2⟩)
        obtain ⟨st2, hst2⟩ : ∃ st2, st2 = tk fs.length fs ks k st1 := ⟨_, rfl⟩
        rw [← hst2] at hT2 hM2
        have hl2 : st2.1.length = st1.1.length + 1 + (bel fs.length ks k).length := by rw [hst2]; exact tk_len fs.length fs ks k st1
        have hb2 : out.length < st2.1.length := by omega
        have hr2 : Hid (st2.2 (out.length + 2) = st1.2 (out.length + 2)) := by show _ = _; rw [hst2]; exact tk_row fs.length fs ks k st1 _ (by omega)
        have hlr : (st2.2 (out.length + 2)).length ≤ 400 := by rw [hr2.out]; exact hsp2
        obtain ⟨F2, cap2, hfv2, _, _⟩ := hT2.row.form (by omega)
        subst hfv2
        obtain ⟨B1, c1, hv1⟩ := own_slice (hT2.kids.1 (out.length + 2) (by omega))
        have hO5 := hT2.kids.1 (out.length + 2) (by omega)
        obtain ⟨fb, hfb⟩ : ∃ fb, st2.1[out.length]? = some fb := ⟨_, List.getElem?_eq_getElem hb2⟩
        have hcl : V2.cell? ⟨F2, out.length * 5 + 3, none⟩ = some (vs2 (out.length + 2)) := by
          rw [hT2.row.cellAt (out.length * 5 + 3) (by omega), fcells_get st2.1 2 vs2 out.length 3 fb hfb (by decide), show 2 + out.length = out.length + 2 by omega]
          rfl
        rw [hv1] at hcl hO5
        have hx2 : V2.heap[W.heap.size]? = some (.cells #[.pointer (some ⟨g, 0, none⟩)] 89 (0, 0)) := hM2.block HXV.out (HNOV.out _ (by omega) (by omega))
        have hn2 : V2.heap[W.heap.size + 1]? = some (.cells #[.int .i64 (out.length : Int)] 3 (0, 0)) := hM2.block HNV.out (HNOV.out _ (by omega) (by omega))
        have hno2 : ¬ TkOwn g (.slice (some ⟨F2, 0, none⟩) st2.1.length cap2) vs2 (st2.1.length + 2) (W.heap.size + 1) := hM2.not (by omega) (HNOV.out _ (by omega) (by omega))
        have x1 : V2.cell? ⟨W.heap.size, 0, none⟩ = some (.pointer (some ⟨g, 0, none⟩)) := by rw [blk_cell hx2]; rfl
        have x2 : V2.cell? ⟨g, 1, none⟩ = some (.slice (some ⟨F2, 0, none⟩) st2.1.length cap2) := by rw [blk_cell hT2.obj]; rfl
        have x3 : V2.cell? ⟨W.heap.size + 1, 0, none⟩ = some (.int .i64 (out.length : Int)) := by rw [blk_cell hn2]; rfl
        have hO5d : V2.drew.ownsRow w.heap.size 3 1 (.slice B1 (st2.2 (out.length + 2)).length c1) (st2.2 (out.length + 2)).length (nums .i64 (st2.2 (out.length + 2))) := hO5
        have HO5 := Lib.hid hO5d
        have HT2 := Lib.hid hT2
        have HM2 := Lib.hid hM2
        have HV1 := Lib.hid hv1
        have HX2 := Lib.hid hx2
        have HN2 := Lib.hid hn2
        have HCL := Lib.hid hcl
        have HNO2 := Lib.hid hno2
        have HFB := Lib.hid hfb
        have hBd : Hid (Below w.heap.size w V2.drew) := below_drew (hbw4.trans (HM.out.below.trans HM2.out.below))
        have v1 : ((out.length : Nat) : Int) < (st2.1.length : Int) := by omega
        have v0 : (0 : Int) ≤ ((out.length : Nat) : Int) := by omega
        have hlong : ((st2.2 (out.length + 2)).length + 1) * 8 ≤ 140737488355328 := by omega
        have HST2 := Lib.hid hst2
        have hFne : W.heap.size ≠ F2 ∧ g ≠ F2 ∧ W.heap.size + 1 ≠ F2 := by
          refine ⟨fun e => ?_, fun e => ?_, fun e => ?_⟩
          · exact own_ne HT2.out.row HX2.out (by decide) (by rw [e]; rfl)
          · exact own_ne HT2.out.row HT2.out.obj (by decide) (by rw [e]; rfl)
          · exact own_ne HT2.out.row HN2.out (by decide) (by rw [e]; rfl)
        have HAL : Hid (((V2.drew.alloc (.cells #[.int .i64 (st1.1.length : Int)] 3)).cell? ⟨W.heap.size, 0, none⟩ = some (.pointer (some ⟨g, 0, none⟩)) ∧ (V2.drew.alloc (.cells #[.int .i64 (st1.1.length : Int)] 3)).cell? ⟨g, 1, none⟩ = some (.slice (some ⟨F2, 0, none⟩) st2.1.length cap2) ∧ (V2.drew.alloc (.cells #[.int .i64 (st1.1.length : Int)] 3)).cell? ⟨W.heap.size + 1, 0, none⟩ = some (.int .i64 (out.length : Int))) ∧ (V2.alloc (.cells #[.int .i64 (st1.1.length : Int)] 3)).cell? ⟨F2, out.length * 5 + 3, none⟩ = some (.slice B1 (st2.2 (out.length + 2)).length c1)) := by
          refine ⟨⟨?_, ?_, ?_⟩, ?_⟩
          · exact (World.cell?_alloc_some _ _ _ (by show (V2.cell? _).isSome = true; rw [x1]; rfl)).trans x1
          · exact (World.cell?_alloc_some _ _ _ (by show (V2.cell? _).isSome = true; rw [x2]; rfl)).trans x2
          · exact (World.cell?_alloc_some _ _ _ (by show (V2.cell? _).isSome = true; rw [x3]; rfl)).trans x3
          · exact (World.cell?_alloc_some _ _ _ (by rw [hcl]; rfl)).trans hcl
        have HAPP : Hid (∀ w3 : World, V2.drew.grownBy w3 (Value.slice B1 (st2.2 (out.length + 2)).length c1).ownBlock → (w3.cell? ⟨W.heap.size, 0, none⟩ = some (.pointer (some ⟨g, 0, none⟩)) ∧ w3.cell? ⟨g, 1, none⟩ = some (.slice (some ⟨F2, 0, none⟩) st2.1.length cap2) ∧ w3.cell? ⟨W.heap.size + 1, 0, none⟩ = some (.int .i64 (out.length : Int))) ∧
            (∀ u, (w3.setCell ⟨F2, out.length * 5 + 3, none⟩ u).cell? ⟨W.heap.size, 0, none⟩ = some (.pointer (some ⟨g, 0, none⟩)) ∧ (w3.setCell ⟨F2, out.length * 5 + 3, none⟩ u).cell? ⟨g, 1, none⟩ = some (.slice (some ⟨F2, 0, none⟩) st2.1.length cap2) ∧ (w3.setCell ⟨F2, out.length * 5 + 3, none⟩ u).cell? ⟨W.heap.size + 1, 0, none⟩ = some (.int .i64 (out.length : Int))) ∧
            w3.cell? ⟨F2, out.length * 5 + 3, none⟩ = some (vs2 (out.length + 2)) ∧ w3.frozen? ⟨F2, out.length * 5 + 3, none⟩ = false) := fun w3 hg3 => by
          have h1 : w3.heap[W.heap.size]? = _ := blk_grown (w := V2.drew) HX2.out hg3 (own_ne (w := V2.drew) HO5.out HX2.out (by decide))
          have h2 : w3.heap[g]? = _ := blk_grown (w := V2.drew) HT2.out.obj hg3 (own_ne (w := V2.drew) HO5.out HT2.out.obj (by decide))
          have h3 : w3.heap[W.heap.size + 1]? = _ := blk_grown (w := V2.drew) HN2.out hg3 (fun e => HNO2.out (.inr (.inr ⟨out.length + 2, by omega, by rw [HV1.out]; exact e⟩)))
          have hr3 := own_other HT2.out.drewN.row hg3 (own_type_ne HT2.out.drewN.row HO5.out (by decide))
          refine ⟨⟨by rw [blk_cell h1]; rfl, by rw [blk_cell h2]; rfl, by rw [blk_cell h3]; rfl⟩, fun u => ⟨by rw [blk_cell (blk_far h1 hFne.1 u)]; rfl, by rw [blk_cell (blk_far h2 hFne.2.1 u)]; rfl, by rw [blk_cell (blk_far h3 hFne.2.2 u)]; rfl⟩, ?_, hr3.frozenAt _⟩
          rw [hr3.cellAt (out.length * 5 + 3) (by omega), fcells_get st2.1 2 vs2 out.length 3 fb hfb (by decide), show 2 + out.length = out.length + 2 by omega]
          rfl
        have HFIN : Hid (∀ (w3 : World) (v3 : Value), w3.ownsRow w.heap.size 3 1 v3 ((st2.2 (out.length + 2)).length + 1) (nums .i64 (st2.2 (out.length + 2)) ++ [.int .i64 (st1.1.length : Int)]) → V2.drew.grownBy w3 (Value.slice B1 (st2.2 (out.length + 2)).length c1).ownBlock → (v3.ownBlock = (Value.slice B1 (st2.2 (out.length + 2)).length c1).ownBlock ∨ ∃ x, v3.ownBlock = some x ∧ V2.drew.heap.size ≤ x) →
            KeepsOthers V (w3.setCell ⟨F2, out.length * 5 + 3, none⟩ v3) ∧ KpC w.heap.size wc.heap.size (wc.heap.size + 1) V (w3.setCell ⟨F2, out.length * 5 + 3, none⟩ v3) ∧
            ∃ fv' vs', IsTk w.heap.size g 91 (some ⟨g2, o2, none⟩) fs.length c (w3.setCell ⟨F2, out.length * 5 + 3, none⟩ v3) (tkSo fs.length fs ks i (out, ls) ((p ++ [(⟨k, hkm⟩ : KidT fs.length i (ks i))]).map Subtype.val)).1 fv' vs' (tkSo fs.length fs ks i (out, ls) ((p ++ [(⟨k, hkm⟩ : KidT fs.length i (ks i))]).map Subtype.val)).2 ∧ TkMv w.heap.size O3 W4 (w3.setCell ⟨F2, out.length * 5 + 3, none⟩ v3) (TkOwn g fv' vs' ((tkSo fs.length fs ks i (out, ls) ((p ++ [(⟨k, hkm⟩ : KidT fs.length i (ks i))]).map Subtype.val)).1.length + 2))) := fun w3 v3 hown3 hg3 hat3 => by
          rw [HSN.out, ← hst2]
          have hg3' : V2.drew.grownBy w3 (vs2 (out.length + 2)).ownBlock := by rw [HV1.out]; exact hg3
          have hat3' : v3.ownBlock = (vs2 (out.length + 2)).ownBlock ∨ ∃ x, v3.ownBlock = some x ∧ V2.drew.heap.size ≤ x := by rw [HV1.out]; exact hat3
          have hmv := HM2.out.trans ((TkMv.drewl V2).trans (TkMv.pushKid HT2.out.drewN hb2 rfl hg3' hBd.out.size hat3'))
          exact ⟨TkMv.keeps HT.out hmv, ⟨hmv.below, hmv.same _ (by omega) (HNOK.out _ (by omega) (by omega)), hmv.same _ (by omega) (HNOK.out _ (by omega) (by omega))⟩, _, _, IsTk.pushKid HT2.out.drewN hb2 rfl hown3 hg3' hat3', HM.out.trans hmv⟩
        clear hT2 hM2 hst2 hO5 hO5d hv1 hfb hx2 hn2 hno2 hl2
        refine wpIn_region_any (by kernel_rfl) (any_round (by kernel_rfl) (by rintro ⟨_, _, h⟩; exact h) _ _ _ _ ?_)
        change wpAny _ _ _ _ _ _ _ V2.drew
        have hHeld : (fun w' : World => w'.cell? ⟨W.heap.size, 0, none⟩ = some (.pointer (some ⟨g, 0, none⟩)) ∧ w'.cell? ⟨g, 1, none⟩ = some (.slice (some ⟨F2, 0, none⟩) st2.1.length cap2) ∧ w'.cell? ⟨W.heap.size + 1, 0, none⟩ = some (.int .i64 (out.length : Int))) V2.drew := ⟨x1, x2, x3⟩
        refine wpAny_of_held (S := fun w' : World => w'.cell? ⟨W.heap.size, 0, none⟩ = some (.pointer (some ⟨g, 0, none⟩)) ∧ w'.cell? ⟨g, 1, none⟩ = some (.slice (some ⟨F2, 0, none⟩) st2.1.length cap2) ∧ w'.cell? ⟨W.heap.size + 1, 0, none⟩ = some (.int .i64 (out.length : Int))) _ _ _ _ ?_
        refine take_at (i := 0) (d := 42) (v := ?_) rfl rfl (by kernel_rfl) (by kernel_rfl) (by kernel_rfl) (fun _ _ _ h => h) (Or.inl ⟨by rfl, ?hy0⟩) (by assumption) ?rest0
        case hy0 => intro w' hSw; (try dsimp only at hSw); obtain ⟨s1, s2, s3⟩ := hSw; go_simp; try with_reducible rfl
        simp only [List.setIfInBounds_toArray, List.set_cons_zero, List.set_cons_succ]
        refine take_at (i := 1) (d := 43) (v := ?_) rfl rfl (by kernel_rfl) (by kernel_rfl) (by kernel_rfl) (fun _ _ _ h => h) (Or.inl ⟨by rfl, ?hy1⟩) (by assumption) ?rest1
        case hy1 => intro w' hSw; (try dsimp only at hSw); obtain ⟨s1, s2, s3⟩ := hSw; go_simp; try with_reducible rfl
        simp only [List.setIfInBounds_toArray, List.set_cons_zero, List.set_cons_succ]
        refine take_at (i := 2) (d := 44) (v := ?_) rfl rfl (by kernel_rfl) (by kernel_rfl) (by kernel_rfl) (fun _ _ _ h => h) (Or.inl ⟨by rfl, ?hy2⟩) (by assumption) ?rest2
        case hy2 => intro w' hSw; (try dsimp only at hSw); obtain ⟨s1, s2, s3⟩ := hSw; go_simp; try with_reducible rfl
        simp only [List.setIfInBounds_toArray, List.set_cons_zero, List.set_cons_succ]
        refine take_at (i := 3) (d := 45) (v := ?_) rfl rfl (by kernel_rfl) (by kernel_rfl) (by kernel_rfl) (fun _ _ _ h => h) (Or.inl ⟨by rfl, ?hy3⟩) (by assumption) ?rest3
        case hy3 => intro w' hSw; (try dsimp only at hSw); obtain ⟨s1, s2, s3⟩ := hSw; go_simp; try with_reducible rfl
        simp only [List.setIfInBounds_toArray, List.set_cons_zero, List.set_cons_succ]
        refine take_at (i := 4) (d := 46) (v := ?_) rfl rfl (by kernel_rfl) (by kernel_rfl) (by kernel_rfl) (fun _ _ _ h => h) (Or.inl ⟨by rfl, ?hy4⟩) (by assumption) ?rest4
        case hy4 => intro w' hSw; (try dsimp only at hSw); obtain ⟨s1, s2, s3⟩ := hSw; go_simp; try with_reducible rfl
        simp only [List.setIfInBounds_toArray, List.set_cons_zero, List.set_cons_succ]
        refine take_at (i := 5) (d := 47) (v := ?_) rfl rfl (by kernel_rfl) (by kernel_rfl) (by kernel_rfl) (fun _ _ _ h => h) (Or.inl ⟨by rfl, ?hy5⟩) (by assumption) ?rest5
        case hy5 => intro w' hSw; (try dsimp only at hSw); obtain ⟨s1, s2, s3⟩ := hSw; go_simp; try with_reducible rfl
        simp only [List.setIfInBounds_toArray, List.set_cons_zero, List.set_cons_succ]
        refine take_at (i := 6) (d := 48) (v := ?_) rfl rfl (by kernel_rfl) (by kernel_rfl) (by kernel_rfl) (fun _ _ _ h => h) (Or.inl ⟨by rfl, ?hy6⟩) (by assumption) ?rest6
        case hy6 => intro w' hSw; (try dsimp only at hSw); obtain ⟨s1, s2, s3⟩ := hSw; go_simp; try with_reducible rfl
        simp only [List.setIfInBounds_toArray, List.set_cons_zero, List.set_cons_succ]
        refine take_at (i := 7) (d := 49) (v := ?_) rfl rfl (by kernel_rfl) (by kernel_rfl) (by kernel_rfl) (fun _ _ _ h => h) (Or.inl ⟨by rfl, ?hy7⟩) (by assumption) ?rest7
        case hy7 => intro w' hSw; (try dsimp only at hSw); obtain ⟨s1, s2, s3⟩ := hSw; go_simp; try with_reducible rfl
        simp only [List.setIfInBounds_toArray, List.set_cons_zero, List.set_cons_succ]
        refine take_at (i := 8) (d := 50) (v := ?_) rfl rfl (by kernel_rfl) (by kernel_rfl) (by kernel_rfl) (fun _ _ _ h => h) (Or.inl ⟨by rfl, ?hy8⟩) (by assumption) ?rest8
        case hy8 => intro w' hSw; (try dsimp only at hSw); obtain ⟨s1, s2, s3⟩ := hSw; go_simp; try with_reducible rfl
        simp only [List.setIfInBounds_toArray, List.set_cons_zero, List.set_cons_succ]
        refine take_at (i := 9) (d := 51) (v := ?_) rfl rfl (by kernel_rfl) (by kernel_rfl) (by kernel_rfl) (fun _ _ _ h => h) (Or.inl ⟨by rfl, ?hy9⟩) (by assumption) ?rest9
        case hy9 => intro w' hSw; (try dsimp only at hSw); obtain ⟨s1, s2, s3⟩ := hSw; go_simp; try with_reducible rfl
        simp only [List.setIfInBounds_toArray, List.set_cons_zero, List.set_cons_succ]
        refine take_at (i := 10) (d := 52) (v := ?_) rfl rfl (by kernel_rfl) (by kernel_rfl) (by kernel_rfl) (fun _ _ _ h => h) (Or.inl ⟨by rfl, ?hy10⟩) (by assumption) ?rest10
        case hy10 => intro w' hSw; (try dsimp only at hSw); obtain ⟨s1, s2, s3⟩ := hSw; go_simp; try with_reducible rfl
        simp only [List.setIfInBounds_toArray, List.set_cons_zero, List.set_cons_succ]
        refine take_at (i := 11) (d := 53) (v := ?_) rfl rfl (by kernel_rfl) (by kernel_rfl) (by kernel_rfl) (fun _ _ _ h => h) (Or.inl ⟨by rfl, ?hy11⟩) (by assumption) ?rest11
        case hy11 => intro w' hSw; (try dsimp only at hSw); obtain ⟨s1, s2, s3⟩ := hSw; go_simp; try with_reducible rfl
        simp only [List.setIfInBounds_toArray, List.set_cons_zero, List.set_cons_succ]
        refine take_at (i := 13) (d := 55) (v := ?_) rfl rfl (by kernel_rfl) (by kernel_rfl) (by kernel_rfl) (fun _ _ _ h => h) (Or.inl ⟨by rfl, ?hy13⟩) (by assumption) ?rest13
        case hy13 => intro w' hSw; (try dsimp only at hSw); obtain ⟨s1, s2, s3⟩ := hSw; go_simp; try with_reducible rfl
        simp only [List.setIfInBounds_toArray, List.set_cons_zero, List.set_cons_succ]
        refine wpAnyH_ready (rs := [12, 14]) (by kernel_rfl) (by simp) ?_
        refine AllReadyH.cons rfl (fun K hK => ?_) (AllReadyH.cons rfl (fun K hK => ?_) AllReadyH.nil)
        · go_simp
          refine hK.out _ _ hHeld (fun hHeld => ?_)
          clear hK K
          try simp only [Act.put, List.setIfInBounds_toArray, List.set_cons_zero, List.set_cons_succ]
          refine wpAnyH_ready (rs := [14]) (by kernel_rfl) (by simp) ?_
          refine AllReadyH.cons rfl (fun K hK => ?_) AllReadyH.nil
          go_simp
          refine hK.out _ _ HAL.out.1 (fun hHeld => ?_)
          clear hK K
          try simp only [Act.put, List.setIfInBounds_toArray, List.set_cons_zero, List.set_cons_succ]
          refine wpAnyH_ready (rs := [15]) (by kernel_rfl) (by simp) ?_
          refine AllReadyH.cons rfl (fun K hK => ?_) AllReadyH.nil
          refine step_append_cells (W := V2.drew) (w0 := w) w.heap.size rfl (.tmp 54) (.tmp 56) 24 3 (.int .i64 0) 1 8 rfl Try.underlying24 info3 rfl (by decide) (by decide) (.slice B1 (st2.2 (out.length + 2)).length c1) (st2.2 (out.length + 2)).length (nums .i64 (st2.2 (out.length + 2))) [.int .i64 (st1.1.length : Int)] rfl rfl rfl (by intro u hu; simp at hu; subst hu; rfl) HO5.out hBd.out hBd.out.size hlong ?_
          intro v3 w3 hown3 hb3 hg3 hat3
          obtain ⟨g3, cap3, rfl, _, _⟩ := hown3.form (Nat.succ_pos _)
          have hA := HAPP.out w3 hg3
          have hF3 := Lib.hid (HFIN.out w3 _ hown3 hg3 hat3)
          obtain ⟨hA1, hA2, hA3, hA4⟩ := hA
          have HA2 := Lib.hid hA2
          clear hA2 hown3 hb3 hg3 hat3
          refine hK.out _ _ hA1 (fun hHeld => ?_)
          clear hK K
          change wpAnyH _ _ _ _ _ _ _ (Act.put _ (some 57) _) _
          simp only [Act.put, List.setIfInBounds_toArray, List.set_cons_zero, List.set_cons_succ]
          refine take_at (i := 16) (d := 58) (v := ?_) rfl rfl (by kernel_rfl) (by kernel_rfl) (by kernel_rfl) (fun _ _ _ h => h) (Or.inl ⟨by rfl, ?hy16a⟩) (by assumption) ?rest16a
          case hy16a => intro w' hSw; (try dsimp only at hSw); go_simp; try with_reducible rfl
          simp only [List.setIfInBounds_toArray, List.set_cons_zero, List.set_cons_succ]
          refine take_at (i := 17) (d := 59) (v := ?_) rfl rfl (by kernel_rfl) (by kernel_rfl) (by kernel_rfl) (fun _ _ _ h => h) (Or.inl ⟨by rfl, ?hy17a⟩) (by assumption) ?rest17a
          case hy17a => intro w' hSw; (try dsimp only at hSw); go_simp; try with_reducible rfl
          simp only [List.setIfInBounds_toArray, List.set_cons_zero, List.set_cons_succ]
          refine wpAnyH_ready (rs := [18]) (by kernel_rfl) (by simp) ?_
          refine AllReadyH.cons rfl (fun K hK => ?_) AllReadyH.nil
          go_simp
          refine hK.out _ _ (HA2.out _) (fun hHeld => ?_)
          clear hK K
          refine wpAnyH_done (by kernel_rfl) ?_ _
          exact hF3.out
        · go_simp
          refine hK.out _ _ HAL.out.1 (fun hHeld => ?_)
          clear hK K
          try simp only [Act.put, List.setIfInBounds_toArray, List.set_cons_zero, List.set_cons_succ]
          have hal := HAL.out.2
          refine wpAnyH_ready (rs := [12]) (by kernel_rfl) (by simp) ?_
          refine AllReadyH.cons rfl (fun K hK => ?_) AllReadyH.nil
          go_simp
          refine hK.out _ _ HAL.out.1 (fun hHeld => ?_)
          clear hK K
          try simp only [Act.put, List.setIfInBounds_toArray, List.set_cons_zero, List.set_cons_succ]
          refine wpAnyH_ready (rs := [15]) (by kernel_rfl) (by simp) ?_
          refine AllReadyH.cons rfl (fun K hK => ?_) AllReadyH.nil
          refine step_append_cells (W := V2.drew) (w0 := w) w.heap.size rfl (.tmp 54) (.tmp 56) 24 3 (.int .i64 0) 1 8 rfl Try.underlying24 info3 rfl (by decide) (by decide) (.slice B1 (st2.2 (out.length + 2)).length c1) (st2.2 (out.length + 2)).length (nums .i64 (st2.2 (out.length + 2))) [.int .i64 (st1.1.length : Int)] rfl rfl rfl (by intro u hu; simp at hu; subst hu; rfl) HO5.out hBd.out hBd.out.size hlong ?_
          intro v3 w3 hown3 hb3 hg3 hat3
          obtain ⟨g3, cap3, rfl, _, _⟩ := hown3.form (Nat.succ_pos _)
          have hA := HAPP.out w3 hg3
          have hF3 := Lib.hid (HFIN.out w3 _ hown3 hg3 hat3)
          obtain ⟨hA1, hA2, hA3, hA4⟩ := hA
          have HA2 := Lib.hid hA2
          clear hA2 hown3 hb3 hg3 hat3
          refine hK.out _ _ hA1 (fun hHeld => ?_)
          clear hK K
          change wpAnyH _ _ _ _ _ _ _ (Act.put _ (some 57) _) _
          simp only [Act.put, List.setIfInBounds_toArray, List.set_cons_zero, List.set_cons_succ]
          refine take_at (i := 16) (d := 58) (v := ?_) rfl rfl (by kernel_rfl) (by kernel_rfl) (by kernel_rfl) (fun _ _ _ h => h) (Or.inl ⟨by rfl, ?hy16b⟩) (by assumption) ?rest16b
          case hy16b => intro w' hSw; (try dsimp only at hSw); go_simp; try with_reducible rfl
          simp only [List.setIfInBounds_toArray, List.set_cons_zero, List.set_cons_succ]
          refine take_at (i := 17) (d := 59) (v := ?_) rfl rfl (by kernel_rfl) (by kernel_rfl) (by kernel_rfl) (fun _ _ _ h => h) (Or.inl ⟨by rfl, ?hy17b⟩) (by assumption) ?rest17b
          case hy17b => intro w' hSw; (try dsimp only at hSw); go_simp; try with_reducible rfl
          simp only [List.setIfInBounds_toArray, List.set_cons_zero, List.set_cons_succ]
          refine wpAnyH_ready (rs := [18]) (by kernel_rfl) (by simp) ?_
          refine AllReadyH.cons rfl (fun K hK => ?_) AllReadyH.nil
          go_simp
          refine hK.out _ _ (HA2.out _) (fun hHeld => ?_)
          clear hK K
          refine wpAnyH_done (by kernel_rfl) ?_ _
          exact hF3.out
      case done =>
        rintro D ys V hDD rfl ⟨fv', vs', hT, hM⟩ hK
        rw [kidsAll_val, tkSo_all] at hT hM
        have hm3 := hM3.out
        rw [← HO3.out] at hm3
        have hmv := HM3.out.trans (hm3.trans (hM4.trans hM))
        have hnV : V.heap[W.heap.size + 1]? = some (.cells #[.int .i64 (out.length : Int)] 3 (0, 0)) := hM.block hN4 (HNO3.out _ (by omega) (by omega))
        have y5 : V.cell? ⟨W.heap.size + 1, 0, none⟩ = some (.int .i64 (out.length : Int)) := by rw [blk_cell hnV]; rfl
        have HT := Lib.hid hT
        have HMV := Lib.hid hmv
        have HNV := Lib.hid hnV
        clear hT hM hmv hm3 hnV hP3 hM3 hP4 hM4 k4 k5 hX4 hN4
        gi_wp2
        refine ⟨by simp, .inl ⟨_, _, rfl, run_takeDeferred hK, ?_⟩⟩
        refine ⟨.int .i64 (out.length : Int), by simp [results, Try.results58, go_sem], rfl, fv', vs', ?_, ?_⟩
        · exact HT.out.kept (grownBy_putObj' _ D _) (fun r e => by cases e; exact ⟨_, hK, rfl⟩)
        · exact HMV.out.kept (grownBy_putObj' _ D _) (fun r e => by cases e; exact ⟨by omega, _, hK, rfl⟩) HW.out.size
end Go.Proofs.Ytiojfdgagdofiaa.HP
/-
tree.Alone over the translation.
-/
set_option linter.unusedVariables false
set_option linter.unusedSimpArgs false
namespace Go.Proofs.Ytiojfdgagdofiaa.HP
open Go.RowKit Go.Proofs.Ytiojfdgagdofiaa.HB Go.Proofs.Ytiojfdgagdofiaa.HK Go.Proofs.YtiojfdgagdofiaaW.PrintWords Go.Proofs.YtiojfdgagdofiaaW.PrintLast Go.Proofs.YtiojfdgagdofiaaW.PrintMore
/-- A form, with all below it, alone; or why not. -/
def cutP (fs : List FormP) (ks : Nat → List Int) (i : Int) : Except Int TkSt :=
  if 0 ≤ i ∧ i < (fs.length : Int) then (if (bel fs.length ks i.toNat).length < 400 then .ok (tk fs.length fs ks i.toNat ([], fun _ => [])) else .error 4) else .error 2
/-- How the call ends. -/
def CutEnds (w : World) (r : Except Int TkSt) (e : Ending) (w' : World) : Prop :=
  match r with
  | .ok st => ∃ A c B d, e = .returned (.tuple #[.slice A st.1.length c, .slice B 1 d, .int .i64 0]) ∧ FRow w' A st.1 (ksOf st.2) ∧ IRow w' B [0] ∧ Below w.heap.size w w'
  | .error why => e = .returned (.tuple #[.slice none 0 0, .slice none 0 0, .int .i64 why]) ∧ Below w.heap.size w w'
theorem IsTk.start (w : World) (A : Option Addr) (N c t : Nat) (ht : t ≠ 40 ∧ t ≠ 3) : IsTk w.heap.size w.heap.size t A N c (w.alloc (.cells #[.slice A N c, .slice none 0 0] t)) [] (.slice none 0 0) (fun _ => .slice none 0 0) (fun _ => []) :=
  ⟨blk_new w _, own_nil _ _ _ _, ⟨fun i _ => own_nil _ _ _ _, fun i j _ _ _ => .inl rfl⟩, Nat.le_refl _, ht⟩
theorem irow_new (w : World) (x : Int) : IRow (w.alloc (.cells #[.int .i64 x] 3)) (some ⟨w.heap.size, 0, none⟩) [x] := by
  intro j hj
  have hj0 : j = 0 := by simpa using hj
  subst hj0
  exact ⟨w.heap.size, 0, rfl, by rw [World.size_alloc]; omega, by rw [blk_cell (blk_new w (.cells #[.int .i64 x] 3))]; rfl⟩
set_option maxHeartbeats 8000000 in
set_option maxRecDepth 100000 in
theorem cut_calls (w : World) (A : Option Addr) (c : Nat) (fs : List FormP) (ks : Nat → List Int) (hF : FRow w A fs ks) (hN : fs.length ≤ 1000000) (hk : ∀ j, (ks j).length ≤ 140737488351232) (i : Int) :
    Calls Try.prog 36 #[.slice A fs.length c, .int .i64 i] w fun e w' => CutEnds w (cutP fs ks i) e w' := by
  by_cases hi : 0 ≤ i ∧ i < (fs.length : Int)
  · obtain ⟨n, rfl⟩ : ∃ n : Nat, i = (n : Int) := ⟨i.toNat, by omega⟩
    have q1 : decide ((n : Int) < 0) = false := decide_eq_false (by omega)
    have q2 : decide ((fs.length : Int) ≤ (n : Int)) = false := decide_eq_false (by omega)
    have q2' : decide ((n : Int) ≥ (fs.length : Int)) = false := decide_eq_false (by omega)
    have hnN : n < fs.length := by omega
    have hS : Hid (sizeP fs.length ks (n : Int) = 1 + min (bel fs.length ks n).length 400) := by
      show _ = _
      unfold sizeP
      rw [if_pos hi, Int.toNat_natCast]
    have hsc := size_calls w A c fs ks hF (by omega) hk (n : Int)
    obtain ⟨z, hz⟩ : ∃ z, z = sizeP fs.length ks (n : Int) := ⟨_, rfl⟩
    rw [← hz] at hsc hS
    have HSC := Lib.hid hsc
    have HF := Lib.hid hF
    have HK := Lib.hid hk
    clear hsc hF hk hz hi
    by_cases h4 : (bel fs.length ks n).length < 400
    · have hp : cutP fs ks (n : Int) = .ok (tk fs.length fs ks n ([], fun _ => [])) := by
        unfold cutP
        rw [if_pos ⟨by omega, by omega⟩, Int.toNat_natCast, if_pos h4]
      rw [hp]
      have qz : decide ((400 : Int) < (z : Int)) = false := decide_eq_false (by have := hS.out; omega)
      have qz' : decide ((z : Int) > (400 : Int)) = false := decide_eq_false (by have := hS.out; omega)
      clear hp
      go_enter Try.func36, Try.ntmps36
      go_wp2_with (fail)
      refine HSC.out.mono ?_
      rintro e w1 ⟨rfl, hb1⟩
      have HB1 := Lib.hid hb1
      have htc := taker_calls w1 A c w1.heap.size fs ks (HF.out.below hb1) hN HK.out _ n (w1.alloc (.cells #[.slice A fs.length c, .slice none 0 0] 91)) ([], fun _ => []) (.slice none 0 0) (fun _ => .slice none 0 0) rfl hnN (IsTk.start w1 A fs.length c 91 (by decide)) (by omega) (by show 0 + _ ≤ _; omega) ((Below.refl _ w1).alloc (Nat.le_refl _) _)
      have HTC := Lib.hid htc
      clear hb1 htc
      go_wp2_with (fail)
      refine HTC.out.mono ?_
      rintro e w2 ⟨rfl, fv, vs, hT, hM⟩
      have y1 : w2.cell? ⟨w1.heap.size, 1, none⟩ = some fv := by rw [blk_cell hT.obj]; rfl
      obtain ⟨A2, c2, rfl, _, hF2⟩ := own_frow hT.row hT.kids
      have HT := Lib.hid hT
      have HF2 := Lib.hid hF2
      have HB2 : Hid (Below w.heap.size w w2) := below_then HB1.out HB1.out.size (((Below.refl _ w1).alloc (Nat.le_refl _) (.cells #[.slice A fs.length c, .slice none 0 0] 91)).trans hM.below)
      clear hT hF2 hM
      go_wp2
      refine bodyPost_ret (v := .tuple #[.slice A2 (tk fs.length fs ks n ([], fun _ => [])).1.length c2, .slice (some ⟨w2.heap.size, 0, none⟩) 1 1, .int .i64 0]) (by simp [results, Try.results36, go_sem]) rfl ⟨A2, c2, _, _, rfl, HF2.out.below ((Below.refl _ w2).alloc (Nat.le_refl _) _), irow_new w2 0, HB2.out.alloc HB2.out.size _⟩
    · have hp : cutP fs ks (n : Int) = .error 4 := by
        unfold cutP
        rw [if_pos ⟨by omega, by omega⟩, Int.toNat_natCast, if_neg h4]
      rw [hp]
      have qz : decide ((400 : Int) < (z : Int)) = true := decide_eq_true (by have := hS.out; omega)
      have qz' : decide ((z : Int) > (400 : Int)) = true := decide_eq_true (by have := hS.out; omega)
      clear hp
      go_enter Try.func36, Try.ntmps36
      go_wp2_with (fail)
      refine HSC.out.mono ?_
      rintro e w1 ⟨rfl, hb1⟩
      have HB1 := Lib.hid hb1
      clear hb1
      go_wp2
      exact bodyPost_ret (v := .tuple #[.slice none 0 0, .slice none 0 0, .int .i64 4]) (by simp [results, Try.results36, go_sem]) rfl ⟨rfl, HB1.out⟩
  · have hp : cutP fs ks i = .error 2 := if_neg hi
    rw [hp]
    clear hF hk hp
    by_cases h : i < 0
    · have q1 : decide (i < 0) = true := decide_eq_true h
      clear hi h
      go_enter Try.func36, Try.ntmps36
      go_wp2
      exact bodyPost_ret (v := .tuple #[.slice none 0 0, .slice none 0 0, .int .i64 2]) (by simp [results, Try.results36, go_sem]) rfl ⟨rfl, Below.refl _ _⟩
    · have q1 : decide (i < 0) = false := decide_eq_false h
      have q2 : decide ((fs.length : Int) ≤ i) = true := decide_eq_true (by omega)
      have q2' : decide (i ≥ (fs.length : Int)) = true := decide_eq_true (by omega)
      clear hi h
      go_enter Try.func36, Try.ntmps36
      go_wp2
      exact bodyPost_ret (v := .tuple #[.slice none 0 0, .slice none 0 0, .int .i64 2]) (by simp [results, Try.results36, go_sem]) rfl ⟨rfl, Below.refl _ _⟩
end Go.Proofs.Ytiojfdgagdofiaa.HP
/-
The document's Below (how many) and Size over the translation.
-/
set_option linter.unusedVariables false
set_option linter.unusedSimpArgs false
namespace Go.Proofs.Ytiojfdgagdofiaa.HP
open Go.RowKit Go.Proofs.Ytiojfdgagdofiaa.HB Go.Proofs.Ytiojfdgagdofiaa.HK Go.Proofs.YtiojfdgagdofiaaW.PrintWords Go.Proofs.YtiojfdgagdofiaaW.PrintLast Go.Proofs.YtiojfdgagdofiaaW.PrintMore
/-- Places that are still to do: read, and apart from the row that grows. -/
def TodoAt (W : World) (T : Option Addr) (l : List Nat) (vo : Value) : Prop := IRow W T (ints l) ∧ ∀ g, (∃ o, T = some ⟨g, o, none⟩) → some g ≠ vo.ownBlock
def BwRel (w : World) (N : Nat) (ks : Nat → List Int) (R : List Nat) (wr : World) (vo : Value) (out : List Nat) (T : Option Addr) (todo : List Nat) : Prop :=
  wr.ownsRow w.heap.size 3 1 vo (ints out).length (nums .i64 (ints out)) ∧ TodoAt wr T todo vo ∧ (∀ x ∈ todo, x < N) ∧ (out ++ pre N ks todo).take 401 = R ∧ out.length ≤ 401 ∧ todo.length ≤ 400 * out.length + 1 ∧ Below w.heap.size w wr
theorem TodoAt.grown {W W1 : World} {T : Option Addr} {l : List Nat} {vo : Value} (h : TodoAt W T l vo) (hg : W.grownBy W1 vo.ownBlock) (hs : W.heap.size ≤ W1.heap.size) : IRow W1 T (ints l) := by
  intro j hj
  obtain ⟨g, o, e, hlt, hc⟩ := h.1 j hj
  exact ⟨g, o, e, by omega, cell_grown hg hc (h.2 g (by rw [e]; exact ⟨o, rfl⟩))⟩
theorem irow_reads {w : World} {A : Option Addr} {l : List Int} (h : IRow w A l) (hl : l.length ≤ 9223372036854775807) : ReadsInt w .i64 A l.length l := by
  refine ⟨rfl, hl, fun h0 => ?_⟩
  obtain ⟨g, o, e, _, _⟩ := h 0 h0
  refine ⟨⟨g, o, none⟩, e, fun j hj => ?_⟩
  obtain ⟨g', o', e', _, hc⟩ := h j hj
  rw [e] at e'
  injection e' with e'
  injection e' with e1 e2
  subst e1 e2
  rw [show (⟨g, o, none⟩ : Addr).add j = ⟨g, o + j, none⟩ by unfold Addr.add; split <;> simp_all]
  exact hc
def lenV : Value → Nat
  | .slice _ n _ => n
  | _ => 0
set_option maxHeartbeats 8000000 in
set_option maxRecDepth 100000 in
theorem refBelow_calls (w : World) (A : Option Addr) (c : Nat) (fs : List FormP) (ks : Nat → List Int) (hF : FRow w A fs ks) (hN : fs.length ≤ 1000000) (hk : ∀ j, (ks j).length ≤ 17592186043904) (i : Nat) (hi : i < fs.length) :
    Calls Try.prog 79 #[.slice A fs.length c, .int .i64 (i : Int)] w fun e w' => (∃ B d, e = .returned (.slice B (min (bel fs.length ks i).length 400) d)) ∧ Below w.heap.size w w' := by
  have q1 : decide ((i : Int) < 0) = false := decide_eq_false (by omega)
  have q2 : decide ((fs.length : Int) ≤ (i : Int)) = false := decide_eq_false (by omega)
  have q2' : decide ((i : Int) ≥ (fs.length : Int)) = false := decide_eq_false (by omega)
  have q3 : decide (fs.length ≤ i) = false := decide_eq_false (by omega)
  obtain ⟨R, hR⟩ : ∃ R, R = (i :: bel fs.length ks i).take 401 := ⟨_, rfl⟩
  have hRl : R.length = min (bel fs.length ks i).length 400 + 1 := by rw [hR, List.length_take, List.length_cons]; omega
  have HF := Lib.hid hF
  have HK := Lib.hid hk
  have hst : BwRel w fs.length ks R (w.alloc (.cells #[.int .i64 (i : Int)] 3)) (.slice none 0 0) [] (some ⟨w.heap.size, 0, none⟩) [i] := by
    refine ⟨own_nil _ _ _ _, ⟨irow_new w _, fun _ _ h => by cases h⟩, ?_, ?_, by simp, by simp, (Below.refl _ w).alloc (Nat.le_refl _) _⟩
    · intro x hx; simp at hx; omega
    · rw [hR, List.nil_append, pre_cons]; simp [HP.pre]
  have HST := Lib.hid hst
  have HRL := Lib.hid hRl
  clear hF hk hst hR hRl
  go_enter Try.func79, Try.ntmps79
  go_wp2_with (fail)
  go_loopw [5, 6] (fun vo vt wr => ∃ (out todo : List Nat) (T : Option Addr) (d : Nat), vt = .slice T todo.length d ∧ todo.length ≤ d ∧ Hid (BwRel w fs.length ks R wr vo out T todo)) (fun vo _ _ => 401 - lenV vo)
  case atStart => exact ⟨[], [i], _, _, rfl, Nat.le_refl _, HST.out⟩
  case round =>
    obtain ⟨out, todo, T, d, rfl, hd, hR⟩ := hrel
    obtain ⟨hO, hT, hTN, hpre, hol, htl, hW⟩ := hR.out
    obtain ⟨Ao, co, rfl⟩ := own_slice hO
    rw [ints_length] at hO ⊢
    have hO' : wr.ownsRow w.heap.size 3 1 (.slice Ao out.length co) (ints out).length (nums .i64 (ints out)) := by rw [ints_length]; exact hO
    rw [ints_length] at hT
    have HO := Lib.hid hO'
    have HT := Lib.hid hT
    have HTN := Lib.hid hTN
    have HPRE := Lib.hid hpre
    have HW := Lib.hid hW
    clear hO hO' hT hTN hpre hW hR
    by_cases hgo : todo ≠ [] ∧ out.length ≤ 400
    · obtain ⟨ht, ho4⟩ := hgo
      obtain ⟨n, rest, rfl⟩ := List.exists_cons_of_ne_nil ht
      clear ht
      have hnN := HTN.out n List.mem_cons_self
      obtain ⟨gT, oT, hTe, hgT, hc0⟩ := HT.out.1 0 (by rw [ints_length]; simp)
      subst hTe
      have hc0' : wr.cell? ⟨gT, oT, none⟩ = some (.int .i64 (n : Int)) := hc0
      obtain ⟨m, hm⟩ : ∃ m, m = rest.length := ⟨_, rfl⟩
      rw [List.length_cons] at htl hd ⊢
      rw [← hm] at htl hd ⊢
      have a1 : decide ((0 : Int) < ((m + 1 : Nat) : Int)) = true := decide_eq_true (by omega)
      have a1' : decide (((m + 1 : Nat) : Int) > (0 : Int)) = true := decide_eq_true (by omega)
      have a2 : decide ((out.length : Int) ≤ 400) = true := decide_eq_true (by omega)
      have hm1 : (1 : Int) ≤ ((m + 1 : Nat) : Int) := by omega
      have hm0 : (0 : Int) < ((m + 1 : Nat) : Int) := by omega
      have HM := Lib.hid hm
      obtain ⟨T2, hT2, hsl⟩ : ∃ T2, (T2 = some ⟨gT, oT + 1, none⟩ ∨ (T2 = some ⟨gT, oT, none⟩ ∧ m = 0)) ∧ ∀ W, (Instr.slice 24 (.slice (some ⟨gT, oT, none⟩) (m + 1) d) (some (.int .i64 1)) none none).run Try.prog W = .ok (.slice T2 m (d - 1)) W := by
        by_cases hd1 : d - 1 = 0
        · refine ⟨some ⟨gT, oT, none⟩, .inr ⟨rfl, by omega⟩, fun W => ?_⟩
          rw [run_slice_l (P := Try.prog) W 24 (some ⟨gT, oT, none⟩) (m + 1) d Try.underlying24 .i64 1 (by omega) (by omega)]
          rw [show (sizeOf (Try.prog.elem 24)).run Try.prog W = .ok 1 W by simp [go_sem]]
          simp [go_sem, sliced, Result.andThen, Addr.add, hd1]
          omega
        · refine ⟨some ⟨gT, oT + 1, none⟩, .inl rfl, fun W => ?_⟩
          rw [run_slice_l (P := Try.prog) W 24 (some ⟨gT, oT, none⟩) (m + 1) d Try.underlying24 .i64 1 (by omega) (by omega)]
          rw [show (sizeOf (Try.prog.elem 24)).run Try.prog W = .ok 1 W by simp [go_sem]]
          simp [go_sem, sliced, Result.andThen, Addr.add, hd1]
          omega
      have HT2 := Lib.hid hT2
      clear hm hc0 hT2
      have hlong : (out.length + 1) * 8 ≤ 140737488355328 := by omega
      have hlongq : ((ints out).length + 1) * 8 ≤ 140737488355328 := by rw [ints_length]; exact hlong
      go_wp2_with (at_builtin; refine print_append_num (w0 := w) w.heap.size rfl (.tmp 34) (.tmp 36) 24 3 .i64 8 rfl Try.underlying24 info3 (Nat.succ_pos 7) (.slice Ao out.length co) (ints out) (n : Int) rfl rfl HO.out HW.out HW.out.size hlongq ?_)
      intro v1 w1 hown1 hb1 hg1 hat1
      replace hown1 : w1.ownsRow w.heap.size 3 1 v1 (ints (out ++ [n])).length (nums .i64 (ints (out ++ [n]))) := by
        rw [show ints (out ++ [n]) = ints out ++ [(n : Int)] by rw [ints_append]; rfl, List.length_append]
        exact hown1
      have hb11 : Below wr.heap.size wr (wr.alloc (.cells #[.int .i64 (n : Int)] 3)) := (Below.refl _ wr).alloc (Nat.le_refl _) _
      have hs1 : wr.heap.size ≤ w1.heap.size := hg1.size
      have hT1 := HT.out.grown hg1 hs1
      have hapart : some gT ≠ v1.ownBlock := by
        intro e
        rcases hat1 with h | ⟨b, h, hb⟩
        · exact HT.out.2 gT ⟨oT, rfl⟩ (e.trans h)
        · rw [h] at e; injection e with e; omega
      have hrest : IRow w1 T2 (ints rest) := by
        rcases HT2.out with rfl | ⟨_, h0⟩
        · intro j hj
          obtain ⟨g', o', e, hlt, hc⟩ := hT1 (j + 1) (by rw [ints_length] at hj ⊢; simp; omega)
          injection e with e
          injection e with e1 e2
          subst e1 e2
          refine ⟨gT, oT + 1, rfl, hlt, ?_⟩
          rw [show oT + 1 + j = oT + (j + 1) by omega, hc]
          rfl
        · have : rest = [] := List.eq_nil_of_length_eq_zero (by rw [← HM.out]; exact h0)
          rw [this]
          exact IRow.nil _ _
      have happ : ∀ g, (∃ o, T2 = some ⟨g, o, none⟩) → g = gT := by
        rintro g ⟨o, e⟩
        rcases HT2.out with h | ⟨h, _⟩
        all_goals (rw [h] at e; injection e with e; injection e with e1 _; exact e1.symm)
      obtain ⟨K, hK⟩ : ∃ K, K = kidsB fs.length n (ks n) := ⟨_, rfl⟩
      have hKN : ∀ x ∈ K, x < fs.length := fun x hx => (kidsB_mem (by rw [← hK]; exact hx)).2
      have HNEXT : Hid (∀ (w3 : World) (v3 : Value), w3.ownsRow w1.heap.size 3 1 v3 (ints (K.take 400) ++ ints rest).length (nums .i64 (ints (K.take 400) ++ ints rest)) → Below w1.heap.size w1 w3 → ∃ A3 c3, v3 = .slice A3 (K.take 400 ++ rest).length c3 ∧ (K.take 400 ++ rest).length ≤ c3 ∧ Hid (BwRel w fs.length ks R w3 v1 (out ++ [n]) A3 (K.take 400 ++ rest))) := by
        intro w3 v3 ho hb
        rw [← ints_append] at ho
        obtain ⟨A3, c3, hv, hle, hI⟩ := own_irow ho
        rw [ints_length] at hv hle
        refine ⟨A3, c3, hv, hle, ?_, ⟨hI, ?_⟩, ?_, ?_, ?_, ?_, ?_⟩
        · exact own_move hown1 (fun k hk => hb.block k (own_lt hown1 k hk))
        · rintro g ⟨o, e⟩ h2
          have h3 := own_base ho g (by rw [hv, e]; rfl)
          have h4 := own_lt hown1 g h2.symm
          omega
        · intro x hx
          rcases List.mem_append.1 hx with h | h
          · exact hKN x (List.mem_of_mem_take h)
          · exact HTN.out x (List.mem_cons_of_mem _ h)
        · rw [hK]
          exact below_round _ _ _ _ _ _ HPRE.out
        · rw [List.length_append, List.length_singleton]; omega
        · rw [List.length_append, List.length_take, List.length_append, List.length_singleton, ← HM.out]; omega
        · exact hb1.trans (hb.mono hb1.size)
      have HREST := Lib.hid hrest
      have HAPP := Lib.hid happ
      have HK2 := Lib.hid hK
      have HB1 := Lib.hid hb1
      have hl1 : v1 = v1 := rfl
      obtain ⟨A1, c1, hv1⟩ := own_slice hown1
      have hlen1 : (ints (out ++ [n])).length = out.length + 1 := by rw [ints_length, List.length_append]; rfl
      rw [hlen1] at hv1
      clear hown1 hg1 hat1 hT1 hapart hrest happ hK hKN hl1 hlen1 hb11 hc0' a1 a1' a2 hm1 hm0 hsl
      subst hv1
      have hnn : n < fs.length := hnN
      obtain ⟨Fn, hFn⟩ : ∃ Fn, fs[n]? = some Fn := ⟨_, List.getElem?_eq_getElem hnN⟩
      have hkn := HK.out n
      go_wp2_with (fail)
      go_loopw [8, 9] (fun vk x wq => ∃ j : Nat, x = .int .i64 (j : Int) ∧ j ≤ (ks n).length ∧ Hid (wq.ownsRow w1.heap.size 3 1 vk (ints (kidsB fs.length n ((ks n).take j))).length (nums .i64 (ints (kidsB fs.length n ((ks n).take j)))) ∧ Below w1.heap.size w1 wq)) (fun _ x _ => (ks n).length - (intOf x).toNat)
      case atStart => exact ⟨0, rfl, Nat.zero_le _, own_nil _ _ _ _, Below.refl _ _⟩
      case round =>
        obtain ⟨j, rfl, hj, hQ⟩ := hrel
        obtain ⟨hOk, hBq⟩ := hQ.out
        have hFr := HF.out.below (HB1.out.trans (hBq.mono HB1.out.size))
        obtain ⟨g2, o2, C, e2, hA2, hg2, _, _, _, d3, _, _, hI⟩ := hFr n Fn hFn
        subst hA2
        have z1 : (n : Int) < (fs.length : Int) := by omega
        have z0 : (0 : Int) ≤ (n : Int) := by omega
        have hlk := kidsB_len fs.length n ((ks n).take j)
        rw [List.length_take] at hlk
        obtain ⟨Ak, ck, h1, hle, _⟩ := own_irow hOk
        rw [ints_length] at h1 hle
        subst h1
        obtain ⟨L, hL⟩ : ∃ L, L = (kidsB fs.length n ((ks n).take j)).length := ⟨_, rfl⟩
        rw [← hL] at hle hlk ⊢
        have hOk2 : wr.ownsRow w1.heap.size 3 1 (.slice Ak L ck) (ints (kidsB fs.length n ((ks n).take j))).length (nums .i64 (ints (kidsB fs.length n ((ks n).take j)))) := by rw [hL]; exact hOk
        have HOK := Lib.hid hOk2
        have HBQ := Lib.hid hBq
        have HI := Lib.hid hI
        have HL := Lib.hid hL
        have hlL : (ints (kidsB fs.length n ((ks n).take j))).length = L := by rw [ints_length, hL]
        have HLL := Lib.hid hlL
        clear hOk hOk2 hBq hFr hI hL hQ hlL
        by_cases hlt : j < (ks n).length
        · obtain ⟨gc, oc, hAc, _, x0⟩ := HI.out j hlt
          subst hAc
          obtain ⟨p, hp⟩ : ∃ p, p = (ks n).getD j 0 := ⟨_, rfl⟩
          rw [← hp] at x0
          have qd : decide ((j : Int) < ((ks n).length : Int)) = true := decide_eq_true (by omega)
          have u1 : (j : Int) < ((ks n).length : Int) := by omega
          have u0 : (0 : Int) ≤ (j : Int) := by omega
          have hw : IntKind.i64.wrap ((j : Int) + 1) = ((j + 1 : Nat) : Int) := by rw [IntWalk.i64_in _ (by omega)]; omega
          have hsn := Lib.hid (kidsB_snoc fs.length n (ks n) j hlt)
          rw [← hp] at hsn
          by_cases hv : (n : Int) < p ∧ p < (fs.length : Int)
          · obtain ⟨k, rfl⟩ : ∃ k : Nat, p = (k : Int) := ⟨p.toNat, by omega⟩
            have hnk : n < k := by omega
            have hkN : k < fs.length := by omega
            have b1 : decide ((n : Int) < (k : Int)) = true := decide_eq_true (by omega)
            have b1' : decide ((k : Int) > (n : Int)) = true := decide_eq_true (by omega)
            have b2 : decide ((k : Int) < (fs.length : Int)) = true := decide_eq_true (by omega)
            have hnext : Hid (kidsB fs.length n ((ks n).take (j + 1)) = kidsB fs.length n ((ks n).take j) ++ [k]) := by show _ = _; rw [hsn.out, if_pos hv, Int.toNat_natCast]
            have hlongk : ((ints (kidsB fs.length n ((ks n).take j))).length + 1) * 8 ≤ 140737488355328 := by rw [HLL.out]; omega
            clear hv hp hsn
            go_wp2_with (at_builtin; refine print_append_num (w0 := w1) w1.heap.size rfl (.tmp 65) (.tmp 67) 24 3 .i64 8 rfl Try.underlying24 info3 (Nat.succ_pos 7) (.slice Ak L ck) (ints (kidsB fs.length n ((ks n).take j))) (k : Int) rfl rfl HOK.out HBQ.out HBQ.out.size hlongk ?_)
            intro v5 w5 hown5 hb5 hg5 hat5
            have hfin : Hid (w5.ownsRow w1.heap.size 3 1 v5 (ints (kidsB fs.length n ((ks n).take (j + 1)))).length (nums .i64 (ints (kidsB fs.length n ((ks n).take (j + 1))))) ∧ Below w1.heap.size w1 w5) := by
              refine ⟨?_, hb5⟩
              rw [hnext.out, ints_append, show ints [k] = [(k : Int)] from rfl]
              simpa using hown5
            clear hown5 hb5 hg5 hat5
            go_wp2
            go_roundw
            case measure => simp [intOf]; omega
            case rel => exact ⟨j + 1, by first | rfl | (rw [hw]) | simp, by omega, hfin⟩
          · have hnext : Hid (kidsB fs.length n ((ks n).take (j + 1)) = kidsB fs.length n ((ks n).take j)) := by show _ = _; rw [hsn.out, if_neg hv, List.append_nil]
            have hfin : Hid (wr.ownsRow w1.heap.size 3 1 (.slice Ak L ck) (ints (kidsB fs.length n ((ks n).take (j + 1)))).length (nums .i64 (ints (kidsB fs.length n ((ks n).take (j + 1))))) ∧ Below w1.heap.size w1 wr) := by
              show _ ∧ _
              rw [hnext.out]
              exact ⟨HOK.out, HBQ.out⟩
            clear hp hsn hnext
            by_cases h1 : (n : Int) < p
            · have b1 : decide ((n : Int) < p) = true := decide_eq_true (by omega)
              have b1' : decide (p > (n : Int)) = true := decide_eq_true (by omega)
              have b2 : decide (p < (fs.length : Int)) = false := decide_eq_false (by omega)
              clear hv h1
              go_wp2
              go_roundw
              case measure => simp [intOf]; omega
              case rel => exact ⟨j + 1, by first | rfl | (rw [hw]) | simp, by omega, hfin⟩
            · have b1 : decide ((n : Int) < p) = false := decide_eq_false (by omega)
              have b1' : decide (p > (n : Int)) = false := decide_eq_false (by omega)
              clear hv h1
              go_wp2
              go_roundw
              case measure => simp [intOf]; omega
              case rel => exact ⟨j + 1, by first | rfl | (rw [hw]) | simp, by omega, hfin⟩
        · obtain rfl : j = (ks n).length := by omega
          have qd : decide (((ks n).length : Int) < ((ks n).length : Int)) = false := decide_eq_false (by omega)
          have hKL : Hid (kidsB fs.length n ((ks n).take (ks n).length) = K) := by show _ = _; rw [List.take_length, HK2.out]
          have hLK : Hid (L = K.length) := by show _ = _; rw [HL.out, hKL.out]
          have hO5 := HOK.out
          rw [hKL.out] at hO5
          have hRd : Hid (ReadsInt wr .i64 T2 m (ints rest)) := by
            have h1 := irow_reads (HREST.out.below HBQ.out) (by rw [ints_length]; have := HM.out; omega)
            rw [ints_length, ← HM.out] at h1
            exact h1
          by_cases h4 : 400 < L
          · have b4 : decide ((L : Int) > 400) = true := decide_eq_true (by omega)
            have b4' : decide ((400 : Int) < (L : Int)) = true := decide_eq_true (by omega)
            have hO6 : wr.ownsRow w1.heap.size 3 1 (.slice Ak 400 ck) (ints (K.take 400)).length (nums .i64 (ints (K.take 400))) := by
              rw [ints_length, ← hLK.out] at hO5
              have h1 := own_take hO5 (m := 400) (by omega)
              rw [ints_length, List.length_take, Nat.min_eq_left (by have := hLK.out; omega)]
              simpa [nums, ints, List.map_take] using h1
            have HO6 := Lib.hid hO6
            have hlongz : ((ints (K.take 400)).length + m) * 8 ≤ 140737488355328 := by rw [ints_length, List.length_take]; omega
            have hsl4 : ∀ W, (Instr.slice 24 (.slice Ak L ck) none (some (.int .i64 400)) none).run Try.prog W = .ok (.slice Ak 400 ck) W := by
              intro W
              rw [run_slice_h (P := Try.prog) W 24 Ak L ck Try.underlying24 .i64 400 (by omega) (by omega)]
              rw [show (sizeOf (Try.prog.elem 24)).run Try.prog W = .ok 1 W by simp [go_sem]]
              cases Ak <;> simp [go_sem, sliced, Result.andThen, Addr.add]
            clear hO5 hO6 h4
            go_wp2_with (at_builtin; refine print_append_row (w0 := w1) w1.heap.size rfl (.tmp 74) (.tmp 75) 24 3 .i64 8 rfl Try.underlying24 info3 (Nat.succ_pos 7) (.slice Ak 400 ck) (ints (K.take 400)) (ints rest) T2 m (d - 1) rfl rfl HO6.out hRd.out HBQ.out HBQ.out.size hlongz ?_)
            intro v3 w3 hown3 hb3 hg3 hat3
            obtain ⟨A3, c3, hv3, hle3, hbw⟩ := HNEXT.out w3 v3 (by first | exact hown3 | (rw [List.length_append]; exact hown3)) hb3
            have HBW := Lib.hid hbw
            subst hv3
            clear hown3 hb3 hg3 hat3 hbw
            go_wp2
            go_roundw
            case measure => simp [lenV]; omega
            case rel => exact ⟨out ++ [n], K.take 400 ++ rest, A3, c3, rfl, hle3, HBW.out⟩
          · have b4 : decide ((L : Int) > 400) = false := decide_eq_false (by omega)
            have b4' : decide ((400 : Int) < (L : Int)) = false := decide_eq_false (by omega)
            have hO6 : wr.ownsRow w1.heap.size 3 1 (.slice Ak L ck) (ints (K.take 400)).length (nums .i64 (ints (K.take 400))) := by
              rw [List.take_of_length_le (by have := hLK.out; omega)]
              exact hO5
            have HO6 := Lib.hid hO6
            have hlongz : ((ints (K.take 400)).length + m) * 8 ≤ 140737488355328 := by rw [ints_length, List.length_take]; omega
            clear hO5 hO6 h4
            go_wp2_with (at_builtin; refine print_append_row (w0 := w1) w1.heap.size rfl (.tmp 74) (.tmp 75) 24 3 .i64 8 rfl Try.underlying24 info3 (Nat.succ_pos 7) (.slice Ak L ck) (ints (K.take 400)) (ints rest) T2 m (d - 1) rfl rfl HO6.out hRd.out HBQ.out HBQ.out.size hlongz ?_)
            intro v3 w3 hown3 hb3 hg3 hat3
            obtain ⟨A3, c3, hv3, hle3, hbw⟩ := HNEXT.out w3 v3 (by first | exact hown3 | (rw [List.length_append]; exact hown3)) hb3
            have HBW := Lib.hid hbw
            subst hv3
            clear hown3 hb3 hg3 hat3 hbw
            go_wp2
            go_roundw
            case measure => simp [lenV]; omega
            case rel => exact ⟨out ++ [n], K.take 400 ++ rest, A3, c3, rfl, hle3, HBW.out⟩
    · have hend : Hid (out = R) := by
        have h := HPRE.out
        rcases Classical.em (todo = []) with h0 | h0
        · subst h0
          rw [show pre fs.length ks [] = [] from rfl, List.append_nil, List.take_of_length_le hol] at h
          exact h
        · have : 401 ≤ out.length := by
            rcases Nat.lt_or_ge 400 out.length with h1 | h1
            · exact h1
            · exact absurd ⟨h0, h1⟩ hgo
          rw [List.take_append_of_le_length this, List.take_of_length_le hol] at h
          exact h
      have hlr : out.length = min (bel fs.length ks i).length 400 + 1 := by rw [hend.out]; exact HRL.out
      have ho1 : 1 ≤ out.length := by omega
      have hco : out.length ≤ co := by
        obtain ⟨A9, c9, h9, hle9, _⟩ := own_irow HO.out
        rw [ints_length] at h9 hle9
        injection h9 with _ _ h9b
        omega
      have HMIN : Hid (min (bel fs.length ks i).length 400 = out.length - 1) := by show _ = _; omega
      obtain ⟨T2, hsl⟩ : ∃ T2, ∀ W, (Instr.slice 24 (.slice Ao out.length co) (some (.int .i64 1)) none none).run Try.prog W = .ok (.slice T2 (out.length - 1) (co - 1)) W := by
        refine ⟨if co = 1 then Ao else Ao.map (fun a => a.add 1), fun W => ?_⟩
        rw [run_slice_l (P := Try.prog) W 24 Ao out.length co Try.underlying24 .i64 1 (by omega) (by omega)]
        rw [show (sizeOf (Try.prog.elem 24)).run Try.prog W = .ok 1 W by simp [go_sem]]
        simp [go_sem, sliced, Result.andThen]
      by_cases h0 : todo.length = 0
      · have a1 : decide ((0 : Int) < ((todo.length : Nat) : Int)) = false := decide_eq_false (by omega)
        have a1' : decide (((todo.length : Nat) : Int) > (0 : Int)) = false := decide_eq_false (by omega)
        have a1n : ¬ 0 < todo.length := by omega
        clear hgo hlr htl hol hd HO HT HTN HPRE h0
        go_wp2
        go_ret
        exact ⟨⟨T2, co - 1, by rw [HMIN.out]; rfl⟩, HW.out⟩
      · have a1 : decide ((0 : Int) < ((todo.length : Nat) : Int)) = true := decide_eq_true (by omega)
        have a1' : decide (((todo.length : Nat) : Int) > (0 : Int)) = true := decide_eq_true (by omega)
        have a4 : 400 < out.length := by
          rcases Nat.lt_or_ge 400 out.length with h1 | h1
          · exact h1
          · exact absurd ⟨fun e => h0 (by rw [e]; rfl), h1⟩ hgo
        have a2 : decide ((out.length : Int) ≤ 400) = false := decide_eq_false (by omega)
        have a1n : 0 < todo.length := by omega
        clear hgo hlr htl hol hd HO HT HTN HPRE h0
        go_wp2
        go_ret
        exact ⟨⟨T2, co - 1, by rw [HMIN.out]; rfl⟩, HW.out⟩
set_option maxHeartbeats 4000000 in
set_option maxRecDepth 100000 in
theorem refSize_calls (w : World) (A : Option Addr) (c : Nat) (fs : List FormP) (ks : Nat → List Int) (hF : FRow w A fs ks) (hN : fs.length ≤ 1000000) (hk : ∀ j, (ks j).length ≤ 17592186043904) (i : Nat) (hi : i < fs.length) :
    Calls Try.prog 59 #[.slice A fs.length c, .int .i64 (i : Int)] w fun e w' => IsInt w ((1 + min (bel fs.length ks i).length 400 : Nat) : Int) e w' := by
  have q1 : decide ((i : Int) < 0) = false := decide_eq_false (by omega)
  have q2 : decide ((fs.length : Int) ≤ (i : Int)) = false := decide_eq_false (by omega)
  have q2' : decide ((i : Int) ≥ (fs.length : Int)) = false := decide_eq_false (by omega)
  have q3 : decide (fs.length ≤ i) = false := decide_eq_false (by omega)
  have HB := Lib.hid (refBelow_calls w A c fs ks hF hN hk i hi)
  obtain ⟨m, hm⟩ : ∃ m, m = min (bel fs.length ks i).length 400 := ⟨_, rfl⟩
  have hm4 : m ≤ 400 := by omega
  rw [← hm] at HB ⊢
  clear hF hk hm
  go_enter Try.func59, Try.ntmps59
  go_wp2_with (fail)
  refine HB.out.mono ?_
  rintro e w1 ⟨⟨B, d, rfl⟩, hb1⟩
  have HB1 := Lib.hid hb1
  clear hb1
  go_wp2
  go_ret
  refine ⟨?_, HB1.out⟩
  first | rfl | (show Ending.returned (.int .i64 _) = Ending.returned (.int .i64 _); congr 2; omega)
set_option maxHeartbeats 8000000 in
set_option maxRecDepth 100000 in
theorem refCut_calls (w : World) (A : Option Addr) (c : Nat) (fs : List FormP) (ks : Nat → List Int) (hF : FRow w A fs ks) (hN : fs.length ≤ 1000000) (hk : ∀ j, (ks j).length ≤ 17592186043904) (i : Int) :
    Calls Try.prog 37 #[.slice A fs.length c, .int .i64 i] w fun e w' => CutEnds w (cutP fs ks i) e w' := by
  by_cases hi : 0 ≤ i ∧ i < (fs.length : Int)
  · obtain ⟨n, rfl⟩ : ∃ n : Nat, i = (n : Int) := ⟨i.toNat, by omega⟩
    have q1 : decide ((n : Int) < 0) = false := decide_eq_false (by omega)
    have q2 : decide ((fs.length : Int) ≤ (n : Int)) = false := decide_eq_false (by omega)
    have q2' : decide ((n : Int) ≥ (fs.length : Int)) = false := decide_eq_false (by omega)
    have hnN : n < fs.length := by omega
    have hsc := refSize_calls w A c fs ks hF hN hk n hnN
    obtain ⟨z, hz⟩ : ∃ z, z = 1 + min (bel fs.length ks n).length 400 := ⟨_, rfl⟩
    rw [← hz] at hsc
    have hS := Lib.hid hz
    have HSC := Lib.hid hsc
    have HF := Lib.hid hF
    have HK : Hid (∀ j, (ks j).length ≤ 140737488351232) := fun j => Nat.le_trans (hk j) (by decide)
    clear hsc hF hk hz hi
    by_cases h4 : (bel fs.length ks n).length < 400
    · have hp : cutP fs ks (n : Int) = .ok (tk fs.length fs ks n ([], fun _ => [])) := by
        unfold cutP
        rw [if_pos ⟨by omega, by omega⟩, Int.toNat_natCast, if_pos h4]
      rw [hp]
      have qz : decide ((400 : Int) < (z : Int)) = false := decide_eq_false (by have := hS.out; omega)
      have qz' : decide ((z : Int) > (400 : Int)) = false := decide_eq_false (by have := hS.out; omega)
      have qzn : ¬ 400 < z := by have := hS.out; omega
      clear hp
      go_enter Try.func37, Try.ntmps37
      go_wp2_with (fail)
      refine HSC.out.mono ?_
      rintro e w1 ⟨rfl, hb1⟩
      have HB1 := Lib.hid hb1
      have htc := move_calls w1 A c w1.heap.size fs ks (HF.out.below hb1) hN HK.out _ n (w1.alloc (.cells #[.slice A fs.length c, .slice none 0 0] 95)) ([], fun _ => []) (.slice none 0 0) (fun _ => .slice none 0 0) rfl hnN (IsTk.start w1 A fs.length c 95 (by decide)) (by show 0 + 1 + _ ≤ _; omega) ((Below.refl _ w1).alloc (Nat.le_refl _) _)
      have HTC := Lib.hid htc
      clear hb1 htc
      go_wp2_with (fail)
      refine HTC.out.mono ?_
      rintro e w2 ⟨rfl, fv, vs, hT, hM⟩
      have y1 : w2.cell? ⟨w1.heap.size, 1, none⟩ = some fv := by rw [blk_cell hT.obj]; rfl
      obtain ⟨A2, c2, rfl, _, hF2⟩ := own_frow hT.row hT.kids
      have HT := Lib.hid hT
      have HF2 := Lib.hid hF2
      have HB2 : Hid (Below w.heap.size w w2) := below_then HB1.out HB1.out.size (((Below.refl _ w1).alloc (Nat.le_refl _) (.cells #[.slice A fs.length c, .slice none 0 0] 95)).trans hM.below)
      clear hT hF2 hM
      go_wp2
      refine bodyPost_ret (v := .tuple #[.slice A2 (tk fs.length fs ks n ([], fun _ => [])).1.length c2, .slice (some ⟨w2.heap.size, 0, none⟩) 1 1, .int .i64 0]) (by simp [results, Try.results37, go_sem]) rfl ⟨A2, c2, _, _, rfl, HF2.out.below ((Below.refl _ w2).alloc (Nat.le_refl _) _), irow_new w2 0, HB2.out.alloc HB2.out.size _⟩
    · have hp : cutP fs ks (n : Int) = .error 4 := by
        unfold cutP
        rw [if_pos ⟨by omega, by omega⟩, Int.toNat_natCast, if_neg h4]
      rw [hp]
      have qz : decide ((400 : Int) < (z : Int)) = true := decide_eq_true (by have := hS.out; omega)
      have qz' : decide ((z : Int) > (400 : Int)) = true := decide_eq_true (by have := hS.out; omega)
      have qzn : 400 < z := by have := hS.out; omega
      clear hp
      go_enter Try.func37, Try.ntmps37
      go_wp2_with (fail)
      refine HSC.out.mono ?_
      rintro e w1 ⟨rfl, hb1⟩
      have HB1 := Lib.hid hb1
      clear hb1
      go_wp2
      exact bodyPost_ret (v := .tuple #[.slice none 0 0, .slice none 0 0, .int .i64 4]) (by simp [results, Try.results37, go_sem]) rfl ⟨rfl, HB1.out⟩
  · have hp : cutP fs ks i = .error 2 := if_neg hi
    rw [hp]
    clear hF hk hp
    by_cases h : i < 0
    · have q1 : decide (i < 0) = true := decide_eq_true h
      clear hi h
      go_enter Try.func37, Try.ntmps37
      go_wp2
      exact bodyPost_ret (v := .tuple #[.slice none 0 0, .slice none 0 0, .int .i64 2]) (by simp [results, Try.results37, go_sem]) rfl ⟨rfl, Below.refl _ _⟩
    · have q1 : decide (i < 0) = false := decide_eq_false h
      have q2 : decide ((fs.length : Int) ≤ i) = true := decide_eq_true (by omega)
      have q2' : decide (i ≥ (fs.length : Int)) = true := decide_eq_true (by omega)
      clear hi h
      go_enter Try.func37, Try.ntmps37
      go_wp2
      exact bodyPost_ret (v := .tuple #[.slice none 0 0, .slice none 0 0, .int .i64 2]) (by simp [results, Try.results37, go_sem]) rfl ⟨rfl, Below.refl _ _⟩
end Go.Proofs.Ytiojfdgagdofiaa.HP
