/-
What is reached: plain; the rounds of a range over a function, and their deferred calls' blocks.
-/
import Derived.Test.YtbldlmolbdkabaaCcD
import Derived.StillTailTactics
set_option linter.unusedVariables false
set_option linter.unusedSimpArgs false
namespace Go.Proofs.Ytbldlmolbdkabaa.HP
open Go.RowKit Go.Proofs.YtbldlmolbdkabaaW.PrintWords Go.Proofs.YtbldlmolbdkabaaW.PrintLast Go.Proofs.YtbldlmolbdkabaaW.PrintMore
attribute [local go_sem] Oper.semAt_some wide_fn wide_depth
/-! ### plain -/
inductive Reach (es : List EdgeP) : Nat → Nat → Prop
  | refl (x : Nat) : Reach es x x
  | step {x y z : Nat} : Reach es x y → z ∈ outL es y → Reach es x z
structure LInv (n : Nat) (es : List EdgeP) (r : Nat) (o : List Int) (todo : List Nat) : Prop where
  len : o.length = n
  root : lb o r ≠ -1
  val : ∀ x, x < n → lb o x ≠ -1 → 0 ≤ lb o x ∧ lb o x + (bare n o : Int) ≤ (n : Int)
  reach : ∀ x, x < n → lb o x ≠ -1 → Reach es r x
  todo_ : ∀ t ∈ todo, t < n ∧ lb o t ≠ -1
  clos : ∀ x, x < n → lb o x ≠ -1 → x ∉ todo → ∀ y ∈ outL es x, lb o y ≠ -1
structure LMid (n : Nat) (es : List EdgeP) (r : Nat) (o : List Int) (todo : List Nat) (t : Nat) (pre : List Nat) : Prop where
  inv : LInv n es r o todo
  head : todo.head? = some t
  done : ∀ y ∈ pre, lb o y ≠ -1
theorem LMid.start {n : Nat} {es : List EdgeP} {r t : Nat} {o : List Int} {rest : List Nat} (h : LInv n es r o (t :: rest)) : LMid n es r o (t :: rest) t [] := ⟨h, rfl, fun y hy => by simp at hy⟩
theorem LMid.skip {n : Nat} {es : List EdgeP} {r t y : Nat} {o : List Int} {todo pre : List Nat} (h : LMid n es r o todo t pre) (hy : lb o y ≠ -1) : LMid n es r o todo t (pre ++ [y]) :=
  ⟨h.inv, h.head, fun z hz => by
    rcases List.mem_append.1 hz with hz | hz
    · exact h.done z hz
    · rw [List.mem_singleton.1 hz]; exact hy⟩
theorem LMid.mem {n : Nat} {es : List EdgeP} {r t : Nat} {o : List Int} {todo pre : List Nat} (h : LMid n es r o todo t pre) : t ∈ todo := by
  cases todo with
  | nil => have := h.head; simp at this
  | cons a b => have := h.head; simp at this; rw [this]; exact List.mem_cons_self
theorem LMid.new {n : Nat} {es : List EdgeP} {r t y : Nat} {o : List Int} {todo pre : List Nat} (h : LMid n es r o todo t pre) (hyn : y < n) (hy : lb o y = -1) (hout : y ∈ outL es t) :
    LMid n es r (o.set y (lb o t + 1)) (todo ++ [y]) t (pre ++ [y]) ∧ bare n (o.set y (lb o t + 1)) + 1 ≤ bare n o := by
  have ht := h.inv.todo_ t h.mem
  have hv := h.inv.val t ht.1 ht.2
  have hset := fun x => lb_set o (v := y) (by rw [h.inv.len]; exact hyn) (lb o t + 1) x
  have hb : bare n (o.set y (lb o t + 1)) < bare n o := by
    refine bare_lt (v := y) (fun x hx hx1 => ?_) hyn hy ?_
    · rw [hset] at hx1
      split at hx1
      · omega
      · exact hx1
    · rw [hset, if_pos rfl]; omega
  have hkeep : ∀ x, lb o x ≠ -1 → lb (o.set y (lb o t + 1)) x ≠ -1 := fun x hx => by
    rw [hset]
    split
    · omega
    · exact hx
  refine ⟨⟨⟨?_, hkeep r h.inv.root, ?_, ?_, ?_, ?_⟩, ?_, ?_⟩, by omega⟩
  · rw [List.length_set]; exact h.inv.len
  · intro x hx hx1
    rw [hset] at hx1 ⊢
    split
    · omega
    · rename_i hne
      rw [if_neg hne] at hx1
      have := h.inv.val x hx hx1
      omega
  · intro x hx hx1
    rw [hset] at hx1
    by_cases e : x = y
    · subst e; exact .step (h.inv.reach t ht.1 ht.2) hout
    · rw [if_neg e] at hx1; exact h.inv.reach x hx hx1
  · intro s hs
    rcases List.mem_append.1 hs with hs | hs
    · exact ⟨(h.inv.todo_ s hs).1, hkeep s (h.inv.todo_ s hs).2⟩
    · rw [List.mem_singleton.1 hs]
      refine ⟨hyn, ?_⟩
      rw [hset, if_pos rfl]; omega
  · intro x hx hx1 hxt z hz
    have hxy : x ≠ y := fun e => hxt (List.mem_append_right _ (by rw [e]; exact List.mem_singleton.2 rfl))
    rw [hset, if_neg hxy] at hx1
    exact hkeep z (h.inv.clos x hx hx1 (fun hm => hxt (List.mem_append_left _ hm)) z hz)
  · have := h.head
    cases todo with
    | nil => simp at this
    | cons a b => simpa using this
  · intro z hz
    rcases List.mem_append.1 hz with hz | hz
    · exact hkeep z (h.done z hz)
    · rw [List.mem_singleton.1 hz, hset, if_pos rfl]; omega
theorem LMid.finish {n : Nat} {es : List EdgeP} {r t : Nat} {o : List Int} {todo : List Nat} (h : LMid n es r o todo t (outL es t)) : LInv n es r o todo.tail := by
  have ht : ∃ rest, todo = t :: rest := by
    have := h.head
    cases todo with
    | nil => simp at this
    | cons a b => simp at this; exact ⟨b, by rw [this]⟩
  obtain ⟨rest, rfl⟩ := ht
  refine ⟨h.inv.len, h.inv.root, h.inv.val, h.inv.reach, fun s hs => h.inv.todo_ s (List.mem_cons_of_mem _ hs), ?_⟩
  intro x hx hx1 hxt y hy
  by_cases e : x = t
  · subst e; exact h.done y hy
  · exact h.inv.clos x hx hx1 (fun hm => (List.mem_cons.1 hm).elim e hxt) y hy
theorem outL_lt {n : Nat} {es : List EdgeP} (hG : okG (n : Int) es) {v y : Nat} (h : y ∈ outL es v) : y < n := by
  unfold outL at h
  obtain ⟨i, hi, rfl⟩ := List.mem_map.1 h
  obtain ⟨j, rfl, hj, _⟩ := mem_pick hi
  have he : es[j]? = some es[j] := List.getElem?_eq_getElem hj
  have hd : es.getD j noEdge = es[j] := by rw [List.getD_eq_getElem?_getD, he]; rfl
  have := hG.2.2 es[j] (List.getElem_mem hj)
  unfold toN
  rw [Int.toNat_natCast, hd]
  omega
theorem LInv.finish {n : Nat} {es : List EdgeP} {r : Nat} {o : List Int} (h : LInv n es r o []) (hG : okG (n : Int) es) (hr : r < n) : ∀ x, x < n → (0 ≤ lb o x ↔ Reach es r x) := by
  have hc : ∀ x, Reach es r x → x < n ∧ lb o x ≠ -1 := by
    intro x hx
    induction hx with
    | refl => exact ⟨hr, h.root⟩
    | step _ hz ih => exact ⟨outL_lt hG hz, h.clos _ ih.1 ih.2 (by simp) _ hz⟩
  intro x hx
  constructor
  · intro h0
    exact h.reach x hx (by omega)
  · intro hR
    exact (h.val x hx (hc x hR).2).1
theorem LInv.start {n : Nat} {es : List EdgeP} {r : Nat} (hr : r < n) : LInv n es r ((List.replicate n (-1)).set r 0) [r] := by
  have hset := fun x => lb_set (List.replicate n (-1)) (v := r) (by simpa using hr) 0 x
  have hl : ∀ x, x < n → lb (List.replicate n (-1)) x = -1 := fun x hx => by unfold lb; simp [List.getD_eq_getElem?_getD, hx]
  have hx0 : ∀ x, x < n → lb ((List.replicate n (-1)).set r 0) x ≠ -1 → x = r := fun x hx h => by
    rw [hset] at h
    by_cases e : x = r
    · exact e
    · rw [if_neg e, hl x hx] at h; exact absurd rfl h
  have h0 : lb ((List.replicate n (-1)).set r 0) r = 0 := by rw [hset, if_pos rfl]
  refine ⟨by simp, by rw [h0]; decide, fun x hx h => ?_, fun x hx h => ?_, fun t ht => ?_, fun x hx h hnt => ?_⟩
  · rw [hx0 x hx h, h0]; have := bare_le n ((List.replicate n (-1)).set r 0); omega
  · rw [hx0 x hx h]; exact .refl _
  · rw [List.mem_singleton.1 ht]; exact ⟨hr, by rw [h0]; decide⟩
  · exact absurd (List.mem_singleton.2 (hx0 x hx h)) hnt
/-- How many have no label, as the cells say it. -/
def bareW (n B : Nat) (W : World) : Nat := ((List.range n).filter (fun x => match W.cell? ⟨B, x, none⟩ with | some (.int _ v) => decide (v = -1) | _ => false)).length
theorem nums_cell {W : World} {B : Nat} {o : List Int} {t : TypeId} (h : W.heap[B]? = some (.cells (nums .i64 o).toArray t (0, 0))) {x : Nat} (hx : x < o.length) : W.cell? ⟨B, x, none⟩ = some (.int .i64 (lb o x)) := by
  rw [blk_cell h]
  unfold nums lb
  simp [hx, List.getD_eq_getElem?_getD]
theorem bareW_eq {W : World} {B n : Nat} {o : List Int} {t : TypeId} (h : W.heap[B]? = some (.cells (nums .i64 o).toArray t (0, 0))) (hl : o.length = n) : bareW n B W = bare n o := by
  unfold bareW bare
  congr 1
  refine List.filter_congr fun x hx => ?_
  rw [nums_cell h (by rw [hl]; exact List.mem_range.1 hx)]
def lenIn (W : World) (v : Value) : Nat := match v with | .pointer (some p) => (match W.cell? p with | some (.slice _ l _) => l | _ => 0) | _ => 0
theorem rows_round {n : Nat} {P : Program} {row : String} {args : Array Value} {w : World} {R : Value → World → Prop} (l : Nat) (h : Rows P row args w R) : RowsIn (Fence.wide.inRound l) n P row args w R :=
  fun c cs _ => by
    obtain ⟨v, w', hr, hs⟩ := h c cs
    exact ⟨v, w', hr, stepsIn_wide.2 hs⟩
theorem oper_round {n l : Nat} {P : Program} {o : Oper} {a : Act} {w : World} {K : Act → World → Prop} {Q : Exit → Act → World → Prop} (hd : ∀ c, o.op ≠ .defer c) (h : o.wp P a w K Q) :
    o.wpIn (Fence.wide.inRound l) n P a w K Q := by
  refine ⟨fun _ _ => trivial, ?_⟩
  rw [Oper.semAt_eq _ _ _ hd]
  unfold Oper.wp at h
  generalize (execOp a.eval o).run P w = r at h ⊢
  cases r with
  | ok x w' =>
    cases x with
    | value v => exact h
    | skip => exact h
    | defer d => exact h
    | enter f args => exact ⟨fun hs => (by cases hs), (callsIn_wide (n := n - 1)).2 h⟩
    | row row args => exact ⟨fun hs => (by cases hs), rows_round l h⟩
    | _ => exact h.elim
  | halt x w' =>
    cases x with
    | panic v => exact h
    | _ => exact h.elim
def noDefers (l : List Oper) : Bool := l.all (fun o => match o.op with | .defer _ => false | _ => true)
theorem noDefers_at {l : List Oper} (h : noDefers l = true) {i : Nat} {o : Oper} (hi : l.toArray[i]? = some o) : ∀ c, o.op ≠ .defer c := by
  have hm : o ∈ l := by
    have := Array.mem_of_getElem? hi
    simpa using this
  have h1 := List.all_eq_true.1 h o hm
  intro c e
  rw [e] at h1
  cases h1
theorem op_round {n r : Nat} {P : Program} {l : List Oper} (hn : noDefers l = true) {Q : Exit → Act → World → Prop} (hL : ¬ LetsOut Q) {i : Nat} {K K' : Act → World → Prop} {a : Act} {w : World} (hK : ∀ a w, K a w → K' a w)
    (h : wpOp P l.toArray Q i K a w) : wpOpIn (Fence.wide.inRound r) n P l.toArray Q i K' a w := by
  unfold wpOp at h
  unfold wpOpIn
  cases ho : l.toArray[i]? with
  | none => rw [ho] at h; exact hK _ _ h
  | some o =>
    rw [ho] at h
    dsimp only at h ⊢
    split
    · rename_i hw
      rw [if_pos hw] at h
      exact Oper.wpIn_mono hK (oper_round (noDefers_at hn ho) (h.resolve_right fun x => hL x.2))
    · rename_i hw
      rw [if_neg hw] at h
      exact ⟨fun _ _ => trivial, hK _ _ h⟩
theorem any_round {n r : Nat} {P : Program} {md : Region.Mode} {l : List Oper} (hn : noDefers l = true) {Q : Exit → Act → World → Prop} (hL : ¬ LetsOut Q) : ∀ (f : Nat) (listed : Array Bool) (a : Act) (w : World),
    wpAny P md l.toArray Q f listed a w → wpAnyIn (Fence.wide.inRound r) n P md l.toArray Q f listed a w
  | 0, _, _, _, h => h
  | f + 1, _, _, _, h => ⟨h.1, fun i hi => op_round hn hL (fun a w => any_round hn hL f _ a w) (h.2 i hi)⟩
/-- The orders of a region whose first n operations only read, and whose rest come in the text's order: all come to one. -/
theorem any_tail {P : Program} {Q : Exit → Act → World → Prop} {a : Act} {w : World} {l : List Oper} {n : Nat} (hB : Region.lexTailB .any l.toArray n = true)
    (h : wpStill P l.toArray w (fun a' => wpList P l.toArray Q (l.drop n) a' w) (l.take n) a) :
    wpAny P .any l.toArray Q l.toArray.size (Array.replicate l.toArray.size false) a w := by
  unfold Region.lexTailB at hB
  obtain ⟨hB, hlex⟩ := Bool.and_eq_true_iff.1 hB
  obtain ⟨hB, hchain⟩ := Bool.and_eq_true_iff.1 hB
  obtain ⟨hB, hsink⟩ := Bool.and_eq_true_iff.1 hB
  obtain ⟨hsel, hlt⟩ := Bool.and_eq_true_iff.1 hB
  have hlt := of_decide_eq_true hlt
  have hsize : l.toArray.size = l.length := rfl
  have htake : (l.take n).length = n := by rw [List.length_take]; omega
  have hfresh : ∀ (k : Nat), (Array.replicate l.toArray.size false).getD k false = false := fun k => by simp [Array.getD]
  have hinv : HeadInv .any l.toArray n (Array.replicate l.toArray.size false) := by
    refine ⟨by simp, fun j oj _ hl => ?_, fun t ht1 ht2 => ?_⟩
    · rw [hfresh] at hl; cases hl
    · have h1 := hfresh t
      simp only [Array.getD, Array.size_replicate, ht2, dite_true] at h1 ⊢
      simp
  have hstart := wpAnyL_lex (P := P) (w := w) (g := l.toArray.size - n) (Lq := fun a' => wpList P l.toArray Q (l.drop n) a' w) hsel hsink hchain hlt (l.take n) 0 (Array.replicate l.toArray.size false) a
    (fun j hj => by
      rw [htake] at hj
      rw [List.getElem?_take, if_pos hj, Nat.zero_add]
      simp) (by rw [htake, Nat.zero_add]) hinv (by rw [htake]; exact hlex) h
  have hwhole := wpAny_of_head (P := P) (Q' := Q) (w := w) (g := (l.drop n).length) (fun listed a' (hL : Region.seqB .any l.toArray (l.toArray.size - n) n listed = true ∧ wpList P l.toArray Q (l.drop n) a' w) =>
    wpAny_of_seq (md := .any) (Q' := Q) (l.drop n) n listed a' w (fun j => by rw [List.getElem?_drop]; simp) (by rw [List.length_drop, ← hsize]; exact hL.1) hL.2) _ _ _ hstart
  rwa [htake, List.length_drop, ← hsize, show n + (l.toArray.size - n) = l.toArray.size by omega] at hwhole
theorem region_round {r m id n : Nat} {Q : Exit → Act → World → Prop} {a : Act} {w : World} {l : List Oper} (hm : Try.prog.follows .mixedOrders = true) (hB : Region.lexTailB .any l.toArray n = true) (hn : noDefers l = true) (hL : ¬ LetsOut Q)
    (h : wpStill Try.prog l.toArray w.drew (fun a' => wpList Try.prog l.toArray Q (l.drop n) a' w.drew) (l.take n) a) : (Code.region id l.toArray true).wpIn (Fence.wide.inRound r) m Try.prog Q a w :=
  wpIn_region_any hm (any_round hn hL _ _ _ _ (any_tail hB h))
/-! ### deferred calls' blocks: one for each range over a function -/
def Marks (n₀ : Nat) (W : World) (ds : List Deferred) : Prop :=
  (∀ x ∈ ds, ∃ D, x.target = .collected D ∧ n₀ ≤ D ∧ W.heap[D]? = some (.deferred (some []))) ∧ ds.Pairwise (fun x y => ∀ D, x.target = .collected D → y.target ≠ .collected D)
theorem Marks.nil (n₀ : Nat) (W : World) : Marks n₀ W [] := ⟨fun x hx => by simp at hx, .nil⟩
theorem Marks.keeps {n₀ : Nat} {W W' : World} {ds : List Deferred} (h : Marks n₀ W ds) (hk : KeepsOthers W W') : Marks n₀ W' ds :=
  ⟨fun x hx => by obtain ⟨D, h1, h2, h3⟩ := h.1 x hx; exact ⟨D, h1, h2, hk.same D _ h3 rfl⟩, h.2⟩
theorem Marks.own {β : Type} {n₀ : Nat} {w : World} {ds : List Deferred} (h : Marks n₀ w ds) : OwnFrom w.heap.size (fun (_ : β) W => Marks n₀ W ds) := by
  intro s W W' row hs hg hr
  refine ⟨fun x hx => ?_, hs.2⟩
  obtain ⟨D, h1, h2, h3⟩ := hs.1 x hx
  obtain ⟨D', h1', _, h3'⟩ := h.1 x hx
  have e : D = D' := by rw [h1] at h1'; injection h1'
  subst e
  refine ⟨D, h1, h2, (hg.block D (blk_lt h3) ?_).trans h3⟩
  intro e
  have h4 := (hr D e.symm).1
  have h5 := blk_lt h3'
  omega
theorem Marks.cons {n₀ : Nat} {w W : World} {ds : List Deferred} (h : Marks n₀ W ds) (hold : Marks n₀ w ds) {D : Nat} (hn : n₀ ≤ w.heap.size) (hD : w.heap.size ≤ D) (hk : W.heap[D]? = some (.deferred (some []))) :
    Marks n₀ W ({ target := .collected D, args := #[] } :: ds) := by
  refine ⟨fun x hx => ?_, .cons (fun y hy D' e1 e2 => ?_) h.2⟩
  · rcases List.mem_cons.1 hx with rfl | hx
    · exact ⟨D, rfl, by omega, hk⟩
    · exact h.1 x hx
  · obtain ⟨D2, h1, _, h3⟩ := hold.1 y hy
    have h4 := blk_lt h3
    injection e1 with e1
    rw [h1] at e2
    injection e2 with e2
    omega
theorem leaves_marks {F : Fence} {n n₀ : Nat} {fn : Func} {tmps : Array Value} {R : Ending → World → Prop} : ∀ (ds : List Deferred) (W : World), Marks n₀ W ds →
    (∀ W', Below n₀ W W' → (∀ (k : Nat) (o : Obj), W.heap[k]? = some o → o.isCells = true → W'.heap[k]? = some o) → LeavesIn F n Try.prog fn tmps R [] .returning W') → LeavesInM F n Try.prog fn tmps R ds .returning W
  | [], W, _, hR => hR W (Below.refl _ _) (fun _ _ h _ => h)
  | x :: r, W, h, hR => by
    obtain ⟨D, h1, h2, h3⟩ := h.1 x List.mem_cons_self
    have hb : Below n₀ W (W.putObj D (.deferred none)) := (Below.refl n₀ W).grown (grownBy_putObj' W D _) (by have := blk_lt h3; omega) (fun k e => by cases e; omega)
    refine ⟨by simp, .inl ⟨D, _, h1, run_takeDeferred h3, leaves_marks r _ ⟨fun y hy => ?_, (List.pairwise_cons.1 h.2).2⟩ (fun W' hb' hk => hR W' (hb.trans hb') (fun k o ho hc => hk k o ?_ hc))⟩⟩
    · obtain ⟨D', g1, g2, g3⟩ := h.1 y (List.mem_cons_of_mem _ hy)
      refine ⟨D', g1, g2, ?_⟩
      rw [heap_putObj W D (.deferred none) (b := D') (fun e => (List.pairwise_cons.1 h.2).1 y hy D h1 (by rw [g1, e]))]
      exact g3
    · rw [heap_putObj W D (.deferred none) (b := k) (fun e => by subst e; rw [h3] at ho; cases ho; cases hc)]
      exact ho
theorem list_round {n r : Nat} {P : Program} {ops : Array Oper} {Q : Exit → Act → World → Prop} (hL : ¬ LetsOut Q) : ∀ (l : List Oper), noDefers l = true → ∀ (a : Act) (w : World), wpList P ops Q l a w → wpListIn (Fence.wide.inRound r) n P ops Q l a w
  | [], _, _, _, h => h
  | o :: l, hn, a, w, h => by
    have ho : ∀ c, o.op ≠ .defer c := noDefers_at hn (i := 0) (by simp)
    have hl : noDefers l = true := by
      unfold noDefers at hn ⊢
      rw [List.all_cons, Bool.and_eq_true] at hn
      exact hn.2
    unfold wpList at h
    unfold wpListIn
    by_cases hw : Region.wanted o (yielded ops a.tmps) = true
    · rw [if_pos hw] at h ⊢
      exact Oper.wpIn_mono (fun a w => list_round hL l hl a w) (oper_round ho (h.resolve_right fun x => hL x.2))
    · rw [if_neg hw] at h ⊢
      exact ⟨fun _ _ => trivial, list_round hL l hl _ _ h⟩
theorem region_round_lit {r m id : Nat} {P : Program} {Q : Exit → Act → World → Prop} {a : Act} {w : World} {l : List Oper} (hn : noDefers l = true) (hL : ¬ LetsOut Q) (h : wpList P l.toArray Q l a w) : (Code.region id l.toArray false).wpIn (Fence.wide.inRound r) m P Q a w :=
  wpIn_region_lit (list_round hL l hn a w h)
/-! ### the row of levels and the list to do, in memory -/
def TD (lo : Nat) (V : World) (Bo B6 : Nat) (todo : List Nat) (tb to_ tc : Nat) (C : Array Value) : Prop :=
  V.heap[B6]? = some (.cells #[.slice (some ⟨tb, to_, none⟩) todo.length tc] 37 (0, 0)) ∧ V.heap[tb]? = some (.cells C 3 (0, 0)) ∧ to_ + tc ≤ C.size ∧ todo.length ≤ tc ∧ (∀ j, j < todo.length → C[to_ + j]? = some (.int .i64 (((todo.getD j 0 : Nat)) : Int))) ∧ tb ≠ Bo ∧ lo ≤ tb
structure LHp (lo : Nat) (V : World) (Bo B5 B6 n : Nat) (o : List Int) (todo : List Nat) : Prop where
  row : V.heap[Bo]? = some (.cells (nums .i64 o).toArray 3 (0, 0))
  five : V.heap[B5]? = some (.cells #[.slice (some ⟨Bo, 0, none⟩) n n] 37 (0, 0))
  six : ∃ tb to_ tc C, TD lo V Bo B6 todo tb to_ tc C
  fs : B5 ≠ B6
theorem LHp.keeps {lo Bo B5 B6 n : Nat} {o : List Int} {todo : List Nat} {V V' : World} (h : LHp lo V Bo B5 B6 n o todo) (hk : ∀ (k : Nat) (cs : Array Value) (t : TypeId), V.heap[k]? = some (.cells cs t (0, 0)) → V'.heap[k]? = some (.cells cs t (0, 0))) : LHp lo V' Bo B5 B6 n o todo := by
  obtain ⟨tb, to_, tc, C, h1, h2, h3⟩ := h.six
  exact ⟨hk _ _ _ h.row, hk _ _ _ h.five, ⟨tb, to_, tc, C, hk _ _ _ h1, hk _ _ _ h2, h3⟩, h.fs⟩
theorem LHp.alloc {lo Bo B5 B6 n : Nat} {o : List Int} {todo : List Nat} {V : World} (h : LHp lo V Bo B5 B6 n o todo) (x : Obj) : LHp lo (V.alloc x) Bo B5 B6 n o todo :=
  h.keeps fun k cs t hk => blk_alloc hk x
theorem nums_set (o : List Int) (y : Nat) (a : Int) : (nums .i64 o).toArray.setIfInBounds y (.int .i64 a) = (nums .i64 (o.set y a)).toArray := by
  unfold nums
  simp [List.map_set]
theorem LHp.set {lo Bo B5 B6 n : Nat} {o : List Int} {todo : List Nat} {V : World} (h : LHp lo V Bo B5 B6 n o todo) (y : Nat) (a : Int) : LHp lo (V.setCell ⟨Bo, y, none⟩ (.int .i64 a)) Bo B5 B6 n (o.set y a) todo := by
  obtain ⟨tb, to_, tc, C, h1, h2, h3, h4, h5, h6, h7⟩ := h.six
  refine ⟨?_, blk_far h.five (blk_ne h.five h.row (by decide)) _, ⟨tb, to_, tc, C, blk_far h1 (blk_ne h1 h.row (by decide)) _, blk_far h2 h6 _, h3, h4, h5, h6, h7⟩, h.fs⟩
  rw [← nums_set]
  exact blk_set h.row y _
theorem getD_snoc {todo : List Nat} {y j : Nat} (hj : j < (todo ++ [y]).length) : (todo ++ [y]).getD j 0 = if j < todo.length then todo.getD j 0 else y := by
  rw [List.length_append, List.length_singleton] at hj
  by_cases h : j < todo.length
  · rw [if_pos h]
    simp [List.getD_eq_getElem?_getD, List.getElem?_append_left h]
  · have : j = todo.length := by omega
    subst this
    rw [if_neg h]
    simp
theorem snoc_cell {todo : List Nat} {y j : Nat} (hj : j < todo.length + 1) : (nums .i64 (todo.map fun (x : Nat) => (x : Int)) ++ [Value.int .i64 (y : Int)])[j]? = some (.int .i64 (((todo ++ [y]).getD j 0 : Nat) : Int)) := by
  have e : nums .i64 (todo.map fun (x : Nat) => (x : Int)) ++ [Value.int .i64 (y : Int)] = (todo ++ [y]).map (fun (x : Nat) => Value.int .i64 (x : Int)) := by simp [nums]
  have hj' : j < (todo ++ [y]).length := by simpa using hj
  rw [e, List.getElem?_map, List.getD_eq_getElem?_getD, List.getElem?_eq_getElem hj']
  rfl
/-- A number more, in a new row. -/
theorem LHp.grow {lo Bo B5 B6 n y : Nat} {o : List Int} {todo : List Nat} {V V' : World} {v : Value} (h : LHp lo V Bo B5 B6 n o todo) (hlo : lo ≤ V.heap.size) (hv : V'.ownsRow V.heap.size 3 1 v (todo.length + 1) (nums .i64 (todo.map fun (x : Nat) => (x : Int)) ++ [.int .i64 (y : Int)])) (hg : V.grownBy V' none) :
    LHp lo (V'.setCell ⟨B6, 0, none⟩ v) Bo B5 B6 n o (todo ++ [y]) := by
  have hk : ∀ (k : Nat) (cs : Array Value) (t : TypeId), V.heap[k]? = some (.cells cs t (0, 0)) → V'.heap[k]? = some (.cells cs t (0, 0)) := fun k cs t h => (hg.block k (blk_lt h) (by simp)).trans h
  obtain ⟨hlen, ⟨_, h0⟩ | ⟨B, cap, cur, rfl, hB, hcell, hcap, hmax, hsz, htake⟩⟩ := hv
  · omega
  · obtain ⟨tb, to_, tc, C, h1, h2, h3⟩ := h.six
    have hbo : B ≠ Bo := by have := blk_lt h.row; omega
    have hb6 : B ≠ B6 := by have := blk_lt h1; omega
    have h56 := h.fs
    refine ⟨blk_far (hk _ _ _ h.row) (blk_ne h.row h1 (by decide)) _, blk_far (hk _ _ _ h.five) h56 _, ⟨B, 0, cap, cur, ?_, blk_far hcell hb6 _, by omega, by simpa using hcap, ?_, hbo, by omega⟩, h56⟩
    · have := blk_set (hk _ _ _ h1) 0 (.slice (some ⟨B, 0, none⟩) (todo.length + 1) cap)
      simpa using this
    · intro j hj
      have hj' : j < todo.length + 1 := by simpa using hj
      rw [← snoc_cell hj', ← htake, Nat.mul_one, List.getElem?_take, if_pos hj', Nat.zero_add, Array.getElem?_toList]
/-- A number more, in the room there is. -/
theorem LHp.room {lo Bo B5 B6 n y tb to_ tc : Nat} {C : Array Value} {o : List Int} {todo : List Nat} {V : World} (h : LHp lo V Bo B5 B6 n o todo) (ht : TD lo V Bo B6 todo tb to_ tc C) (hr : todo.length + 1 ≤ tc) :
    LHp lo ((V.setCells tb (to_ + todo.length * 1) [.int .i64 (y : Int)]).setCell ⟨B6, 0, none⟩ (.slice (some ⟨tb, to_, none⟩) (todo.length + 1) tc)) Bo B5 B6 n o (todo ++ [y]) := by
  obtain ⟨h1, h2, h3, h4, h5, h6, h7⟩ := ht
  have e : V.setCells tb (to_ + todo.length * 1) [.int .i64 (y : Int)] = V.setCell ⟨tb, to_ + todo.length, none⟩ (.int .i64 (y : Int)) := by simp [World.setCells]
  rw [e]
  have k5 := blk_far h.five (p := ⟨tb, to_ + todo.length, none⟩) (blk_ne h.five h2 (by decide)) (.int .i64 (y : Int))
  have k6 := blk_far h1 (p := ⟨tb, to_ + todo.length, none⟩) (blk_ne h1 h2 (by decide)) (.int .i64 (y : Int))
  have kr := blk_far h.row (p := ⟨tb, to_ + todo.length, none⟩) (Ne.symm h6) (.int .i64 (y : Int))
  have kt := blk_set h2 (to_ + todo.length) (.int .i64 (y : Int))
  refine ⟨blk_far kr (blk_ne kr k6 (by decide)) _, blk_far k5 h.fs _, ⟨tb, to_, tc, _, ?_, blk_far kt (blk_ne kt k6 (by decide)) _, by simpa using h3, by simpa using hr, ?_, h6, h7⟩, h.fs⟩
  · have := blk_set k6 0 (.slice (some ⟨tb, to_, none⟩) (todo.length + 1) tc)
    simpa using this
  · intro j hj
    have hj' : j < todo.length + 1 := by simpa using hj
    rw [getD_snoc hj, Array.getElem?_setIfInBounds]
    by_cases e : j < todo.length
    · rw [if_neg (by omega), if_pos e]
      exact h5 j e
    · rw [if_pos (by omega), if_neg e, if_pos (by omega)]
/-- The first one gone. -/
theorem LHp.pop {lo Bo B5 B6 n t tb to_ tc to' : Nat} {C : Array Value} {o : List Int} {rest : List Nat} {V : World} (h : LHp lo V Bo B5 B6 n o (t :: rest)) (ht : TD lo V Bo B6 (t :: rest) tb to_ tc C) (x : Value) (hto : to' = to_ + 1 ∨ (tc = 1 ∧ to' = to_)) :
    LHp lo ((V.alloc (.cells #[x] 37)).setCell ⟨V.heap.size, 0, none⟩ (.slice (some ⟨tb, to', none⟩) rest.length (tc - 1))) Bo B5 V.heap.size n o rest := by
  obtain ⟨h1, h2, h3, h4, h5, h6, h7⟩ := ht
  rw [List.length_cons] at h4 h5
  have kn := blk_new V (.cells #[x] 37)
  refine ⟨blk_far (blk_alloc h.row _) (by have := blk_lt h.row; show Bo ≠ V.heap.size; omega) _, blk_far (blk_alloc h.five _) (by have := blk_lt h.five; show B5 ≠ V.heap.size; omega) _, ⟨tb, to', tc - 1, C, ?_, blk_far (blk_alloc h2 _) (by have := blk_lt h2; show tb ≠ V.heap.size; omega) _, by omega, by omega, ?_, h6, h7⟩, by have := blk_lt h.five; omega⟩
  · have := blk_set kn 0 (.slice (some ⟨tb, to', none⟩) rest.length (tc - 1))
    simpa using this
  · intro j hj
    have e : to' = to_ + 1 := by omega
    have := h5 (j + 1) (by omega)
    rw [e, show to_ + 1 + j = to_ + (j + 1) by omega, this]
    simp [List.getD_eq_getElem?_getD]
end Go.Proofs.Ytbldlmolbdkabaa.HP
