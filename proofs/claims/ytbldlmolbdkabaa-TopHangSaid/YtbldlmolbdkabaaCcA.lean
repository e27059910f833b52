/-
What hangs together: plain; graph's join and Joined over the translation.
-/
import Derived.Test.YtbldlmolbdkabaaCbA
set_option linter.unusedVariables false
set_option linter.unusedSimpArgs false
namespace Go.Proofs.Ytbldlmolbdkabaa.HP
open Go.RowKit Go.Proofs.YtbldlmolbdkabaaW.PrintWords Go.Proofs.YtbldlmolbdkabaaW.PrintLast Go.Proofs.YtbldlmolbdkabaaW.PrintMore
/-! ### plain -/
/-- An edge lies between two nodes, whichever way. -/
def AdjG (es : List EdgeP) (x y : Nat) : Prop := ∃ p ∈ es, (p.1 = (x : Int) ∧ p.2 = (y : Int)) ∨ (p.2 = (x : Int) ∧ p.1 = (y : Int))
theorem AdjG.symm {es : List EdgeP} {x y : Nat} (h : AdjG es x y) : AdjG es y x := by
  obtain ⟨p, hp, h | h⟩ := h
  · exact ⟨p, hp, .inr ⟨h.2, h.1⟩⟩
  · exact ⟨p, hp, .inl ⟨h.2, h.1⟩⟩
inductive Conn (es : List EdgeP) : Nat → Nat → Prop
  | refl (x : Nat) : Conn es x x
  | step {x y z : Nat} : Conn es x y → AdjG es y z → Conn es x z
theorem Conn.trans {es : List EdgeP} {x y z : Nat} (h : Conn es x y) (k : Conn es y z) : Conn es x z := by
  induction k with
  | refl => exact h
  | step _ e ih => exact .step ih e
theorem Conn.symm {es : List EdgeP} {x y : Nat} (h : Conn es x y) : Conn es y x := by
  induction h with
  | refl => exact .refl _
  | step _ e ih => exact (Conn.step (.refl _) e.symm).trans ih
/-- The label of a node. -/
def lb (o : List Int) (x : Nat) : Int := o.getD x 0
theorem lb_set (o : List Int) {v : Nat} (hv : v < o.length) (a : Int) (x : Nat) : lb (o.set v a) x = if x = v then a else lb o x := by
  unfold lb
  rw [List.getD_eq_getElem?_getD, List.getD_eq_getElem?_getD, List.getElem?_set]
  by_cases h : x = v
  · subst h; simp [hv]
  · have : ¬ v = x := fun e => h e.symm
    simp [h, this]
/-- How many have no label. -/
def bare (n : Nat) (o : List Int) : Nat := ((List.range n).filter (fun x => decide (lb o x = -1))).length
theorem filter_lt {α : Type} (p q : α → Bool) : ∀ (l : List α), (∀ x ∈ l, p x = true → q x = true) → (∃ x ∈ l, q x = true ∧ p x = false) → (l.filter p).length < (l.filter q).length
  | [], _, h => by obtain ⟨x, hx, _⟩ := h; simp at hx
  | a :: r, h1, h2 => by
    have hle : ∀ (l : List α), (∀ x ∈ l, p x = true → q x = true) → (l.filter p).length ≤ (l.filter q).length := by
      intro l
      induction l with
      | nil => intro _; exact Nat.le_refl _
      | cons b s ih =>
        intro h
        have := ih (fun x hx => h x (List.mem_cons_of_mem _ hx))
        have hb := h b List.mem_cons_self
        rw [List.filter_cons, List.filter_cons]
        cases hpb : p b with
        | true => rw [hb hpb]; simp; exact this
        | false =>
          cases hqb : q b with
          | true => simp; omega
          | false => simpa using this
    rw [List.filter_cons, List.filter_cons]
    obtain ⟨x, hx, hq, hp⟩ := h2
    have hr := fun y hy => h1 y (List.mem_cons_of_mem _ hy)
    rcases List.mem_cons.1 hx with rfl | hx
    · rw [hq, hp]
      have := hle r hr
      simp
      omega
    · have ih := filter_lt p q r hr ⟨x, hx, hq, hp⟩
      have ha := h1 a List.mem_cons_self
      cases hpa : p a with
      | true => rw [ha hpa]; simp; exact ih
      | false =>
        cases hqa : q a with
        | true => simp; omega
        | false => simpa using ih
theorem bare_lt {n : Nat} {o o' : List Int} (h : ∀ x, x < n → lb o' x = -1 → lb o x = -1) {v : Nat} (hv : v < n) (h1 : lb o v = -1) (h2 : lb o' v ≠ -1) : bare n o' < bare n o := by
  unfold bare
  refine filter_lt _ _ _ (fun x hx hp => ?_) ⟨v, List.mem_range.2 hv, decide_eq_true h1, decide_eq_false h2⟩
  exact decide_eq_true (h x (List.mem_range.1 hx) (of_decide_eq_true hp))
theorem bare_le (n : Nat) (o : List Int) : bare n o ≤ n := by
  unfold bare
  exact Nat.le_trans (List.length_filter_le _ _) (by simp)
/-- What a call of join leaves. -/
structure JoinRel (n : Nat) (es : List EdgeP) (o o' : List Int) (v : Nat) (a : Int) : Prop where
  len : o'.length = o.length
  keep : ∀ x, x < n → lb o x ≠ -1 → lb o' x = lb o x
  new : ∀ x, x < n → lb o x = -1 → lb o' x ≠ -1 → lb o' x = a ∧ Conn es v x
  at_ : lb o' v ≠ -1
  clos : ∀ x, x < n → lb o x = -1 → lb o' x ≠ -1 → ∀ y, y < n → AdjG es x y → lb o' y ≠ -1
theorem JoinRel.same {n : Nat} {es : List EdgeP} {o : List Int} {v : Nat} {a : Int} (h : lb o v ≠ -1) : JoinRel n es o o v a :=
  ⟨rfl, fun _ _ _ => rfl, fun _ _ h1 h2 => absurd h1 h2, h, fun _ _ h1 h2 => absurd h1 h2⟩
/-- While a node's edges are gone through. -/
structure JMid (n : Nat) (es : List EdgeP) (o oj : List Int) (v : Nat) (a : Int) : Prop where
  len : oj.length = o.length
  keep : ∀ x, x < n → lb o x ≠ -1 → lb oj x = lb o x
  new : ∀ x, x < n → lb o x = -1 → lb oj x ≠ -1 → lb oj x = a ∧ Conn es v x
  at_ : lb oj v ≠ -1
  clos : ∀ x, x < n → x ≠ v → lb o x = -1 → lb oj x ≠ -1 → ∀ y, y < n → AdjG es x y → lb oj y ≠ -1
theorem JMid.start {n : Nat} {es : List EdgeP} {o : List Int} {v : Nat} {a : Int} (hv : v < n) (ho : o.length = n) (h : lb o v = -1) (ha : a ≠ -1) : JMid n es o (o.set v a) v a := by
  have hs := lb_set o (v := v) (by omega) a
  refine ⟨by rw [List.length_set], fun x hx hne => ?_, fun x hx h1 h2 => ?_, by rw [hs, if_pos rfl]; exact ha, fun x hx hne h1 h2 => ?_⟩
  · rw [hs, if_neg (fun e => hne (by rw [e]; exact h))]
  · rw [hs] at h2 ⊢
    by_cases e : x = v
    · subst e; rw [if_pos rfl]; exact ⟨rfl, .refl _⟩
    · rw [if_neg e] at h2; exact absurd h1 h2
  · rw [hs, if_neg hne] at h2
    exact absurd h1 h2
theorem JMid.fewer {n : Nat} {es : List EdgeP} {o oj : List Int} {v : Nat} {a : Int} (h : JMid n es o oj v a) (hv : v < n) (h1 : lb o v = -1) : bare n oj < bare n o := by
  refine bare_lt (fun x hx hb => ?_) hv h1 h.at_
  by_cases e : lb o x = -1
  · exact e
  · rw [h.keep x hx e] at hb; exact hb
theorem JMid.join {n : Nat} {es : List EdgeP} {o oj ok : List Int} {v b : Nat} {a : Int} (h : JMid n es o oj v a) (hv : v < n) (hb : AdjG es v b) (k : JoinRel n es oj ok b a) : JMid n es o ok v a := by
  refine ⟨k.len.trans h.len, fun x hx hne => ?_, fun x hx h1 h2 => ?_, by rw [k.keep v hv h.at_]; exact h.at_, fun x hx hxv h1 h2 y hy hxy => ?_⟩
  · have e := h.keep x hx hne
    rw [k.keep x hx (by rw [e]; exact hne), e]
  · by_cases e : lb oj x = -1
    · obtain ⟨e1, e2⟩ := k.new x hx e h2
      exact ⟨e1, (Conn.step (.refl _) hb).trans e2⟩
    · rw [k.keep x hx e]
      exact h.new x hx h1 e
  · by_cases e : lb oj x = -1
    · exact k.clos x hx e h2 y hy hxy
    · have := h.clos x hx hxv h1 e y hy hxy
      rw [k.keep y hy this]
      exact this
theorem JMid.ends {n : Nat} {es : List EdgeP} {o oj : List Int} {v : Nat} {a : Int} (h : JMid n es o oj v a) (h1 : lb o v = -1) (hd1 : ∀ (q : Nat) (p : EdgeP), es[q]? = some p → p.1 = (v : Int) → ∀ y : Nat, p.2 = (y : Int) → lb oj y ≠ -1) (hd2 : ∀ (q : Nat) (p : EdgeP), es[q]? = some p → p.2 = (v : Int) → ∀ y : Nat, p.1 = (y : Int) → lb oj y ≠ -1) : JoinRel n es o oj v a := by
  refine ⟨h.len, h.keep, h.new, h.at_, fun x hx e1 e2 y hy hxy => ?_⟩
  by_cases e : x = v
  · subst e
    obtain ⟨p, hp, ⟨a1, a2⟩ | ⟨a1, a2⟩⟩ := hxy
    · obtain ⟨q, hq⟩ := List.mem_iff_getElem?.1 hp
      exact hd1 q p hq a1 y a2
    · obtain ⟨q, hq⟩ := List.mem_iff_getElem?.1 hp
      exact hd2 q p hq a1 y a2
  · exact h.clos x hx e e1 e2 y hy hxy
/-- When the first v nodes have been joined. -/
structure JInv (n : Nat) (es : List EdgeP) (o : List Int) (v : Nat) : Prop where
  len : o.length = n
  root : ∀ x, x < n → lb o x ≠ -1 → ∃ r : Nat, lb o x = (r : Int) ∧ Conn es r x
  clos : ∀ x y, x < n → y < n → lb o x ≠ -1 → AdjG es x y → lb o y = lb o x
  done : ∀ x, x < v → lb o x ≠ -1
theorem JInv.start (n : Nat) (es : List EdgeP) : JInv n es (List.replicate n (-1)) 0 := by
  have h : ∀ x, x < n → lb (List.replicate n (-1)) x = -1 := fun x hx => by
    unfold lb
    rw [List.getD_eq_getElem?_getD, List.getElem?_replicate, if_pos hx]
    rfl
  exact ⟨by simp, fun x hx hne => absurd (h x hx) hne, fun x y hx _ hne => absurd (h x hx) hne, fun x hx => by omega⟩
theorem JInv.next {n : Nat} {es : List EdgeP} {o o' : List Int} {v : Nat} (h : JInv n es o v) (hv : v < n) (k : JoinRel n es o o' v (v : Int)) : JInv n es o' (v + 1) := by
  have hold : ∀ x, x < n → lb o x ≠ -1 → lb o' x ≠ -1 := fun x hx hne => by rw [k.keep x hx hne]; exact hne
  refine ⟨k.len.trans h.len, fun x hx hne => ?_, fun x y hx hy hne hxy => ?_, fun x hx => ?_⟩
  · by_cases e : lb o x = -1
    · obtain ⟨e1, e2⟩ := k.new x hx e hne
      exact ⟨v, e1, e2⟩
    · rw [k.keep x hx e]
      exact h.root x hx e
  · by_cases e : lb o x = -1
    · have hy1 := k.clos x hx e hne y hy hxy
      by_cases e2 : lb o y = -1
      · rw [(k.new y hy e2 hy1).1, (k.new x hx e hne).1]
      · have := h.clos y x hy hx e2 hxy.symm
        rw [e] at this
        exact absurd this.symm e2
    · have h1 := h.clos x y hx hy e hxy
      rw [k.keep y hy (by rw [h1]; exact e), k.keep x hx e, h1]
  · by_cases e : x = v
    · subst e; exact k.at_
    · exact hold x (by omega) (h.done x (by omega))
/-- Two nodes have one label just if they hang together. -/
theorem JInv.labels {n : Nat} {es : List EdgeP} {o : List Int} (h : JInv n es o n) (hes : ∀ p ∈ es, (0 ≤ p.1 ∧ p.1 < (n : Int)) ∧ (0 ≤ p.2 ∧ p.2 < (n : Int))) {x y : Nat} (hx : x < n) (hy : y < n) : lb o x = lb o y ↔ Conn es x y := by
  constructor
  · intro he
    obtain ⟨r, h1, h2⟩ := h.root x hx (h.done x hx)
    obtain ⟨s, h3, h4⟩ := h.root y hy (h.done y hy)
    have : r = s := by rw [h1, h3] at he; omega
    subst this
    exact h2.symm.trans h4
  · intro hc
    induction hc with
    | refl => rfl
    | @step b c hb hbc ih =>
      have hbn : b < n := by
        obtain ⟨p, hp, ⟨a1, _⟩ | ⟨a1, _⟩⟩ := hbc
        · have := (hes p hp).1; omega
        · have := (hes p hp).2; omega
      rw [ih hbn]
      exact (h.clos b c hbn hy (h.done b hbn) hbc).symm
/-! ### the walks -/
def JoinEnds (w0 : World) (B n : Nat) (es : List EdgeP) (o : List Int) (v : Nat) (a : Int) (e : Ending) (w' : World) : Prop :=
  e = .returned (.tuple #[]) ∧ ∃ o', JoinRel n es o o' v a ∧ w'.ownsRow w0.heap.size 3 1 (.slice (some ⟨B, 0, none⟩) n n) n (nums .i64 o') ∧ Below w0.heap.size w0 w'
def JoinSo (w0 : World) (B n : Nat) (es : List EdgeP) (o : List Int) (v : Nat) (a : Int) (l : List Int) (out : Bool) (j : Nat) (wr : World) : Prop :=
  ∃ oj, JMid n es o oj v a ∧ wr.ownsRow w0.heap.size 3 1 (.slice (some ⟨B, 0, none⟩) n n) n (nums .i64 oj) ∧ Below w0.heap.size w0 wr ∧
    (∀ x ∈ l.take j, ∀ p : EdgeP, es[x.toNat]? = some p → ∀ y : Nat, (if out then p.2 else p.1) = (y : Int) → lb oj y ≠ -1) ∧
    (out = false → ∀ (q : Nat) (p : EdgeP), es[q]? = some p → p.1 = (v : Int) → ∀ y : Nat, p.2 = (y : Int) → lb oj y ≠ -1)
theorem lb_cell {w : World} {base B n : Nat} {o : List Int} (h : w.ownsRow base 3 1 (.slice (some ⟨B, 0, none⟩) n n) n (nums .i64 o)) (hl : o.length = n) {v : Nat} (hv : v < n) : w.cell? ⟨B, v, none⟩ = some (.int .i64 (lb o v)) := by
  rw [h.cellAt v (by omega)]
  unfold lb
  simp [nums, List.getD_eq_getElem?_getD, List.getElem?_eq_getElem (show v < o.length by omega)]
set_option maxHeartbeats 16000000 in
set_option maxRecDepth 100000 in
theorem join_calls (w0 : World) (G B n : Nat) (es : List EdgeP) (hI : IsGraph w0 G n es) (hG : okG (n : Int) es) :
    ∀ (f : Nat) (w : World) (o : List Int) (v a : Nat), bare n o ≤ f → v < n → o.length = n → w.ownsRow w0.heap.size 3 1 (.slice (some ⟨B, 0, none⟩) n n) n (nums .i64 o) → Below w0.heap.size w0 w →
    Calls Try.prog 30 #[.pointer (some ⟨G, 0, none⟩), .int .i64 (v : Int), .int .i64 (a : Int), .slice (some ⟨B, 0, none⟩) n n] w fun e w' => JoinEnds w0 B n es o v (a : Int) e w' := by
  have HI := Lib.hid hI
  have HG := Lib.hid hG
  have hn12 : n ≤ 12 := by have := hG.1; omega
  have h30 : es.length ≤ 30 := hG.2.1
  clear hI hG
  intro f
  induction f with
  | zero =>
    intro w o v a hf hv hl hO hB
    have hov : lb o v ≠ -1 := by
      intro e
      have : 0 < bare n o := by
        unfold bare
        exact List.length_pos_iff.2 (List.ne_nil_of_mem (List.mem_filter.2 ⟨List.mem_range.2 hv, decide_eq_true e⟩))
      omega
    have c0 := lb_cell hO hl hv
    obtain ⟨y, hy⟩ : ∃ y, y = lb o v := ⟨_, rfl⟩
    rw [← hy] at c0
    have b1 : (y != -1) = true := by rw [hy]; simpa using hov
    have z1 : (v : Int) < (n : Int) := by omega
    have z0 : (0 : Int) ≤ (v : Int) := by omega
    have HF : Hid (JoinRel n es o o v (a : Int) ∧ w.ownsRow w0.heap.size 3 1 (.slice (some ⟨B, 0, none⟩) n n) n (nums .i64 o) ∧ Below w0.heap.size w0 w) := ⟨JoinRel.same hov, hO, hB⟩
    clear hov hO hB hf hy
    go_enter Try.func30, Try.ntmps30
    go_wp2
    refine bodyPost_ret (results_none rfl _ _ _) rfl ?_
    exact ⟨rfl, o, HF.out⟩
  | succ f ih =>
    intro w o v a hf hv hl hO hB
    have IH := Lib.hid ih
    have c0 := lb_cell hO hl hv
    obtain ⟨y, hy⟩ : ∃ y, y = lb o v := ⟨_, rfl⟩
    rw [← hy] at c0
    have z1 : (v : Int) < (n : Int) := by omega
    have z0 : (0 : Int) ≤ (v : Int) := by omega
    by_cases hov : lb o v = -1
    · have b1 : (y != -1) = false := by rw [hy, hov]; rfl
      have f0 : w.frozen? ⟨B, v, none⟩ = false := hO.frozenAt _
      have hst := own_store hO (v : Int) (a : Int)
      rw [Int.toNat_natCast] at hst
      obtain ⟨w1, hw1⟩ : ∃ w1, w1 = w.setCell ⟨B, v, none⟩ (.int .i64 (a : Int)) := ⟨_, rfl⟩
      rw [← hw1] at hst
      have hb1 : Below w0.heap.size w0 w1 := by rw [hw1]; exact hB.setCell (p := ⟨B, v, none⟩) (own_base hO B rfl) _
      obtain ⟨AE, cE, Ob, Ib, M, i1, i2, i3, i4⟩ := HI.out
      obtain ⟨B1, c1, d1, _, e1⟩ := i3.2 v hv
      obtain ⟨B2, c2, d2, _, e2⟩ := i4.2 v hv
      dsimp only at d1 e1 d2 e2
      obtain ⟨l1, hl1⟩ : ∃ l1, l1 = pick (fromB es v) es.length := ⟨_, rfl⟩
      obtain ⟨l2, hl2⟩ : ∃ l2, l2 = pick (toB es v) es.length := ⟨_, rfl⟩
      rw [← hl1] at d1 e1
      rw [← hl2] at d2 e2
      have hl1l : l1.length ≤ 1000 := by rw [hl1]; exact Nat.le_trans (pick_len _ _) (by omega)
      have hl2l : l2.length ≤ 1000 := by rw [hl2]; exact Nat.le_trans (pick_len _ _) (by omega)
      have HRD : Hid (∀ wr, Below w0.heap.size w0 wr → wr.cell? ⟨G, 0, none⟩ = some (.slice AE es.length cE) ∧ wr.cell? ⟨G, 1, none⟩ = some (.slice (some ⟨Ob, 0, none⟩) n n) ∧ wr.cell? ⟨G, 2, none⟩ = some (.slice (some ⟨Ib, 0, none⟩) n n) ∧ wr.cell? ⟨Ob, v, none⟩ = some (.slice B1 l1.length c1) ∧ wr.cell? ⟨Ib, v, none⟩ = some (.slice B2 l2.length c2)) := fun wr hb =>
        ⟨by rw [blk_cell (blk_below i1 hb)]; rfl, by rw [blk_cell (blk_below i1 hb)]; rfl, by rw [blk_cell (blk_below i1 hb)]; rfl, by rw [hb.cell (p := ⟨Ob, v, none⟩) i3.1]; exact d1, by rw [hb.cell (p := ⟨Ib, v, none⟩) i4.1]; exact d2⟩
      have HE1 := Lib.hid e1
      have HE2 := Lib.hid e2
      have HER := Lib.hid i2
      have HL1 := Lib.hid hl1
      have HL2 := Lib.hid hl2
      have hmid := JMid.start (es := es) (a := (a : Int)) hv hl hov (by omega)
      have HMID := Lib.hid hmid
      have HST := Lib.hid hst.1
      have HB1 := Lib.hid hb1
      have HOV := Lib.hid hov
      have HW1 := Lib.hid hw1
      have HF := Lib.hid hf
      have HL := Lib.hid hl
      obtain ⟨r0, r1, r2, r3, r4⟩ := HRD.out w1 hb1
      clear hst hb1 i1 i2 i3 i4 d1 e1 d2 e2 hl1 hl2 hmid hov hw1 hO hB hf hl ih hy r0 r2 r4
      go_enter Try.func30, Try.ntmps30
      go_upto_region 2 with (fail)
      rw [← HW1.out]
      clear c0 f0
      go_wp2_with (fail)
      go_loopw [29] (fun x wr => ∃ j : Nat, x = .int .i64 (j : Int) ∧ j ≤ l1.length ∧ Hid (JoinSo w0 B n es o v (a : Int) l1 true j wr)) (fun x _ => l1.length - (intOf x).toNat)
      case atStart => exact ⟨0, rfl, Nat.zero_le _, _, HMID.out, HST.out, HB1.out, fun x hx => by simp at hx, fun h => by cases h⟩
      case round =>
        clear HMID HST HB1 HW1
        obtain ⟨j, rfl, hj, hR⟩ := hrel
        obtain ⟨oj, hJ, hO, hB, hD, _⟩ := hR.out
        obtain ⟨r0, r1, r2, r3, r4⟩ := HRD.out wr hB
        by_cases hlt : j < l1.length
        · obtain ⟨g, og, hA, _, d0⟩ := (HE1.out.below hB) j hlt
          subst hA
          have hmem : l1.getD j 0 ∈ l1 := by rw [List.getD_eq_getElem?_getD, List.getElem?_eq_getElem hlt]; exact List.getElem_mem hlt
          obtain ⟨q, hq, hqm, hqf⟩ := mem_pick (by rw [← HL1.out]; exact hmem)
          have hjq : l1[j]? = some (q : Int) := by rw [List.getD_eq_getElem?_getD, List.getElem?_eq_getElem hlt] at hq; rw [List.getElem?_eq_getElem hlt]; exact congrArg some hq
          rw [hq] at d0
          obtain ⟨p, hp⟩ : ∃ p, es[q]? = some p := ⟨_, List.getElem?_eq_getElem hqm⟩
          have hpin := HG.out.2.2 p (List.mem_of_getElem? hp)
          have hpv : p.1 = (v : Int) := by
            unfold fromB at hqf
            have h1 : es.getD q noEdge = p := by rw [List.getD_eq_getElem?_getD, hp]; rfl
            rw [h1] at hqf
            exact of_decide_eq_true hqf
          obtain ⟨g3, o3, hA3, _, x0, x1⟩ := (HER.out.below hB) q p hp
          subst hA3
          obtain ⟨p1, p2⟩ := p
          dsimp only at hpin hpv x0 x1
          subst hpv
          obtain ⟨b, rfl⟩ : ∃ b : Nat, p2 = (b : Int) := ⟨p2.toNat, by omega⟩
          have hbn : b < n := by omega
          have hadj : AdjG es v b := ⟨_, List.mem_of_getElem? hp, .inl ⟨rfl, rfl⟩⟩
          have hfew := hJ.fewer hv HOV.out
          have HCALL := Lib.hid (IH.out wr oj b a (by have := HF.out; omega) hbn (hJ.len.trans HL.out) hO hB)
          have HJ := Lib.hid hJ
          have HADJ := Lib.hid hadj
          have HD := Lib.hid hD
          have HP := Lib.hid hp
          have HJQ := Lib.hid hjq
          have qd : decide ((j : Int) < (l1.length : Int)) = true := decide_eq_true (by omega)
          have y1 : (j : Int) < (l1.length : Int) := by omega
          have y0 : (0 : Int) ≤ (j : Int) := by omega
          have u1 : (q : Int) < (es.length : Int) := by omega
          have u0 : (0 : Int) ≤ (q : Int) := by omega
          have hw : IntKind.i64.wrap ((j : Int) + 1) = ((j + 1 : Nat) : Int) := by rw [IntWalk.i64_in _ (by omega)]; omega
          clear hJ hO hB hD hR hmem hq hqf hp hpin hadj hfew hjq r1 r2 r3 r4
          go_wp2_with (fail)
          refine HCALL.out.mono ?_
          rintro e w2 ⟨rfl, ok, hk, hO2, hB2⟩
          have HN : Hid (JoinSo w0 B n es o v (a : Int) l1 true (j + 1) w2) := by
            refine ⟨ok, HJ.out.join hv HADJ.out hk, hO2, hB2, fun x hx p hp y hy => ?_, fun h => by cases h⟩
            rw [List.take_add_one, HJQ.out] at hx
            rcases List.mem_append.1 hx with hx | hx
            · have h1 := HD.out x hx p hp y hy
              have hyn : y < n := by have := (HG.out.2.2 p (List.mem_of_getElem? hp)).2; simp at hy; omega
              rw [hk.keep y hyn h1]
              exact h1
            · have hxq : x = (q : Int) := by simpa using hx
              subst hxq
              rw [Int.toNat_natCast, HP.out] at hp
              injection hp with hp
              subst hp
              have hyb : y = b := by simp at hy; omega
              subst hyb
              exact hk.at_
          clear hk hO2 hB2 HCALL
          go_wp2
          go_roundw
          case measure => simp [intOf]; omega
          case rel => exact ⟨j + 1, by first | rfl | (rw [hw]) | simp, by omega, HN⟩
        · obtain rfl : j = l1.length := by omega
          have qd : decide ((l1.length : Int) < (l1.length : Int)) = false := decide_eq_false (by omega)
          have hd1 : ∀ (q : Nat) (p : EdgeP), es[q]? = some p → p.1 = (v : Int) → ∀ y : Nat, p.2 = (y : Int) → lb oj y ≠ -1 := fun q p hq hpv y hy => by
            refine hD (q : Int) ?_ p (by rw [Int.toNat_natCast]; exact hq) y (by simpa using hy)
            rw [List.take_length, HL1.out]
            refine pick_mem (List.getElem?_eq_some_iff.1 hq).1 ?_
            unfold fromB
            rw [List.getD_eq_getElem?_getD, hq]
            exact decide_eq_true hpv
          have HS0 : Hid (JoinSo w0 B n es o v (a : Int) l2 false 0 wr) := ⟨oj, hJ, hO, hB, fun x hx => by simp at hx, fun _ => hd1⟩
          clear hJ hO hB hD hR hd1 r0 r1 r3
          go_wp2_with (fail)
          go_loopw [54] (fun x wr => ∃ j : Nat, x = .int .i64 (j : Int) ∧ j ≤ l2.length ∧ Hid (JoinSo w0 B n es o v (a : Int) l2 false j wr)) (fun x _ => l2.length - (intOf x).toNat)
          case atStart => exact ⟨0, rfl, Nat.zero_le _, HS0.out⟩
          case round =>
            clear HS0
            obtain ⟨j, rfl, hj, hR⟩ := hrel
            obtain ⟨oj, hJ, hO, hB, hD, hD1⟩ := hR.out
            obtain ⟨r0, r1, r2, r3, r4⟩ := HRD.out wr hB
            by_cases hlt : j < l2.length
            · obtain ⟨g, og, hA, _, d0⟩ := (HE2.out.below hB) j hlt
              subst hA
              have hmem : l2.getD j 0 ∈ l2 := by rw [List.getD_eq_getElem?_getD, List.getElem?_eq_getElem hlt]; exact List.getElem_mem hlt
              obtain ⟨q, hq, hqm, hqf⟩ := mem_pick (by rw [← HL2.out]; exact hmem)
              have hjq : l2[j]? = some (q : Int) := by rw [List.getD_eq_getElem?_getD, List.getElem?_eq_getElem hlt] at hq; rw [List.getElem?_eq_getElem hlt]; exact congrArg some hq
              rw [hq] at d0
              obtain ⟨p, hp⟩ : ∃ p, es[q]? = some p := ⟨_, List.getElem?_eq_getElem hqm⟩
              have hpin := HG.out.2.2 p (List.mem_of_getElem? hp)
              have hpv : p.2 = (v : Int) := by
                unfold toB at hqf
                have h1 : es.getD q noEdge = p := by rw [List.getD_eq_getElem?_getD, hp]; rfl
                rw [h1] at hqf
                exact of_decide_eq_true hqf
              obtain ⟨g3, o3, hA3, _, x0, x1⟩ := (HER.out.below hB) q p hp
              subst hA3
              obtain ⟨p1, p2⟩ := p
              dsimp only at hpin hpv x0 x1
              subst hpv
              obtain ⟨b, rfl⟩ : ∃ b : Nat, p1 = (b : Int) := ⟨p1.toNat, by omega⟩
              have hbn : b < n := by omega
              have hadj : AdjG es v b := ⟨_, List.mem_of_getElem? hp, .inr ⟨rfl, rfl⟩⟩
              have hfew := hJ.fewer hv HOV.out
              have HCALL := Lib.hid (IH.out wr oj b a (by have := HF.out; omega) hbn (hJ.len.trans HL.out) hO hB)
              have HJ := Lib.hid hJ
              have HADJ := Lib.hid hadj
              have HD := Lib.hid hD
              have HD1 := Lib.hid hD1
              have HP := Lib.hid hp
              have HJQ := Lib.hid hjq
              have qd : decide ((j : Int) < (l2.length : Int)) = true := decide_eq_true (by omega)
              have y1 : (j : Int) < (l2.length : Int) := by omega
              have y0 : (0 : Int) ≤ (j : Int) := by omega
              have u1 : (q : Int) < (es.length : Int) := by omega
              have u0 : (0 : Int) ≤ (q : Int) := by omega
              have hw : IntKind.i64.wrap ((j : Int) + 1) = ((j + 1 : Nat) : Int) := by rw [IntWalk.i64_in _ (by omega)]; omega
              clear hJ hO hB hD hD1 hR hmem hq hqf hp hpin hadj hfew hjq r1 r2 r3 r4
              go_wp2_with (fail)
              refine HCALL.out.mono ?_
              rintro e w2 ⟨rfl, ok, hk, hO2, hB2⟩
              have HN : Hid (JoinSo w0 B n es o v (a : Int) l2 false (j + 1) w2) := by
                refine ⟨ok, HJ.out.join hv HADJ.out hk, hO2, hB2, fun x hx p hp y hy => ?_, fun _ q' p hp hpv y hy => ?_⟩
                · rw [List.take_add_one, HJQ.out] at hx
                  rcases List.mem_append.1 hx with hx | hx
                  · have h1 := HD.out x hx p hp y hy
                    have hyn : y < n := by have := (HG.out.2.2 p (List.mem_of_getElem? hp)).1; simp at hy; omega
                    rw [hk.keep y hyn h1]
                    exact h1
                  · have hxq : x = (q : Int) := by simpa using hx
                    subst hxq
                    rw [Int.toNat_natCast, HP.out] at hp
                    injection hp with hp
                    subst hp
                    have hyb : y = b := by simp at hy; omega
                    subst hyb
                    exact hk.at_
                · have h1 := HD1.out (by first | rfl | trivial) q' p hp hpv y hy
                  have hyn : y < n := by have := (HG.out.2.2 p (List.mem_of_getElem? hp)).2; omega
                  rw [hk.keep y hyn h1]
                  exact h1
              clear hk hO2 hB2 HCALL
              go_wp2
              go_roundw
              case measure => simp [intOf]; omega
              case rel => exact ⟨j + 1, by first | rfl | (rw [hw]) | simp, by omega, HN⟩
            · obtain rfl : j = l2.length := by omega
              have qd : decide ((l2.length : Int) < (l2.length : Int)) = false := decide_eq_false (by omega)
              have hd2 : ∀ (q : Nat) (p : EdgeP), es[q]? = some p → p.2 = (v : Int) → ∀ y : Nat, p.1 = (y : Int) → lb oj y ≠ -1 := fun q p hq hpv y hy => by
                refine hD (q : Int) ?_ p (by rw [Int.toNat_natCast]; exact hq) y (by simpa using hy)
                rw [List.take_length, HL2.out]
                refine pick_mem (List.getElem?_eq_some_iff.1 hq).1 ?_
                unfold toB
                rw [List.getD_eq_getElem?_getD, hq]
                exact decide_eq_true hpv
              have HFIN : Hid (JoinRel n es o oj v (a : Int) ∧ wr.ownsRow w0.heap.size 3 1 (.slice (some ⟨B, 0, none⟩) n n) n (nums .i64 oj) ∧ Below w0.heap.size w0 wr) := ⟨hJ.ends HOV.out (hD1 rfl) hd2, hO, hB⟩
              clear hJ hO hB hD hD1 hR hd2 r0 r1 r2 r3 r4
              go_wp2
              refine bodyPost_ret (results_none rfl _ _ _) rfl ?_
              exact ⟨rfl, oj, HFIN.out⟩
    · have b1 : (y != -1) = true := by rw [hy]; simpa using hov
      have HF : Hid (JoinRel n es o o v (a : Int) ∧ w.ownsRow w0.heap.size 3 1 (.slice (some ⟨B, 0, none⟩) n n) n (nums .i64 o) ∧ Below w0.heap.size w0 w) := ⟨JoinRel.same hov, hO, hB⟩
      clear hov hO hB hf hy ih
      go_enter Try.func30, Try.ntmps30
      go_wp2
      refine bodyPost_ret (results_none rfl _ _ _) rfl ?_
      exact ⟨rfl, o, HF.out⟩
end Go.Proofs.Ytbldlmolbdkabaa.HP
