/-
Texts joined: TsA, TsB, TsC, TsD, TsE.
-/
import Derived.Test.YtiojfdgagdofiaaP1
import Derived.Test.YtiojfdgagdofiaaLexA
import Derived.Test.YtiojfdgagdofiaaP2
import Derived.Test.YtiojfdgagdofiaaLexE
/-
Forms as plain data: how far places lead, one behind the other; how deep they are; what stands below one.
-/
set_option linter.unusedVariables false
set_option linter.unusedSimpArgs false
namespace Go.Proofs.Ytiojfdgagdofiaa.HP

/-! ### places gone through -/
def goL (N : Nat) (g : Nat → Option Nat) : List Int → Nat → Option Nat
  | [], m => some m
  | p :: r, m => if p = (m : Int) ∧ m < N then (match g m with | none => none | some x => goL N g r x) else none
def subF (N : Nat) (ks : Nat → List Int) : Nat → Nat → Option Nat
  | 0, _ => none
  | f + 1, m => goL N (subF N ks f) (ks m) (m + 1)
theorem goL_ge {N : Nat} {g : Nat → Option Nat} (hg : ∀ m x, g m = some x → m < x) : ∀ (l : List Int) (m x : Nat), goL N g l m = some x → m ≤ x
  | [], m, x, h => by simp [goL] at h; omega
  | p :: r, m, x, h => by
    rw [goL] at h
    split at h
    · cases hm : g m with
      | none => rw [hm] at h; cases h
      | some y =>
        rw [hm] at h
        have h1 := hg m y hm
        have h2 := goL_ge hg r y x h
        omega
    · cases h
theorem subF_gt {N : Nat} {ks : Nat → List Int} : ∀ (f m x : Nat), subF N ks f m = some x → m < x
  | 0, m, x, h => by cases h
  | f + 1, m, x, h => by
    rw [subF] at h
    exact goL_ge (fun a b hab => subF_gt f a b hab) _ _ _ h
theorem goL_le {N : Nat} {g : Nat → Option Nat} (hg : ∀ m x, m < N → g m = some x → x ≤ N) : ∀ (l : List Int) (m x : Nat), m ≤ N → goL N g l m = some x → x ≤ N
  | [], m, x, hm, h => by simp [goL] at h; omega
  | p :: r, m, x, hm, h => by
    rw [goL] at h
    split at h
    · rename_i hp
      cases he : g m with
      | none => rw [he] at h; cases h
      | some y => rw [he] at h; exact goL_le hg r y x (hg m y hp.2 he) h
    · cases h
theorem subF_le {N : Nat} {ks : Nat → List Int} : ∀ (f m x : Nat), m < N → subF N ks f m = some x → x ≤ N
  | 0, m, x, _, h => by cases h
  | f + 1, m, x, hm, h => by
    rw [subF] at h
    exact goL_le (fun a b ha hab => subF_le f a b ha hab) _ _ _ (by omega) h
/-- How far the uppermost ones lead. -/
def goP (N : Nat) (ks : Nat → List Int) (top : List Int) : Option Nat := goL N (subF N ks N) top 0

/-! ### how deep -/
/-- The kids that stand behind a form. -/
def kidsB (N i : Nat) (l : List Int) : List Nat := (l.filter (fun k => decide ((i : Int) < k) && decide (k < (N : Int)))).map Int.toNat
theorem kidsB_mem {N i : Nat} {l : List Int} {k : Nat} (h : k ∈ kidsB N i l) : i < k ∧ k < N := by
  unfold kidsB at h
  obtain ⟨x, hx, rfl⟩ := List.mem_map.1 h
  have := (List.mem_filter.1 hx).2
  simp only [Bool.and_eq_true, decide_eq_true_eq] at this
  omega
theorem kidsB_nil {N i : Nat} (l : List Int) (h : N ≤ i + 1) : kidsB N i l = [] := by
  cases hk : kidsB N i l with
  | nil => rfl
  | cons k r =>
    have := kidsB_mem (N := N) (i := i) (l := l) (k := k) (by rw [hk]; exact List.mem_cons_self)
    omega
theorem kidsB_snoc (N i : Nat) (l : List Int) (k : Nat) (hk : k < l.length) :
    kidsB N i (l.take (k + 1)) = kidsB N i (l.take k) ++ (if (i : Int) < l.getD k 0 ∧ l.getD k 0 < (N : Int) then [(l.getD k 0).toNat] else []) := by
  unfold kidsB
  rw [List.take_succ_eq_append_getElem hk, List.filter_append, List.map_append, List.getD_eq_getElem?_getD, List.getElem?_eq_getElem hk]
  simp only [Option.getD_some]
  by_cases h : (i : Int) < l[k] ∧ l[k] < (N : Int)
  · simp [h.1, h.2]
  · rw [if_neg h]
    have : (decide ((i : Int) < l[k]) && decide (l[k] < (N : Int))) = false := by
      rw [Bool.and_eq_false_iff, decide_eq_false_iff_not, decide_eq_false_iff_not]; omega
    simp [this]
theorem kidsB_len (N i : Nat) (l : List Int) : (kidsB N i l).length ≤ l.length := by
  unfold kidsB
  rw [List.length_map]
  exact List.length_filter_le _ _
def deepNew (N i : Nat) (d : Nat → Nat) (l : List Int) : Nat := min ((kidsB N i l).foldl (fun a k => max a (d k)) 0 + 1) 13
def deepA (N : Nat) (op : Nat → Bool) (ks : Nat → List Int) : Nat → Nat → Nat
  | 0, _ => 0
  | m + 1, j => if j + (m + 1) = N then (if op j then deepNew N j (deepA N op ks m) (ks j) else 0) else deepA N op ks m j
theorem deepA_zero (N : Nat) (op : Nat → Bool) (ks : Nat → List Int) : ∀ (m j : Nat), j + m < N → deepA N op ks m j = 0
  | 0, j, _ => rfl
  | m + 1, j, h => by rw [deepA, if_neg (by omega)]; exact deepA_zero N op ks m j (by omega)
theorem deepA_13 (N : Nat) (op : Nat → Bool) (ks : Nat → List Int) : ∀ (m j : Nat), deepA N op ks m j ≤ 13
  | 0, j => Nat.zero_le _
  | m + 1, j => by
    rw [deepA]
    split
    · split
      · unfold deepNew; omega
      · omega
    · exact deepA_13 N op ks m j
def maxTop (N : Nat) (d : Nat → Nat) (top : List Int) : Nat := (top.filter (fun n => decide (0 ≤ n) && decide (n < (N : Int)))).foldl (fun a n => max a (d n.toNat)) 0
def depthP (N : Nat) (op : Nat → Bool) (ks : Nat → List Int) (top : List Int) : Nat := maxTop N (deepA N op ks N) top
theorem foldl_max_le {α : Type} (d : α → Nat) (b : Nat) : ∀ (l : List α) (a : Nat), a ≤ b → (∀ x ∈ l, d x ≤ b) → l.foldl (fun a k => max a (d k)) a ≤ b
  | [], a, ha, _ => ha
  | x :: r, a, ha, h => by
    rw [List.foldl_cons]
    refine foldl_max_le d b r _ ?_ (fun y hy => h y (List.mem_cons_of_mem _ hy))
    have := h x List.mem_cons_self
    omega
/-! ### what stands below one -/
def belowF (N : Nat) (ks : Nat → List Int) : Nat → Nat → List Nat
  | 0, _ => []
  | f + 1, i => (kidsB N i (ks i)).flatMap (fun k => k :: belowF N ks f k)
theorem flatMap_congr' {α β : Type} {f g : α → List β} : ∀ {l : List α}, (∀ x ∈ l, f x = g x) → l.flatMap f = l.flatMap g
  | [], _ => rfl
  | x :: r, h => by rw [List.flatMap_cons, List.flatMap_cons, h x List.mem_cons_self, flatMap_congr' (fun y hy => h y (List.mem_cons_of_mem _ hy))]
theorem belowF_fuel (N : Nat) (ks : Nat → List Int) : ∀ (f f' i : Nat), N ≤ i + 1 + f → N ≤ i + 1 + f' → belowF N ks f i = belowF N ks f' i
  | 0, 0, i, _, _ => rfl
  | 0, f' + 1, i, h, _ => by rw [belowF, belowF, kidsB_nil _ (by omega)]; rfl
  | f + 1, 0, i, _, h => by rw [belowF, belowF, kidsB_nil _ (by omega)]; rfl
  | f + 1, f' + 1, i, h, h' => by
    rw [belowF, belowF]
    refine flatMap_congr' (fun k hk => ?_)
    have := kidsB_mem hk
    rw [belowF_fuel N ks f f' k (by omega) (by omega)]
def bel (N : Nat) (ks : Nat → List Int) (i : Nat) : List Nat := belowF N ks N i
theorem bel_eq (N : Nat) (ks : Nat → List Int) (i : Nat) : bel N ks i = (kidsB N i (ks i)).flatMap (fun k => k :: bel N ks k) := by
  unfold bel
  rw [belowF_fuel N ks N (N + 1) i (by omega) (by omega), belowF]
/-- A list of places, each with all below it. -/
def pre (N : Nat) (ks : Nat → List Int) (l : List Nat) : List Nat := l.flatMap (fun k => k :: bel N ks k)
theorem pre_append (N : Nat) (ks : Nat → List Int) (l m : List Nat) : pre N ks (l ++ m) = pre N ks l ++ pre N ks m := List.flatMap_append
theorem pre_cons (N : Nat) (ks : Nat → List Int) (k : Nat) (l : List Nat) : pre N ks (k :: l) = k :: (bel N ks k ++ pre N ks l) := by
  unfold pre; rw [List.flatMap_cons]; rfl
theorem pre_len (N : Nat) (ks : Nat → List Int) : ∀ (l : List Nat), l.length ≤ (pre N ks l).length
  | [] => Nat.le_refl _
  | k :: r => by rw [pre_cons, List.length_cons, List.length_cons, List.length_append]; have := pre_len N ks r; omega
theorem bel_pre (N : Nat) (ks : Nat → List Int) (i : Nat) : bel N ks i = pre N ks (kidsB N i (ks i)) := bel_eq N ks i
/-- One round of the document's Below. -/
theorem below_round (N : Nat) (ks : Nat → List Int) (out todo : List Nat) (n : Nat) (R : List Nat) (h : (out ++ pre N ks (n :: todo)).take 401 = R) :
    ((out ++ [n]) ++ pre N ks ((kidsB N n (ks n)).take 400 ++ todo)).take 401 = R := by
  rw [← h, pre_cons, pre_append, bel_pre]
  obtain ⟨K, hK⟩ : ∃ K, K = kidsB N n (ks n) := ⟨_, rfl⟩
  rw [← hK]
  have hs : K = K.take 400 ++ K.drop 400 := (List.take_append_drop 400 K).symm
  by_cases hl : K.length ≤ 400
  · rw [List.take_of_length_le hl]; simp
  · have h4 : 400 ≤ (pre N ks (K.take 400)).length := by
      have := pre_len N ks (K.take 400)
      rw [List.length_take] at this
      omega
    have e1 : out ++ n :: (pre N ks K ++ pre N ks todo) = (out ++ [n] ++ pre N ks (K.take 400)) ++ (pre N ks (K.drop 400) ++ pre N ks todo) := by
      conv => lhs; rw [hs, pre_append]
      simp
    have e2 : out ++ [n] ++ (pre N ks (K.take 400) ++ pre N ks todo) = (out ++ [n] ++ pre N ks (K.take 400)) ++ pre N ks todo := by simp
    have hlen : 401 ≤ (out ++ [n] ++ pre N ks (K.take 400)).length := by
      rw [List.length_append, List.length_append, List.length_singleton]; omega
    rw [e1, e2, List.take_append_of_le_length (l₁ := out ++ [n] ++ pre N ks (K.take 400)) (l₂ := pre N ks todo) hlen, List.take_append_of_le_length (l₁ := out ++ [n] ++ pre N ks (K.take 400)) hlen]
end Go.Proofs.Ytiojfdgagdofiaa.HP
/-
Forests: places, each with all below it, one behind the other, so many brackets deep at most.
-/
set_option linter.unusedVariables false
set_option linter.unusedSimpArgs false
namespace Go.Proofs.Ytiojfdgagdofiaa.HP

/-- Places l, each with all below it, are those from m on, up to m'; d brackets deep at most. -/
inductive Fo (op : Nat → Bool) (ks : Nat → List Int) : Nat → List Int → Nat → Nat → Prop
  | nil (d m : Nat) : Fo op ks d [] m m
  | leaf {d : Nat} {r : List Int} {m m' : Nat} : op m = false → ks m = [] → Fo op ks d r (m + 1) m' → Fo op ks d ((m : Int) :: r) m m'
  | node {d : Nat} {r : List Int} {m x m' : Nat} : op m = true → Fo op ks d (ks m) (m + 1) x → Fo op ks (d + 1) r x m' → Fo op ks (d + 1) ((m : Int) :: r) m m'
variable {op op' : Nat → Bool} {ks ks' : Nat → List Int}
theorem Fo.le {d : Nat} {l : List Int} {m m' : Nat} (h : Fo op ks d l m m') : m ≤ m' := by
  induction h with
  | nil => exact Nat.le_refl _
  | leaf _ _ _ ih => omega
  | node _ _ _ ih1 ih2 => omega
theorem Fo.congr {d : Nat} {l : List Int} {m m' : Nat} (h : Fo op ks d l m m') (hk : ∀ j, m ≤ j → j < m' → op' j = op j ∧ ks' j = ks j) : Fo op' ks' d l m m' := by
  induction h with
  | nil => exact .nil _ _
  | leaf h1 h2 h3 ih =>
    have := h3.le
    refine .leaf ?_ ?_ (ih fun j a b => hk j (by omega) b)
    · rw [(hk _ (Nat.le_refl _) (by omega)).1]; exact h1
    · rw [(hk _ (Nat.le_refl _) (by omega)).2]; exact h2
  | node h1 h2 h3 ih1 ih2 =>
    have a1 := h2.le
    have a2 := h3.le
    refine .node ?_ ?_ (ih2 fun j a b => hk j (by omega) b)
    · rw [(hk _ (Nat.le_refl _) (by omega)).1]; exact h1
    · rw [(hk _ (Nat.le_refl _) (by omega)).2]; exact ih1 fun j a b => hk j (by omega) (by omega)
theorem Fo.append {d : Nat} {l r : List Int} {m x m' : Nat} (h : Fo op ks d l m x) (h2 : Fo op ks d r x m') : Fo op ks d (l ++ r) m m' := by
  induction h with
  | nil => exact h2
  | leaf a b c ih => exact .leaf a b (ih h2)
  | node a b c _ ih => exact .node a b (ih h2)
theorem Fo.mono {d e : Nat} {l : List Int} {m m' : Nat} (h : Fo op ks d l m m') (he : d ≤ e) : Fo op ks e l m m' := by
  induction h generalizing e with
  | nil => exact .nil _ _
  | leaf a b c ih => exact .leaf a b (ih he)
  | node a b c ih1 ih2 =>
    obtain ⟨e', rfl⟩ : ∃ e', e = e' + 1 := ⟨e - 1, by omega⟩
    exact .node a (ih1 (by omega)) (ih2 he)

/-! ### while tokens come: some are open -/
/-- Places l from m on at this level, then, within the last of them, the open ones s; N forms in all. -/
inductive St (op : Nat → Bool) (ks : Nat → List Int) : Nat → List Int → Nat → List Int → Nat → Prop
  | done {d : Nat} {l : List Int} {m N : Nat} : Fo op ks d l m N → St op ks d l m [] N
  | opened {d : Nat} {l : List Int} {m o N : Nat} {s : List Int} : op o = true → Fo op ks (d + 1) l m o → St op ks d (ks o) (o + 1) s N → St op ks (d + 1) (l ++ [(o : Int)]) m ((o : Int) :: s) N
theorem St.fo {d : Nat} {l : List Int} {m N : Nat} (h : St op ks d l m [] N) : Fo op ks d l m N := by
  cases h with
  | done h => exact h
theorem St.le {d : Nat} {l : List Int} {m N : Nat} {s : List Int} (h : St op ks d l m s N) : m ≤ N := by
  induction h with
  | done h => exact h.le
  | opened a b c ih => have := b.le; omega
theorem St.mem {d : Nat} {l : List Int} {m N : Nat} {s : List Int} (h : St op ks d l m s N) : ∀ x ∈ s, ∃ o : Nat, x = (o : Int) ∧ m ≤ o ∧ o < N ∧ op o = true := by
  induction h with
  | done h => intro x hx; simp at hx
  | opened a b c ih =>
    intro x hx
    have h1 := b.le
    have h2 := c.le
    rcases List.mem_cons.1 hx with rfl | hx
    · exact ⟨_, rfl, h1, by omega, a⟩
    · obtain ⟨o, rfl, ho, hN, hop⟩ := ih x hx
      exact ⟨o, rfl, by omega, hN, hop⟩
/-- A leaf, or a bracket that is open, at the uppermost level. -/
theorem St.push_top {d : Nat} {l : List Int} {m N : Nat} (h : St op ks d l m [] N) (hk : ∀ j, j < N → op' j = op j ∧ ks' j = ks j) (hN : ks' N = []) (ho : op' N = false) :
    St op' ks' d (l ++ [(N : Int)]) m [] (N + 1) := by
  cases h with
  | done h => exact .done ((h.congr fun j _ hj => hk j hj).append (.leaf ho hN (.nil _ _)))
theorem St.open_top {d : Nat} {l : List Int} {m N : Nat} (h : St op ks (d + 1) l m [] N) (hk : ∀ j, j < N → op' j = op j ∧ ks' j = ks j) (hN : ks' N = []) (ho : op' N = true) :
    St op' ks' (d + 1) (l ++ [(N : Int)]) m [(N : Int)] (N + 1) := by
  cases h with
  | done h => exact .opened ho (h.congr fun j _ hj => hk j hj) (by rw [hN]; exact .done (.nil _ _))
/-- A leaf within the last open one, o. -/
theorem St.push_in {d : Nat} {l : List Int} {m N : Nat} {s : List Int} (h : St op ks d l m s N) (o : Nat) (hs : s ≠ []) (hl : s.getLast? = some (o : Int)) (hk : ∀ j, j < N → op' j = op j ∧ (j ≠ o → ks' j = ks j)) (hko : ks' o = ks o ++ [(N : Int)]) (hN : ks' N = []) (hop : op' N = false) :
    St op' ks' d l m s (N + 1) := by
  induction h with
  | done h => exact absurd rfl hs
  | @opened d l m o1 N s a b c ih =>
    have h1 := b.le
    have h2 := c.le
    have hmem := c.mem
    cases s with
    | nil =>
      obtain rfl : o1 = o := by simp at hl; omega
      refine .opened (by rw [(hk o1 (by omega)).1]; exact a) (b.congr fun j _ hj => ⟨(hk j (by omega)).1, (hk j (by omega)).2 (by omega)⟩) ?_
      rw [hko]
      have c := c.fo
      exact .done ((c.congr fun j hj hj2 => ⟨(hk j hj2).1, (hk j hj2).2 (by omega)⟩).append (.leaf hop hN (.nil _ _)))
    | cons x r =>
      have hl' : (x :: r).getLast? = some (o : Int) := by rw [← hl]; rfl
      have hoo : o1 < o := by
        have : (o : Int) ∈ x :: r := List.mem_of_getLast? hl'
        obtain ⟨o2, e, h3, _, _⟩ := hmem _ this
        omega
      refine .opened (by rw [(hk o1 (by omega)).1]; exact a) (b.congr fun j _ hj => ⟨(hk j (by omega)).1, (hk j (by omega)).2 (by omega)⟩) ?_
      rw [(hk o1 (by omega)).2 (by omega)]
      exact ih (by simp) hl' hk hko hN hop
theorem St.open_in {d : Nat} {l : List Int} {m N : Nat} {s : List Int} (h : St op ks d l m s N) (o : Nat) (hs : s ≠ []) (hl : s.getLast? = some (o : Int)) (hd : s.length < d) (hk : ∀ j, j < N → op' j = op j ∧ (j ≠ o → ks' j = ks j)) (hko : ks' o = ks o ++ [(N : Int)]) (hN : ks' N = []) (hop : op' N = true) :
    St op' ks' d l m (s ++ [(N : Int)]) (N + 1) := by
  induction h with
  | done h => exact absurd rfl hs
  | @opened d l m o1 N s a b c ih =>
    have h1 := b.le
    have h2 := c.le
    have hmem := c.mem
    cases s with
    | nil =>
      obtain rfl : o1 = o := by simp at hl; omega
      refine .opened (by rw [(hk o1 (by omega)).1]; exact a) (b.congr fun j _ hj => ⟨(hk j (by omega)).1, (hk j (by omega)).2 (by omega)⟩) ?_
      rw [hko]
      obtain ⟨d', rfl⟩ : ∃ d', d = d' + 1 := ⟨d - 1, by simp at hd; omega⟩
      have c := c.fo
      exact .opened hop (c.congr fun j hj hj2 => ⟨(hk j hj2).1, (hk j hj2).2 (by omega)⟩) (by rw [hN]; exact .done (.nil _ _))
    | cons x r =>
      have hl' : (x :: r).getLast? = some (o : Int) := by rw [← hl]; rfl
      have hoo : o1 < o := by
        have : (o : Int) ∈ x :: r := List.mem_of_getLast? hl'
        obtain ⟨o2, e, h3, _, _⟩ := hmem _ this
        omega
      refine .opened (by rw [(hk o1 (by omega)).1]; exact a) (b.congr fun j _ hj => ⟨(hk j (by omega)).1, (hk j (by omega)).2 (by omega)⟩) ?_
      rw [(hk o1 (by omega)).2 (by omega)]
      exact ih (by simp) hl' (by simp at hd ⊢; omega) hk hko hN hop
/-- The last open one is closed. -/
theorem St.close {d : Nat} {l : List Int} {m N : Nat} {s : List Int} (h : St op ks d l m s N) : St op ks d l m s.dropLast N := by
  induction h with
  | done h => exact .done h
  | @opened d l m o N s a b c ih =>
    cases s with
    | nil =>
      have c := c.fo
      exact .done (b.append (.node a c (.nil _ _)))
    | cons x r => exact .opened a b ih

/-! ### what forests have -/
theorem Fo.go {d : Nat} {l : List Int} {m m' N : Nat} (h : Fo op ks d l m m') (hN : m' ≤ N) (f : Nat) (hf : N ≤ m + f) : goL N (subF N ks f) l m = some m' := by
  induction h generalizing f with
  | nil => rfl
  | @leaf d r m m' a b c ih =>
    have h1 := c.le
    rw [goL, if_pos ⟨rfl, by omega⟩]
    obtain ⟨f', rfl⟩ : ∃ f', f = f' + 1 := ⟨f - 1, by omega⟩
    have e : subF N ks (f' + 1) m = some (m + 1) := by rw [subF, b]; rfl
    rw [e]
    exact ih hN (f' + 1) (by omega)
  | @node d r m x m' a b c ih1 ih2 =>
    have h1 := b.le
    have h2 := c.le
    rw [goL, if_pos ⟨rfl, by omega⟩]
    obtain ⟨f', rfl⟩ : ∃ f', f = f' + 1 := ⟨f - 1, by omega⟩
    have e : subF N ks (f' + 1) m = some x := by rw [subF]; exact ih1 (by omega) f' (by omega)
    rw [e]
    exact ih2 hN (f' + 1) (by omega)
theorem Fo.goP {d : Nat} {l : List Int} {N : Nat} (h : Fo op ks d l 0 N) : goP N ks l = some N := h.go (Nat.le_refl _) N (by omega)
/-- Places from m on. -/
theorem Fo.mem {d : Nat} {l : List Int} {m m' : Nat} (h : Fo op ks d l m m') : ∀ x ∈ l, ∃ k : Nat, x = (k : Int) ∧ m ≤ k ∧ k < m' := by
  induction h with
  | nil => intro x hx; simp at hx
  | leaf a b c ih =>
    have h1 := c.le
    intro x hx
    rcases List.mem_cons.1 hx with rfl | hx
    · exact ⟨_, rfl, Nat.le_refl _, by omega⟩
    · obtain ⟨k, rfl, h2, h3⟩ := ih x hx; exact ⟨k, rfl, by omega, h3⟩
  | node a b c _ ih =>
    have h1 := c.le
    have h2 := b.le
    intro x hx
    rcases List.mem_cons.1 hx with rfl | hx
    · exact ⟨_, rfl, Nat.le_refl _, by omega⟩
    · obtain ⟨k, rfl, h2, h3⟩ := ih x hx; exact ⟨k, rfl, by omega, h3⟩
theorem Fo.kids {d : Nat} {l : List Int} {m m' N : Nat} (h : Fo op ks d l (m + 1) m') (hN : m' ≤ N) : kidsB N m l = l.map Int.toNat := by
  unfold kidsB
  congr 1
  rw [List.filter_eq_self]
  intro x hx
  obtain ⟨k, rfl, h1, h2⟩ := h.mem x hx
  simp; omega
theorem Fo.len {d : Nat} {l : List Int} {m m' : Nat} (h : Fo op ks d l m m') : l.length ≤ m' - m := by
  induction h with
  | nil => simp
  | leaf a b c ih => have := c.le; rw [List.length_cons]; omega
  | node a b c _ ih => have := c.le; have := b.le; rw [List.length_cons]; omega
theorem range'_split (a n k : Nat) (h : k ≤ n) : List.range' a n = List.range' a k ++ List.range' (a + k) (n - k) := by
  rw [List.range'_append_1, Nat.add_sub_cancel' h]
/-- All below are the next ones. -/
theorem Fo.pre {d : Nat} {l : List Int} {m m' N : Nat} (h : Fo op ks d l m m') (hN : m' ≤ N) : pre N ks (l.map Int.toNat) = List.range' m (m' - m) := by
  induction h with
  | nil => simp [HP.pre]
  | @leaf d r m m' a b c ih =>
    have h1 := c.le
    have hb : bel N ks m = [] := by rw [bel_eq, b]; rfl
    rw [List.map_cons, Int.toNat_natCast, pre_cons, hb, List.nil_append, ih hN, show m' - m = (m' - (m + 1)) + 1 by omega, List.range'_succ]
  | @node d r m x m' a b c ih1 ih2 =>
    have h1 := b.le
    have h2 := c.le
    have hb : bel N ks m = List.range' (m + 1) (x - (m + 1)) := by rw [bel_pre, b.kids (by omega)]; exact ih1 (by omega)
    rw [List.map_cons, Int.toNat_natCast, pre_cons, hb, ih2 hN, show m' - m = (m' - (m + 1)) + 1 by omega, List.range'_succ]
    congr 1
    rw [range'_split (m + 1) (m' - (m + 1)) (x - (m + 1)) (by omega)]
    congr 2 <;> omega
/-- How deep a form is, once all are gone through. -/
def dep (N : Nat) (op : Nat → Bool) (ks : Nat → List Int) (j : Nat) : Nat := deepA N op ks N j
theorem deepA_done (N : Nat) (op : Nat → Bool) (ks : Nat → List Int) : ∀ (m n j : Nat), N ≤ j + n → n ≤ m → m ≤ N → deepA N op ks m j = deepA N op ks n j
  | 0, n, j, _, h, _ => by rw [show n = 0 by omega]
  | m + 1, n, j, h0, h, hm => by
    by_cases e : n = m + 1
    · rw [e]
    · rw [deepA, if_neg (by omega)]
      exact deepA_done N op ks m n j h0 (by omega) (by omega)
theorem foldl_max_congr {d d' : Nat → Nat} : ∀ (l : List Nat) (a : Nat), (∀ x ∈ l, d x = d' x) → l.foldl (fun a k => max a (d k)) a = l.foldl (fun a k => max a (d' k)) a
  | [], _, _ => rfl
  | x :: r, a, h => by
    rw [List.foldl_cons, List.foldl_cons, h x List.mem_cons_self]
    exact foldl_max_congr r _ (fun y hy => h y (List.mem_cons_of_mem _ hy))
theorem dep_eq (N : Nat) (op : Nat → Bool) (ks : Nat → List Int) (j : Nat) (hj : j < N) : dep N op ks j = if op j then deepNew N j (dep N op ks) (ks j) else 0 := by
  unfold dep
  rw [deepA_done N op ks N (N - j) j (by omega) (by omega) (Nat.le_refl _)]
  obtain ⟨n, hn⟩ : ∃ n, N - j = n + 1 := ⟨N - j - 1, by omega⟩
  rw [hn, deepA, if_pos (by omega)]
  split
  · unfold deepNew
    congr 2
    refine foldl_max_congr _ _ (fun x hx => ?_)
    have := kidsB_mem hx
    exact (deepA_done N op ks N n x (by omega) (by omega) (Nat.le_refl _)).symm
  · rfl
theorem Fo.dep {d : Nat} {l : List Int} {m m' N : Nat} (h : Fo op ks d l m m') (hN : m' ≤ N) : ∀ x ∈ l, HP.dep N op ks x.toNat ≤ d := by
  induction h with
  | nil => intro x hx; simp at hx
  | @leaf d r m m' a b c ih =>
    have h1 := c.le
    intro x hx
    rcases List.mem_cons.1 hx with rfl | hx
    · rw [Int.toNat_natCast, dep_eq N op ks m (by omega), a]; exact Nat.zero_le _
    · exact ih hN x hx
  | @node d r m x' m' a b c ih1 ih2 =>
    have h1 := b.le
    have h2 := c.le
    intro x hx
    rcases List.mem_cons.1 hx with rfl | hx
    · rw [Int.toNat_natCast, dep_eq N op ks m (by omega), a, if_pos rfl]
      unfold deepNew
      rw [b.kids (by omega)]
      have := foldl_max_le (HP.dep N op ks) d ((ks m).map Int.toNat) 0 (Nat.zero_le _) (fun y hy => by
        obtain ⟨z, hz, rfl⟩ := List.mem_map.1 hy
        exact ih1 (by omega) z hz)
      omega
    · exact ih2 hN x hx
theorem Fo.depthP {d : Nat} {l : List Int} {N : Nat} (h : Fo op ks d l 0 N) : depthP N op ks l ≤ d := by
  unfold HP.depthP maxTop
  refine foldl_max_le _ d _ 0 (Nat.zero_le _) (fun x hx => ?_)
  exact h.dep (Nat.le_refl _) x ((List.mem_filter.1 hx).1)
end Go.Proofs.Ytiojfdgagdofiaa.HP
/-
What is parsed is a forest; what its forms have.
-/
set_option linter.unusedVariables false
set_option linter.unusedSimpArgs false
namespace Go.Proofs.Ytiojfdgagdofiaa.HP
open Go.RowKit Go.Proofs.Ytiojfdgagdofiaa.HB Go.Proofs.Ytiojfdgagdofiaa.HK Go.Proofs.YtiojfdgagdofiaaW.PrintWords Go.Proofs.YtiojfdgagdofiaaW.PrintLast Go.Proofs.YtiojfdgagdofiaaW.PrintMore
def noForm : FormP := ⟨0, ⟨#[]⟩, 0, 0⟩
def opOf (fs : List FormP) (j : Nat) : Bool := decide ((fs.getD j noForm).k = 1)
def ksOf (ls : Nat → List Int) (j : Nat) : List Int := ls (j + 2)
theorem opOf_old {fs : List FormP} {f : FormP} {j : Nat} (h : j < fs.length) : opOf (fs ++ [f]) j = opOf fs j := by
  unfold opOf
  rw [List.getD_eq_getElem?_getD, List.getD_eq_getElem?_getD, List.getElem?_append_left h]
theorem opOf_new (fs : List FormP) (f : FormP) : opOf (fs ++ [f]) fs.length = decide (f.k = 1) := by
  unfold opOf
  rw [List.getD_eq_getElem?_getD, List.getElem?_append_right (Nat.le_refl _), Nat.sub_self]
  rfl
theorem addLs_shape (n : Nat) (k : Int) (ls : Nat → List Int) :
    (k = 1 → addLs n k ls 1 = ls 1 ++ [(n : Int)]) ∧ (k ≠ 1 → addLs n k ls 1 = ls 1) ∧
    ((ls 1).length = 0 → addLs n k ls 0 = ls 0 ++ [(n : Int)] ∧ ksOf (addLs n k ls) n = [] ∧ ∀ j, j < n → ksOf (addLs n k ls) j = ksOf ls j) ∧
    ((ls 1).length ≠ 0 → lastOpen (ls 1) < n → addLs n k ls 0 = ls 0 ∧ ksOf (addLs n k ls) n = [] ∧ ksOf (addLs n k ls) (lastOpen (ls 1)) = ksOf ls (lastOpen (ls 1)) ++ [(n : Int)] ∧ ∀ j, j < n → j ≠ lastOpen (ls 1) → ksOf (addLs n k ls) j = ksOf ls j) := by
  have h0 : ∀ (j : Nat), j ≠ 1 → addLs n k ls j = (if (ls 1).length = 0 then upd (upd ls (n + 2) []) 0 (upd ls (n + 2) [] 0 ++ [(n : Int)]) else upd (upd ls (n + 2) []) (lastOpen (ls 1) + 2) (upd ls (n + 2) [] (lastOpen (ls 1) + 2) ++ [(n : Int)])) j := by
    intro j hj
    unfold addLs
    split <;> split <;> first | rfl | rw [upd_other _ _ hj]
  refine ⟨fun hk => by rw [addLs_one, if_pos hk], fun hk => by rw [addLs_one, if_neg hk], fun h => ⟨?_, ?_, fun j hj => ?_⟩, fun h hl => ⟨?_, ?_, ?_, fun j hj hne => ?_⟩⟩
  · rw [h0 0 (by omega), if_pos h, upd_same, upd_other _ _ (by omega)]
  · unfold ksOf; rw [h0 _ (by omega), if_pos h, upd_other _ _ (by omega), upd_same]
  · unfold ksOf; rw [h0 _ (by omega), if_pos h, upd_other _ _ (by omega), upd_other _ _ (by omega)]
  · rw [h0 0 (by omega), if_neg h, upd_other _ _ (by omega), upd_other _ _ (by omega)]
  · unfold ksOf; rw [h0 _ (by omega), if_neg h, upd_other _ _ (by omega), upd_same]
  · unfold ksOf; rw [h0 _ (by omega), if_neg h, upd_same, upd_other _ _ (by omega)]
  · unfold ksOf; rw [h0 _ (by omega), if_neg h, upd_other _ _ (by omega), upd_other _ _ (by omega)]
/-- What holds between two tokens: a forest with open ends. -/
def PInv (fs : List FormP) (ls : Nat → List Int) : Prop := St (opOf fs) (ksOf ls) 12 (ls 0) 0 (ls 1) fs.length
theorem PInv.start : PInv [] (fun _ => []) := .done (.nil _ _)
theorem last_is {l : List Int} (h : l ≠ []) (hp : ∀ x ∈ l, ∃ o : Nat, x = (o : Int)) : l.getLast? = some ((lastOpen l : Nat) : Int) := by
  unfold lastOpen
  rw [List.getLast?_eq_getElem?]
  have hl : l.length - 1 < l.length := by have := List.length_pos_iff.2 h; omega
  obtain ⟨o, ho⟩ := hp _ (List.getElem_mem hl)
  rw [List.getD_eq_getElem?_getD, List.getElem?_eq_getElem hl, ho]
  rfl
theorem PInv.add {fs : List FormP} {ls : Nat → List Int} (h : PInv fs ls) (f : FormP) (hd : f.k = 1 → (ls 1).length < 12) : PInv (fs ++ [f]) (addLs fs.length f.k ls) := by
  obtain ⟨s1, s2, s3, s4⟩ := addLs_shape fs.length f.k ls
  have hmem := h.mem
  unfold PInv at h ⊢
  rw [List.length_append, List.length_singleton]
  by_cases h0 : (ls 1).length = 0
  · obtain ⟨a, b, c⟩ := s3 h0
    have hnil : ls 1 = [] := List.length_eq_zero_iff.1 h0
    rw [hnil] at h
    rw [a]
    by_cases hk : f.k = 1
    · rw [s1 hk, hnil]
      exact h.open_top (fun j hj => ⟨opOf_old hj, c j hj⟩) b (by rw [opOf_new, hk]; rfl)
    · rw [s2 hk, hnil]
      exact h.push_top (fun j hj => ⟨opOf_old hj, c j hj⟩) b (by rw [opOf_new]; exact decide_eq_false hk)
  · have hne : ls 1 ≠ [] := fun e => h0 (by rw [e]; rfl)
    have hlast := last_is hne (fun x hx => by obtain ⟨o, e, _⟩ := hmem x hx; exact ⟨o, e⟩)
    have hlt : lastOpen (ls 1) < fs.length := by
      obtain ⟨o, e, _, ho, _⟩ := hmem _ (List.mem_of_getLast? hlast)
      omega
    obtain ⟨a, b, c, d⟩ := s4 h0 hlt
    rw [a]
    by_cases hk : f.k = 1
    · rw [s1 hk]
      exact h.open_in _ hne hlast (hd hk) (fun j hj => ⟨opOf_old hj, d j hj⟩) c b (by rw [opOf_new, hk]; rfl)
    · rw [s2 hk]
      exact h.push_in _ hne hlast (fun j hj => ⟨opOf_old hj, d j hj⟩) c b (by rw [opOf_new]; exact decide_eq_false hk)
theorem PInv.closed {fs : List FormP} {ls : Nat → List Int} (h : PInv fs ls) : PInv fs (closeLs ls) := by
  unfold PInv at h ⊢
  unfold closeLs
  have e : ksOf (upd ls 1 ((ls 1).take ((ls 1).length - 1))) = ksOf ls := by
    funext j
    unfold ksOf
    exact upd_other _ _ (by omega)
  rw [e, upd_other _ _ (by omega), upd_same, ← List.dropLast_eq_take]
  exact h.close

/-! ### how many -/
def isTok (T : S37) : Bool := decide (T.f0 = 1) || decide (T.f0 = 3) || decide (T.f0 = 4)
def toksN (ts : List S37) : Nat := (ts.filter isTok).length
def closesN (ts : List S37) : Nat := (ts.filter (fun T => decide (T.f0 = 2))).length
def okTok (T : S37) : Bool := !decide (T.f0 = 3) || decide (kindOf (codes T.f1) = 3)
def namedB (ts : List S37) : Bool := ts.all okTok
def opensN (fs : List FormP) : Nat := (fs.filter (fun f => decide (f.k = 1))).length
def okForm (f : FormP) : Bool := !decide (f.k = 3) || decide (kindOf (codes f.t) = 3)
def Fine (f : FormP) : Prop := (f.k = 1 ∧ f.t = ⟨#[]⟩ ∧ f.n = 0) ∨ (f.k = 3 ∧ f.n = 0) ∨ (f.k = 4 ∧ f.t = ⟨#[]⟩)
structure Ran (fs : List FormP) (ls : Nat → List Int) (ts : List S37) (fs' : List FormP) (ls' : Nat → List Int) : Prop where
  inv : PInv fs' ls'
  len : fs'.length = fs.length + toksN ts
  opens : opensN fs' + (ls 1).length = opensN fs + (ls' 1).length + closesN ts
  named : fs'.all okForm = (fs.all okForm && namedB ts)
  fine : (∀ f ∈ fs, Fine f) → ∀ f ∈ fs', Fine f
theorem toksN_cons (T : S37) (r : List S37) : toksN (T :: r) = (if isTok T = true then 1 else 0) + toksN r := by
  unfold toksN
  rw [List.filter_cons]
  split <;> simp <;> omega
theorem closesN_cons (T : S37) (r : List S37) : closesN (T :: r) = (if T.f0 = 2 then 1 else 0) + closesN r := by
  unfold closesN
  rw [List.filter_cons]
  by_cases h : T.f0 = 2 <;> simp [h] <;> omega
theorem namedB_cons (T : S37) (r : List S37) : namedB (T :: r) = (okTok T && namedB r) := List.all_cons
theorem opensN_snoc (fs : List FormP) (f : FormP) : opensN (fs ++ [f]) = opensN fs + (if f.k = 1 then 1 else 0) := by
  unfold opensN
  rw [List.filter_append, List.length_append]
  by_cases h : f.k = 1 <;> simp [h]
theorem run_ran : ∀ (ts : List S37) (fs : List FormP) (ls : Nat → List Int), PInv fs ls → ∀ fs' ls', runP fs ls ts = .ok (fs', ls') → Ran fs ls ts fs' ls'
  | [], fs, ls, h, fs', ls', he => by
    injection he with he
    injection he with ha hb
    subst ha hb
    exact ⟨h, rfl, rfl, by simp [namedB], fun hf => hf⟩
  | T :: r, fs, ls, h, fs', ls', he => by
    rw [runP] at he
    cases ht : takeP fs ls T with
    | error e => rw [ht] at he; cases he
    | ok p =>
      obtain ⟨fs1, ls1⟩ := p
      rw [ht] at he
      replace he : runP fs1 ls1 r = .ok (fs', ls') := he
      unfold takeP at ht
      by_cases e2 : T.f0 = 2
      · rw [if_pos e2] at ht
        by_cases e0 : (ls 1).length = 0
        · rw [if_pos e0] at ht; cases ht
        · rw [if_neg e0] at ht
          injection ht with ht
          injection ht with ha hb
          subst ha hb
          have R := run_ran r fs (closeLs ls) h.closed fs' ls' he
          have hc : (closeLs ls 1).length = (ls 1).length - 1 := by unfold closeLs; rw [upd_same, List.length_take]; omega
          have hT : isTok T = false := by unfold isTok; simp [e2]
          refine ⟨R.inv, ?_, ?_, ?_, R.fine⟩
          · rw [R.len, toksN_cons, hT, if_neg (by decide), Nat.zero_add]
          · have := R.opens
            rw [closesN_cons, if_pos e2]
            omega
          · rw [R.named, namedB_cons]
            have : okTok T = true := by unfold okTok; simp [e2]
            rw [this, Bool.true_and]
      · rw [if_neg e2] at ht
        by_cases e1 : T.f0 = 1 ∧ ¬ (ls 1).length < 12
        · rw [if_pos e1] at ht; cases ht
        · rw [if_neg e1] at ht
          by_cases e3 : T.f0 = 1 ∨ T.f0 = 3 ∨ T.f0 = 4
          · rw [if_pos e3] at ht
            by_cases e4 : fs.length < 400
            · rw [if_pos e4] at ht
              injection ht with ht
              injection ht with ha hb
              subst ha hb
              have hk : (formOf T).k = T.f0 := rfl
              have hadd : PInv (fs ++ [formOf T]) (addLs fs.length T.f0 ls) := by
                rw [← hk]
                exact h.add (formOf T) (fun e => by
                  rw [hk] at e
                  by_cases hx : (ls 1).length < 12
                  · exact hx
                  · exact absurd ⟨e, hx⟩ e1)
              have R := run_ran r _ _ hadd fs' ls' he
              have hT : isTok T = true := by unfold isTok; simp; rcases e3 with e | e | e <;> simp [e]
              refine ⟨R.inv, ?_, ?_, ?_, fun hf => R.fine (fun f hx => ?_)⟩
              · rw [R.len, toksN_cons, hT, if_pos rfl, List.length_append, List.length_singleton]; omega
              · have := R.opens
                rw [opensN_snoc, hk, addLs_one] at this
                rw [closesN_cons, if_neg e2]
                by_cases e : T.f0 = 1
                · rw [if_pos e, if_pos e, List.length_append, List.length_singleton] at this; omega
                · rw [if_neg e, if_neg e] at this; omega
              · rw [R.named, namedB_cons, List.all_append]
                have : ([formOf T] : List FormP).all okForm = okTok T := by
                  rw [List.all_cons, List.all_nil, Bool.and_true]
                  unfold okForm okTok formOf
                  by_cases e : T.f0 = 3 <;> simp [e]
                rw [this, Bool.and_assoc]
              · rcases List.mem_append.1 hx with hx | hx
                · exact hf f hx
                · rw [List.mem_singleton.1 hx]
                  unfold Fine formOf
                  rcases e3 with e | e | e
                  · exact .inl ⟨e, by simp [e], by simp [e]⟩
                  · exact .inr (.inl ⟨e, by simp [e]⟩)
                  · exact .inr (.inr ⟨e, by simp [e]⟩)
            · rw [if_neg e4] at ht; cases ht
          · rw [if_neg e3] at ht
            injection ht with ht
            injection ht with ha hb
            subst ha hb
            have R := run_ran r fs ls h fs' ls' he
            have hT : isTok T = false := by
              unfold isTok
              simp
              exact ⟨⟨fun e => e3 (.inl e), fun e => e3 (.inr (.inl e))⟩, fun e => e3 (.inr (.inr e))⟩
            refine ⟨R.inv, ?_, ?_, ?_, R.fine⟩
            · rw [R.len, toksN_cons, hT, if_neg (by decide), Nat.zero_add]
            · have := R.opens
              rw [closesN_cons, if_neg e2]
              omega
            · rw [R.named, namedB_cons]
              have : okTok T = true := by unfold okTok; simp; exact .inl (fun e => e3 (.inr (.inl e)))
              rw [this, Bool.true_and]
/-- What Parse hands back. -/
structure Parsed (ts : List S37) (fs : List FormP) (ls : Nat → List Int) : Prop where
  fo : Fo (opOf fs) (ksOf ls) 12 (ls 0) 0 fs.length
  few : fs.length ≤ 400
  rows : ∀ i, (ls i).length ≤ 400
  len : fs.length = toksN ts
  opens : opensN fs = closesN ts
  named : fs.all okForm = namedB ts
  fine : ∀ f ∈ fs, Fine f
theorem parsed {ts : List S37} {fs : List FormP} {ls : Nat → List Int} (h : parseP ts = .ok (fs, ls)) : Parsed ts fs ls := by
  unfold parseP at h
  cases hr : runP [] (fun _ => []) ts with
  | error e => rw [hr] at h; cases h
  | ok p =>
    obtain ⟨fs1, ls1⟩ := p
    rw [hr] at h
    dsimp only at h
    by_cases h0 : 0 < (ls1 1).length
    · rw [if_pos h0] at h; cases h
    · rw [if_neg h0] at h
      injection h with h
      injection h with ha hb
      subst ha hb
      have R := run_ran ts [] _ PInv.start fs1 ls1 hr
      have I := TInv.run ts [] _ TInv.start fs1 ls1 hr
      have hnil : ls1 1 = [] := List.length_eq_zero_iff.1 (by omega)
      have hi := R.inv
      unfold PInv at hi
      rw [hnil] at hi
      refine ⟨hi.fo, I.1, fun i => Nat.le_trans (I.2.1 i) I.1, ?_, ?_, ?_, R.fine (fun f hf => by simp at hf)⟩
      · have := R.len; simpa using this
      · have := R.opens; rw [hnil] at this; simpa [opensN] using this
      · have := R.named; simpa using this
end Go.Proofs.Ytiojfdgagdofiaa.HP
/-
tree.walk and the document's through over the translation: how far places lead.
-/
set_option linter.unusedVariables false
set_option linter.unusedSimpArgs false
namespace Go.Proofs.Ytiojfdgagdofiaa.HP
open Go.RowKit Go.Proofs.Ytiojfdgagdofiaa.HB Go.Proofs.Ytiojfdgagdofiaa.HK Go.Proofs.YtiojfdgagdofiaaW.PrintWords Go.Proofs.YtiojfdgagdofiaaW.PrintLast Go.Proofs.YtiojfdgagdofiaaW.PrintMore
/-- How the call ends. -/
def WalkEnds (r : Option Nat) (e : Ending) : Prop :=
  match r with
  | some y => e = .returned (.tuple #[.int .i64 (y : Int), .bool true])
  | none => ∃ x : Int, e = .returned (.tuple #[.int .i64 x, .bool false])
theorem walkEnds_no {r : Option Nat} {x : Int} (h : r = none) : WalkEnds r (.returned (.tuple #[.int .i64 x, .bool false])) := by
  subst h; exact ⟨x, rfl⟩
/-- What stands at each round's head. -/
def WalkRel (N : Nat) (g : Nat → Option Nat) (l : List Int) (m j y : Nat) : Prop := goL N g l m = goL N g (l.drop j) y ∧ m ≤ y ∧ y ≤ N
theorem WalkRel.one {N : Nat} {g : Nat → Option Nat} {l : List Int} {m j y : Nat} (h : WalkRel N g l m j y) (hj : j < l.length) :
    goL N g l m = if l.getD j 0 = (y : Int) ∧ y < N then (match g y with | none => none | some x => goL N g (l.drop (j + 1)) x) else none := by
  rw [h.1, List.drop_eq_getElem_cons hj, goL, List.getD_eq_getElem?_getD, List.getElem?_eq_getElem hj]
  rfl
set_option maxHeartbeats 4000000 in
set_option maxRecDepth 100000 in
theorem walk_calls (w : World) (A : Option Addr) (c : Nat) (fs : List FormP) (ks : Nat → List Int) (hF : FRow w A fs ks) (hN : fs.length ≤ 1000000) (hk : ∀ j, (ks j).length ≤ 140737488351232) :
    ∀ (f : Nat) (B : Option Addr) (d : Nat) (l : List Int) (m : Nat), IRow w B l → l.length ≤ 140737488351232 → m ≤ fs.length → fs.length ≤ m + f →
    Calls Try.prog 48 #[.slice A fs.length c, .slice B l.length d, .int .i64 (m : Int)] w fun e w' => WalkEnds (goL fs.length (subF fs.length ks f) l m) e ∧ w' = w := by
  have HF := Lib.hid hF
  have HK := Lib.hid hk
  clear hF hk
  intro f
  induction f with
  | zero =>
    intro B d l m hB hl hm hf
    have HB := Lib.hid hB
    clear hB
    go_enter Try.func48, Try.ntmps48
    go_wp2_with (fail)
    go_loop [2, 13] (fun x i => ∃ (j y : Nat), x = .int .i64 (y : Int) ∧ i = .int .i64 (j : Int) ∧ j ≤ l.length ∧ Hid (WalkRel fs.length (subF fs.length ks 0) l m j y)) (fun _ i => l.length - (intOf i).toNat)
    case atStart => exact ⟨0, m, rfl, rfl, Nat.zero_le _, by rw [List.drop_zero], Nat.le_refl _, hm⟩
    case round =>
      obtain ⟨j, y, rfl, rfl, hj, hR⟩ := hrel
      by_cases hlt : j < l.length
      · obtain ⟨g, o, hA, _, c0⟩ := HB.out j hlt
        subst hA
        have hone := Lib.hid (hR.out.one hlt)
        have hy1 := hR.out.2.1
        have q1 : (j : Int) < (l.length : Int) := by omega
        have q0 : (0 : Int) ≤ (j : Int) := by omega
        have qd : decide ((j : Int) < (l.length : Int)) = true := decide_eq_true q1
        obtain ⟨p, hp⟩ : ∃ p, p = l.getD j 0 := ⟨_, rfl⟩
        rw [← hp] at c0 hone
        have hno : Hid (goL fs.length (subF fs.length ks 0) l m = none) := by
          show _ = _
          rw [hone.out, if_neg (by rintro ⟨_, h⟩; omega)]
        clear hp
        by_cases e : p = (y : Int)
        · have b1 : (p != (y : Int)) = false := by simpa using e
          have b2 : decide ((fs.length : Int) ≤ p) = true := decide_eq_true (by omega)
          have b3 : decide (p ≥ (fs.length : Int)) = true := decide_eq_true (by omega)
          clear e
          go_wp2
          exact bodyPost_ret (v := .tuple #[.int .i64 (y : Int), .bool false]) (by simp [results, Try.results48, go_sem]) rfl ⟨walkEnds_no hno.out, rfl⟩
        · have b1 : (p != (y : Int)) = true := by simpa using e
          clear e
          go_wp2
          exact bodyPost_ret (v := .tuple #[.int .i64 (y : Int), .bool false]) (by simp [results, Try.results48, go_sem]) rfl ⟨walkEnds_no hno.out, rfl⟩
      · obtain rfl : j = l.length := by omega
        have qd : decide ((l.length : Int) < (l.length : Int)) = false := decide_eq_false (by omega)
        have hyes : Hid (goL fs.length (subF fs.length ks 0) l m = some y) := by
          show _ = _
          rw [hR.out.1, List.drop_length]; rfl
        clear hR
        go_wp2
        exact bodyPost_ret (v := .tuple #[.int .i64 (y : Int), .bool true]) (by simp [results, Try.results48, go_sem]) rfl ⟨by rw [hyes.out]; rfl, rfl⟩
  | succ f ih =>
    intro B d l m hB hl hm hf
    have HB := Lib.hid hB
    have IH := Lib.hid ih
    clear hB ih
    go_enter Try.func48, Try.ntmps48
    go_wp2_with (fail)
    go_loop [2, 13] (fun x i => ∃ (j y : Nat), x = .int .i64 (y : Int) ∧ i = .int .i64 (j : Int) ∧ j ≤ l.length ∧ Hid (WalkRel fs.length (subF fs.length ks (f + 1)) l m j y)) (fun _ i => l.length - (intOf i).toNat)
    case atStart => exact ⟨0, m, rfl, rfl, Nat.zero_le _, by rw [List.drop_zero], Nat.le_refl _, hm⟩
    case round =>
      obtain ⟨j, y, rfl, rfl, hj, hR⟩ := hrel
      by_cases hlt : j < l.length
      · obtain ⟨g, o, hA, _, c0⟩ := HB.out j hlt
        subst hA
        have hone := Lib.hid (hR.out.one hlt)
        have hy1 := hR.out.2.1
        have hy2 := hR.out.2.2
        have q1 : (j : Int) < (l.length : Int) := by omega
        have q0 : (0 : Int) ≤ (j : Int) := by omega
        have qd : decide ((j : Int) < (l.length : Int)) = true := decide_eq_true q1
        obtain ⟨p, hp⟩ : ∃ p, p = l.getD j 0 := ⟨_, rfl⟩
        rw [← hp] at c0 hone
        clear hp
        by_cases e : p = (y : Int)
        · by_cases e2 : y < fs.length
          · subst e
            have b1 : ((y : Int) != (y : Int)) = false := by simp
            have b2 : decide ((fs.length : Int) ≤ (y : Int)) = false := decide_eq_false (by omega)
            have b3 : decide ((y : Int) ≥ (fs.length : Int)) = false := decide_eq_false (by omega)
            have hyi : (y : Int) < (fs.length : Int) := by omega
            have hy0 : (0 : Int) ≤ (y : Int) := by omega
            obtain ⟨F, hFy⟩ : ∃ F, fs[y]? = some F := ⟨_, List.getElem?_eq_getElem e2⟩
            obtain ⟨g2, o2, B2, c2, hA2, _, _, _, _, d3, _, _, hI2⟩ := HF.out y F hFy
            have HI2 := Lib.hid hI2
            have hw1 : IntKind.i64.wrap ((y : Int) + 1) = ((y + 1 : Nat) : Int) := by rw [IntWalk.i64_in _ (by omega)]; omega
            have hw2 : IntKind.i64.wrap ((j : Int) + 1) = ((j + 1 : Nat) : Int) := by rw [IntWalk.i64_in _ (by omega)]; omega
            have hon : Hid (goL fs.length (subF fs.length ks (f + 1)) l m = (match goL fs.length (subF fs.length ks f) (ks y) (y + 1) with | none => none | some x => goL fs.length (subF fs.length ks (f + 1)) (l.drop (j + 1)) x)) := by
              show _ = _
              rw [hone.out, if_pos ⟨rfl, e2⟩]; rfl
            have hgt : Hid (∀ x, goL fs.length (subF fs.length ks f) (ks y) (y + 1) = some x → y + 1 ≤ x ∧ x ≤ fs.length) := fun x hx => ⟨goL_ge (fun a b hab => subF_gt f a b hab) _ _ _ hx, goL_le (fun a b ha hab => subF_le f a b ha hab) _ _ _ (by omega) hx⟩
            subst hA2
            clear hFy hI2 hone hR b1
            go_wp2_with (fail)
            refine (IH.out B2 c2 (ks y) (y + 1) HI2.out (HK.out y) (by omega) (by omega)).mono ?_
            rintro e w' ⟨hE, rfl⟩
            cases hg : goL fs.length (subF fs.length ks f) (ks y) (y + 1) with
            | none =>
              have hno : Hid (goL fs.length (subF fs.length ks (f + 1)) l m = none) := by show _ = _; rw [hon.out, hg]
              rw [hg] at hE
              obtain ⟨x, rfl⟩ := hE
              clear hg
              go_wp2
              exact bodyPost_ret (v := .tuple #[.int .i64 x, .bool false]) (by simp [results, Try.results48, go_sem]) rfl ⟨walkEnds_no hno.out, rfl⟩
            | some x =>
              have hno : Hid (goL fs.length (subF fs.length ks (f + 1)) l m = goL fs.length (subF fs.length ks (f + 1)) (l.drop (j + 1)) x) := by show _ = _; rw [hon.out, hg]
              have hx := hgt.out x hg
              rw [hg] at hE
              replace hE : e = .returned (.tuple #[.int .i64 (x : Int), .bool true]) := hE
              subst hE
              clear hg
              go_wp2
              go_round
              case measure => simp [intOf]; omega
              case rel => exact ⟨j + 1, x, rfl, by first | rfl | (rw [hw2]) | simp, by omega, hno.out, by omega, by omega⟩
          · have hno : Hid (goL fs.length (subF fs.length ks (f + 1)) l m = none) := by
              show _ = _
              rw [hone.out, if_neg (by rintro ⟨_, h⟩; omega)]
            have b1 : (p != (y : Int)) = false := by simpa using e
            have b2 : decide ((fs.length : Int) ≤ p) = true := decide_eq_true (by omega)
            have b3 : decide (p ≥ (fs.length : Int)) = true := decide_eq_true (by omega)
            clear e
            go_wp2
            exact bodyPost_ret (v := .tuple #[.int .i64 (y : Int), .bool false]) (by simp [results, Try.results48, go_sem]) rfl ⟨walkEnds_no hno.out, rfl⟩
        · have hno : Hid (goL fs.length (subF fs.length ks (f + 1)) l m = none) := by
            show _ = _
            rw [hone.out, if_neg (by rintro ⟨h, _⟩; exact e h)]
          have b1 : (p != (y : Int)) = true := by simpa using e
          clear e
          go_wp2
          exact bodyPost_ret (v := .tuple #[.int .i64 (y : Int), .bool false]) (by simp [results, Try.results48, go_sem]) rfl ⟨walkEnds_no hno.out, rfl⟩
      · obtain rfl : j = l.length := by omega
        have qd : decide ((l.length : Int) < (l.length : Int)) = false := decide_eq_false (by omega)
        have hyes : Hid (goL fs.length (subF fs.length ks (f + 1)) l m = some y) := by
          show _ = _
          rw [hR.out.1, List.drop_length]; rfl
        clear hR
        go_wp2
        exact bodyPost_ret (v := .tuple #[.int .i64 (y : Int), .bool true]) (by simp [results, Try.results48, go_sem]) rfl ⟨by rw [hyes.out]; rfl, rfl⟩
end Go.Proofs.Ytiojfdgagdofiaa.HP
/-
tree.alone over the translation: whether a form may be, by itself.
-/
set_option linter.unusedVariables false
set_option linter.unusedSimpArgs false
namespace Go.Proofs.Ytiojfdgagdofiaa.HP
open Go.RowKit Go.Proofs.Ytiojfdgagdofiaa.HB Go.Proofs.Ytiojfdgagdofiaa.HK Go.Proofs.YtiojfdgagdofiaaW.PrintWords Go.Proofs.YtiojfdgagdofiaaW.PrintLast Go.Proofs.YtiojfdgagdofiaaW.PrintMore
def emptyB (t : ByteArray) : Bool := t.toList.isEmpty
def aloneB (f : FormP) (nk : Nat) : Bool :=
  if f.k = 1 then emptyB f.t && decide (f.n = 0)
  else if f.k = 3 then decide (f.n = 0) && (decide (nk = 0) && decide (kindOf (codes f.t) = 3))
  else if f.k = 4 then emptyB f.t && decide (nk = 0)
  else false
theorem kind_call (t : ByteArray) (ht : t.size ≤ 140737488351232) (w : World) : Calls Try.prog 31 #[.string t] w fun e w' => e = .returned (.int .u8 (kindOf (codes t))) ∧ Below w.heap.size w w' := by
  obtain ⟨k, hk⟩ := (wordKind_ev t (by omega)).rounds
  exact lex_WordKind.calls k t _ w hk
theorem docKind_call (t : ByteArray) (ht : t.size ≤ 140737488351232) (w : World) : Calls Try.prog 21 #[.string t] w fun e w' => e = .returned (.int .u8 (kindOf (codes t))) ∧ Below w.heap.size w w' := by
  obtain ⟨k, hk⟩ := (refWordKind_ev t ht).rounds
  exact reticuleref06_WordKind.calls k t _ w hk
def AloneEnds (b : Bool) (w : World) (e : Ending) (w' : World) : Prop := e = .returned (.bool b) ∧ Below w.heap.size w w'
set_option maxHeartbeats 4000000 in
set_option maxRecDepth 100000 in
theorem alone_calls (f : FormP) (B : Option Addr) (nk c : Nat) (w : World) (ht : f.t.size ≤ 140737488351232) :
    Calls Try.prog 47 #[.agg #[.int .u8 f.k, .string f.t, .int .i64 f.n, .slice B nk c, .int .i64 f.at_]] w fun e w' => AloneEnds (aloneB f nk) w e w' := by
  obtain ⟨k, t, n, a⟩ := f
  dsimp only at ht
  have HT := Lib.hid ht
  have HB1 : Hid (Below w.heap.size w (w.alloc (.cells #[.int .u8 k, .string t, .int .i64 n, .slice B nk c, .int .i64 a] 40))) := (Below.refl _ w).alloc (Nat.le_refl _) _
  clear ht
  dsimp only
  by_cases e1 : k = 1
  · have hr : Hid (aloneB ⟨k, t, n, a⟩ nk = (emptyB t && decide (n = 0))) := if_pos e1
    subst e1
    by_cases hE : t.toList = []
    · have hE2 : t.toList.isEmpty = true := by rw [hE]; rfl
      by_cases hn : n = 0
      · have hr2 : Hid (aloneB ⟨1, t, n, a⟩ nk = true) := by show _ = _; rw [hr.out]; unfold emptyB; rw [hE2, hn]; rfl
        have b1 : (n == 0) = true := by rw [hn]; rfl
        clear hn
        go_enter Try.func47, Try.ntmps47
        go_wp2
        go_ret
        exact ⟨by rw [hr2.out]; rfl, HB1.out⟩
      · have hr2 : Hid (aloneB ⟨1, t, n, a⟩ nk = false) := by show _ = _; rw [hr.out, decide_eq_false hn, Bool.and_false]
        have b1 : (n == 0) = false := by simpa using hn
        clear hn
        go_enter Try.func47, Try.ntmps47
        go_wp2
        go_ret
        exact ⟨by rw [hr2.out]; rfl, HB1.out⟩
    · have hE2 : t.toList.isEmpty = false := by simpa using hE
      have hr2 : Hid (aloneB ⟨1, t, n, a⟩ nk = false) := by show _ = _; rw [hr.out]; unfold emptyB; rw [hE2, Bool.false_and]
      go_enter Try.func47, Try.ntmps47
      go_wp2
      go_ret
      exact ⟨by rw [hr2.out]; rfl, HB1.out⟩
  · by_cases e3 : k = 3
    · have hr : Hid (aloneB ⟨k, t, n, a⟩ nk = (decide (n = 0) && (decide (nk = 0) && decide (kindOf (codes t) = 3)))) := by
        show _ = _; unfold aloneB; rw [if_neg e1, if_pos e3]
      subst e3
      clear e1
      by_cases hn : n = 0
      · have b1 : (n == 0) = true := by rw [hn]; rfl
        by_cases hk : nk = 0
        · have b2 : ((nk : Int) == 0) = true := by rw [hk]; rfl
          have hr2 : Hid (aloneB ⟨3, t, n, a⟩ nk = decide (kindOf (codes t) = 3)) := by show _ = _; rw [hr.out, decide_eq_true hn, decide_eq_true hk, Bool.true_and, Bool.true_and]
          clear hn hk
          obtain ⟨K, hK⟩ : ∃ K, K = kindOf (codes t) := ⟨_, rfl⟩
          have hc := kind_call t HT.out
          rw [← hK] at hc hr2
          have HC := Lib.hid hc
          clear hc hK
          go_enter Try.func47, Try.ntmps47
          go_wp2_with (fail)
          refine (HC.out _).mono ?_
          rintro e w' ⟨rfl, hb⟩
          have HB2 := Lib.hid (HB1.out.trans (hb.mono (by simp)))
          clear hb
          by_cases h3 : K = 3
          · have b3 : (K == 3) = true := by rw [h3]; rfl
            have hr3 : Hid (aloneB ⟨3, t, n, a⟩ nk = true) := by show _ = _; rw [hr2.out, decide_eq_true h3]
            clear h3
            go_wp2
            go_ret
            exact ⟨by rw [hr3.out]; rfl, HB2.out⟩
          · have b3 : (K == 3) = false := by simpa using h3
            have hr3 : Hid (aloneB ⟨3, t, n, a⟩ nk = false) := by show _ = _; rw [hr2.out, decide_eq_false h3]
            clear h3
            go_wp2
            go_ret
            exact ⟨by rw [hr3.out]; rfl, HB2.out⟩
        · have b2 : ((nk : Int) == 0) = false := by simpa using hk
          have hr2 : Hid (aloneB ⟨3, t, n, a⟩ nk = false) := by show _ = _; rw [hr.out, decide_eq_false hk, Bool.false_and, Bool.and_false]
          clear hn hk
          go_enter Try.func47, Try.ntmps47
          go_wp2
          go_ret
          exact ⟨by rw [hr2.out]; rfl, HB1.out⟩
      · have hr2 : Hid (aloneB ⟨3, t, n, a⟩ nk = false) := by show _ = _; rw [hr.out, decide_eq_false hn, Bool.false_and]
        have b1 : (n == 0) = false := by simpa using hn
        clear hn
        go_enter Try.func47, Try.ntmps47
        go_wp2
        go_ret
        exact ⟨by rw [hr2.out]; rfl, HB1.out⟩
    · by_cases e4 : k = 4
      · have hr : Hid (aloneB ⟨k, t, n, a⟩ nk = (emptyB t && decide (nk = 0))) := by
          show _ = _; unfold aloneB; rw [if_neg e1, if_neg e3, if_pos e4]
        subst e4
        clear e1 e3
        by_cases hE : t.toList = []
        · have hE2 : t.toList.isEmpty = true := by rw [hE]; rfl
          by_cases hk : nk = 0
          · have b2 : ((nk : Int) == 0) = true := by rw [hk]; rfl
            have hr2 : Hid (aloneB ⟨4, t, n, a⟩ nk = true) := by show _ = _; rw [hr.out]; unfold emptyB; rw [hE2, decide_eq_true hk]; rfl
            clear hk
            go_enter Try.func47, Try.ntmps47
            go_wp2
            go_ret
            exact ⟨by rw [hr2.out]; rfl, HB1.out⟩
          · have b2 : ((nk : Int) == 0) = false := by simpa using hk
            have hr2 : Hid (aloneB ⟨4, t, n, a⟩ nk = false) := by show _ = _; rw [hr.out, decide_eq_false hk, Bool.and_false]
            clear hk
            go_enter Try.func47, Try.ntmps47
            go_wp2
            go_ret
            exact ⟨by rw [hr2.out]; rfl, HB1.out⟩
        · have hE2 : t.toList.isEmpty = false := by simpa using hE
          have hr2 : Hid (aloneB ⟨4, t, n, a⟩ nk = false) := by show _ = _; rw [hr.out]; unfold emptyB; rw [hE2, Bool.false_and]
          go_enter Try.func47, Try.ntmps47
          go_wp2
          go_ret
          exact ⟨by rw [hr2.out]; rfl, HB1.out⟩
      · have hr2 : Hid (aloneB ⟨k, t, n, a⟩ nk = false) := by
          show _ = _; unfold aloneB; rw [if_neg e1, if_neg e3, if_neg e4]
        have b1 : (k == 1) = false := by simpa using e1
        have b3 : (k == 3) = false := by simpa using e3
        have b4 : (k == 4) = false := by simpa using e4
        clear e1 e3 e4
        go_enter Try.func47, Try.ntmps47
        go_wp2
        go_ret
        exact ⟨by rw [hr2.out]; rfl, HB1.out⟩
end Go.Proofs.Ytiojfdgagdofiaa.HP
