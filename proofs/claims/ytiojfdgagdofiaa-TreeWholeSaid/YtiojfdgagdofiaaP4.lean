/-
Texts joined: TsF, TsR, TsG, TsH, TsI, TsJ, TsK, TsM, TsN, TsO, TsP.
-/
import Derived.Test.YtiojfdgagdofiaaP3
import Derived.Test.YtiojfdgagdofiaaP2
import Derived.RangeFuncNested
import Derived.RangeFuncBound
import Derived.RangeFuncCalls
import Derived.RangeFuncLeaves
import Derived.Shelf.Abstract
import Derived.Shelf.RegionOpen
import Derived.OwnWalkIn
import Derived.TacticsInMore
import Derived.LoopNIn
import Derived.LoopIn
import Derived.Sort.QuietIn
import Derived.StillTailTactics
import Derived.Deep.Slices
import Derived.Deep.Fields
import Derived.ChangeSame
import Derived.WalkKit
import Derived.ProofKit
import Derived.OpenShut
import Derived.SizedLaws
/-
The kids of a form that stand behind it, yielded one by one: the iterator's contract.
-/
set_option linter.unusedVariables false
set_option linter.unusedSimpArgs false
namespace Go.Proofs.Ytiojfdgagdofiaa.HP
open Go.RowKit Go.Proofs.Ytiojfdgagdofiaa.HB Go.Proofs.Ytiojfdgagdofiaa.HK Go.Proofs.YtiojfdgagdofiaaW.PrintWords Go.Proofs.YtiojfdgagdofiaaW.PrintLast Go.Proofs.YtiojfdgagdofiaaW.PrintMore
theorem wide_fn (f : FuncId) : Fence.wide.fn f = True := rfl
theorem wide_depth : Fence.wide.depth = none := rfl
attribute [local go_sem] Oper.semAt_some wide_fn wide_depth

/-! ### the kids, each with the word that it is one -/
abbrev KidT (N i : Nat) (l : List Int) := {k : Nat // k ∈ kidsB N i l}
theorem kidsB_take {N i : Nat} {l : List Int} {j k : Nat} (h : k ∈ kidsB N i (l.take j)) : k ∈ kidsB N i l := by
  unfold kidsB at h ⊢
  obtain ⟨x, hx, e⟩ := List.mem_map.1 h
  have := List.mem_filter.1 hx
  exact List.mem_map.2 ⟨x, List.mem_filter.2 ⟨List.mem_of_mem_take this.1, this.2⟩, e⟩
def kidsT (N i : Nat) (l : List Int) (j : Nat) : List (KidT N i l) := (kidsB N i (l.take j)).pmap (fun k h => ⟨k, h⟩) (fun k h => kidsB_take h)
theorem kidsT_val (N i : Nat) (l : List Int) (j : Nat) : (kidsT N i l j).map Subtype.val = kidsB N i (l.take j) := by
  unfold kidsT
  rw [List.map_pmap, List.pmap_eq_map, List.map_id'']
  intro x; rfl
theorem val_ext {α : Type} {p : α → Prop} : ∀ (l m : List {x : α // p x}), l.map Subtype.val = m.map Subtype.val → l = m
  | [], [], _ => rfl
  | [], y :: s, h => by simp at h
  | x :: r, [], h => by simp at h
  | x :: r, y :: s, h => by
    rw [List.map_cons, List.map_cons] at h
    injection h with h1 h2
    rw [Subtype.ext h1, val_ext r s h2]
theorem kidsT_yes {N i : Nat} {l : List Int} {j : Nat} (hj : j < l.length) (h1 : (i : Int) < l.getD j 0) (h2 : l.getD j 0 < (N : Int)) :
    ∃ h : (l.getD j 0).toNat ∈ kidsB N i l, kidsT N i l (j + 1) = kidsT N i l j ++ [⟨(l.getD j 0).toNat, h⟩] := by
  have hs := kidsB_snoc N i l j hj
  rw [if_pos ⟨h1, h2⟩] at hs
  have hm : (l.getD j 0).toNat ∈ kidsB N i l := kidsB_take (j := j + 1) (by rw [hs]; exact List.mem_append_right _ List.mem_cons_self)
  refine ⟨hm, val_ext _ _ ?_⟩
  rw [kidsT_val, hs, List.map_append, kidsT_val]
  rfl
theorem kidsT_no {N i : Nat} {l : List Int} {j : Nat} (hj : j < l.length) (h : ¬ ((i : Int) < l.getD j 0 ∧ l.getD j 0 < (N : Int))) : kidsT N i l (j + 1) = kidsT N i l j := by
  have hs := kidsB_snoc N i l j hj
  rw [if_neg h, List.append_nil] at hs
  refine val_ext _ _ ?_
  rw [kidsT_val, hs, kidsT_val]
theorem kidsT_len (N i : Nat) (l : List Int) (j : Nat) : (kidsT N i l j).length ≤ j := by
  have := congrArg List.length (kidsT_val N i l j)
  rw [List.length_map] at this
  rw [this]
  exact Nat.le_trans (kidsB_len _ _ _) (List.length_take_le _ _)
theorem kidsT_prefix (N i : Nat) (l : List Int) (j : Nat) (hj : j ≤ l.length) : kidsT N i l j <+: kidsT N i l l.length := by
  have h : ∀ n, j + n ≤ l.length → kidsT N i l j <+: kidsT N i l (j + n) := by
    intro n
    induction n with
    | zero => intro _; exact List.prefix_refl _
    | succ n ih =>
      intro hn
      refine (ih (by omega)).trans ?_
      by_cases hc : (i : Int) < l.getD (j + n) 0 ∧ l.getD (j + n) 0 < (N : Int)
      · obtain ⟨hm, e⟩ := kidsT_yes (j := j + n) (by omega) hc.1 hc.2
        rw [show j + (n + 1) = j + n + 1 by omega, e]
        exact List.prefix_append _ _
      · rw [show j + (n + 1) = j + n + 1 by omega, kidsT_no (by omega) hc]
        exact List.prefix_refl _
  have := h (l.length - j) (by omega)
  rwa [show j + (l.length - j) = l.length by omega] at this
/-- All of them. -/
def kidsAll (N i : Nat) (l : List Int) : List (KidT N i l) := kidsT N i l l.length
theorem kidsAll_val (N i : Nat) (l : List Int) : (kidsAll N i l).map Subtype.val = kidsB N i l := by
  unfold kidsAll
  rw [kidsT_val, List.take_length]

set_option maxHeartbeats 1000000 in
/-- kids: both are boxed; the function value captures the boxes. -/
theorem kids_in (F : Fence) (n : Nat) (hf : F.fn 49) (hro : F.round = none) (A : Option Addr) (len cap : Nat) (i : Int) (w : World) :
    CallsIn F n Try.prog 49 #[.slice A len cap, .int .i64 i] w fun e w' => e = .returned (.func (.func 72) #[] #[.pointer (some ⟨w.heap.size, 0, none⟩), .pointer (some ⟨w.heap.size + 1, 0, none⟩)]) ∧
      w' = (w.alloc (.cells #[.slice A len cap] 23)).alloc (.cells #[.int .i64 i] 3) := by
  refine callsIn_of_wp Try.func49 rfl hf ?_ hro
  simp only [Try.ntmps49, List.size_toArray, List.length_cons, List.length_nil, Nat.reduceAdd, Nat.reduceSub, Array.replicate_succ, Array.replicate_zero, List.push_toArray, List.append_toArray, List.nil_append, List.cons_append]
  have hmf : ∀ (fn : Fn) (first cap : Array Value) (w : World), (Instr.makeFunc fn first cap).run Try.prog w = .ok (.func fn first cap) w := fun _ _ _ _ => rfl
  gi_wp2
  go_ret
  exact ⟨rfl, rfl⟩
/-- What a round that goes on keeps: all that lay when the call began, and the two boxes. -/
def KpC (n₀ b1 b2 : Nat) (W W' : World) : Prop := Below n₀ W W' ∧ W'.heap[b1]? = W.heap[b1]? ∧ W'.heap[b2]? = W.heap[b2]?
theorem kpc_t {n₀ b1 b2 : Nat} {A B C : World} (h : KpC n₀ b1 b2 A B) (k : KpC n₀ b1 b2 B C) : KpC n₀ b1 b2 A C :=
  ⟨h.1.trans k.1, k.2.1.trans h.2.1, k.2.2.trans h.2.2⟩
theorem heap_putObj (W : World) (l : Nat) (o : Obj) {b : Nat} (hb : b ≠ l) : (W.putObj l o).heap[b]? = W.heap[b]? := by
  simp [World.putObj, Array.getElem?_setIfInBounds, Ne.symm hb]
theorem kpc_b {n₀ b1 b2 : Nat} {w : World} (hn : n₀ ≤ w.heap.size) (h1 : b1 < w.heap.size) (h2 : b2 < w.heap.size) (W : World) (l : Nat) (o o' : Obj) (hl : w.heap.size ≤ l) (h : W.heap[l]? = some o) (hc : o.isCells = false) (hw : o.isWalk = false) : KpC n₀ b1 b2 W (W.putObj l o') :=
  ⟨belowK_b (w := w) hn W l o o' hl h hc hw, heap_putObj W l o' (by omega), heap_putObj W l o' (by omega)⟩
set_option maxHeartbeats 4000000 in
set_option maxRecDepth 100000 in
theorem kids1_in (n : Nat) (hn : 2 ≤ n) (l b1 b2 : Nat) (A : Option Addr) (c : Nat) (fs : List FormP) (ks : Nat → List Int) (i : Nat) (hi : i < fs.length) (w0 : World) (hF : FRow w0 A fs ks) (hN : fs.length ≤ 140737488351232) (hlen : (ks i).length ≤ 140737488351232) (J Jx : List (KidT fs.length i (ks i)) → World → Prop)
    (W : World) (hJ : AbidesFrom W.heap.size J)
    (hY : ∀ pre x W, J pre W → pre.length < (ks i).length → YieldAt Fence.wide (n - 1) Try.prog l #[.int .i64 ((x.1 : Nat) : Int)] W fun e W' =>
      (e = .returned (.bool true) ∧ J (pre ++ [x]) W' ∧ KpC w0.heap.size b1 b2 W W') ∨ (e = .returned (.bool false) ∧ Jx (pre ++ [x]) W'))
    (hb1 : W.heap[b1]? = some (.cells #[.slice A fs.length c] 23 (0, 0))) (hb2 : W.heap[b2]? = some (.cells #[.int .i64 (i : Int)] 3 (0, 0))) (hW : Below w0.heap.size w0 W) (h0 : J [] W) :
    CallsIn Fence.wide n Try.prog 72 #[.func (.yield l) #[] #[], .pointer (some ⟨b1, 0, none⟩), .pointer (some ⟨b2, 0, none⟩)] W fun e W' => (∃ v, e = .returned v) ∧
      ((∃ ys, ys = kidsAll fs.length i (ks i) ∧ J ys W') ∨ (∃ pre, pre <+: kidsAll fs.length i (ks i) ∧ Jx pre W')) := by
  have hc1 : W.cell? ⟨b1, 0, none⟩ = some (.slice A fs.length c) := (blk_cell hb1 0).trans rfl
  have hc2 : W.cell? ⟨b2, 0, none⟩ = some (.int .i64 (i : Int)) := (blk_cell hb2 0).trans rfl
  obtain ⟨T, hT⟩ : ∃ T, fs[i]? = some T := ⟨_, List.getElem?_eq_getElem hi⟩
  obtain ⟨g, o, B, d, hA, hg, _, _, _, d3, _, hd, hI⟩ := hF i T hT
  have HI := Lib.hid hI
  have D3 : W.cell? ⟨g, o + i * 5 + 3, none⟩ = some (.slice B (ks i).length d) := by rw [hW.cell (p := ⟨g, o + i * 5 + 3, none⟩) hg]; exact d3
  have hi1 : (i : Int) < (fs.length : Int) := by omega
  have hi0 : (0 : Int) ≤ (i : Int) := by omega
  subst hA
  clear hT d3 hI
  refine callsIn_of_wp Try.func72 rfl trivial ?_ rfl
  simp only [Try.ntmps72, List.size_toArray, List.length_cons, List.length_nil, Nat.reduceAdd, Nat.reduceSub, Array.replicate_succ, Array.replicate_zero, List.push_toArray, List.append_toArray, List.nil_append, List.cons_append]
  gi_wp2
  gi_loopw [12] (fun x wr => ∃ k : Nat, k ≤ (ks i).length ∧ x = .int .i64 k ∧ J (kidsT fs.length i (ks i) k) wr ∧ Hid (Below w0.heap.size w0 wr) ∧ Hid (wr.heap[b1]? = some (.cells #[.slice (some ⟨g, o, none⟩) fs.length c] 23 (0, 0))) ∧ Hid (wr.heap[b2]? = some (.cells #[.int .i64 (i : Int)] 3 (0, 0)))) (fun x _ => (ks i).length - (intOf x).toNat)
  case atStart => exact ⟨0, Nat.zero_le _, rfl, h0, hW, hb1, hb2⟩
  case round =>
    obtain ⟨k, hk, rfl, hJs, hB, hb1r, hb2r⟩ := hrel
    by_cases hlt : k < (ks i).length
    · obtain ⟨g2, o2, hA2, hg2, c0⟩ := (HI.out.below hB.out) k hlt
      subst hA2
      obtain ⟨p, hp⟩ : ∃ p, p = (ks i).getD k 0 := ⟨_, rfl⟩
      rw [← hp] at c0
      have hpl := kidsT_len fs.length i (ks i) k
      have hcb1 : wr.cell? ⟨b1, 0, none⟩ = some (.slice (some ⟨g, o, none⟩) fs.length c) := (blk_cell hb1r.out 0).trans rfl
      have hcb2 : wr.cell? ⟨b2, 0, none⟩ = some (.int .i64 (i : Int)) := (blk_cell hb2r.out 0).trans rfl
      have HP := Lib.hid hp
      have hJ2 := Lib.hid hJs
      have q1 : (k : Int) < ((ks i).length : Int) := by omega
      have q0 : (0 : Int) ≤ (k : Int) := by omega
      have qd : decide ((k : Int) < ((ks i).length : Int)) = true := decide_eq_true q1
      have hw2 : IntKind.i64.wrap ((k : Int) + 1) = ((k + 1 : Nat) : Int) := by rw [IntWalk.i64_in _ (by omega)]; omega
      clear hp hJs
      by_cases h1 : (i : Int) < p
      · have a1 : decide ((i : Int) < p) = true := decide_eq_true h1
        have a1' : decide (p > (i : Int)) = true := decide_eq_true h1
        by_cases h2 : p < (fs.length : Int)
        · have a2 : decide (p < (fs.length : Int)) = true := decide_eq_true h2
          obtain ⟨hm, hyes⟩ := kidsT_yes (N := fs.length) (i := i) (l := ks i) hlt (by rw [← HP.out]; exact h1) (by rw [← HP.out]; exact h2)
          have HY := Lib.hid hyes
          obtain ⟨fn, tmps, assign, body, hy, hR⟩ := hY _ (⟨((ks i).getD k 0).toNat, hm⟩ : KidT fs.length i (ks i)) wr hJ2.out (by omega)
          dsimp only at hy
          have hpp : ((((ks i).getD k 0).toNat : Nat) : Int) = p := by rw [← HP.out]; omega
          rw [hpp] at hy
          clear hpp hyes
          gi_wp2
          refine hR.mono ?_
          rintro e W3 (⟨rfl, hJ4, hk4⟩ | ⟨rfl, hJx⟩)
          · have hJ5 := Lib.hid hJ4
            have hB5 := Lib.hid (hB.out.trans hk4.1)
            have hb5 := Lib.hid (hk4.2.1.trans hb1r.out)
            have hb6 := Lib.hid (hk4.2.2.trans hb2r.out)
            clear hJ4 hk4 hR hy
            gi_wp2
            go_roundw
            case measure => simp [intOf]; omega
            case rel => exact ⟨k + 1, by omega, by go_num, by rw [HY.out]; exact hJ5.out, hB5.out, hb5.out, hb6.out⟩
          · have hJ5 := Lib.hid hJx
            clear hJx hR hy
            gi_wp2
            refine bodyPost_ret (results_none rfl _ _ _) rfl ?_
            refine ⟨⟨_, rfl⟩, .inr ⟨kidsT fs.length i (ks i) (k + 1), kidsT_prefix _ _ _ _ (by omega), ?_⟩⟩
            rw [HY.out]
            exact hJ5.out
        · have a2 : decide (p < (fs.length : Int)) = false := decide_eq_false h2
          have HY := Lib.hid (kidsT_no (N := fs.length) (i := i) (l := ks i) hlt (by rw [← HP.out]; rintro ⟨_, h⟩; exact h2 h))
          gi_wp2
          go_roundw
          case measure => simp [intOf]; omega
          case rel => exact ⟨k + 1, by omega, by go_num, by rw [HY.out]; exact hJ2.out, hB.out, hb1r.out, hb2r.out⟩
      · have a1 : decide ((i : Int) < p) = false := decide_eq_false h1
        have a1' : decide (p > (i : Int)) = false := decide_eq_false h1
        have HY := Lib.hid (kidsT_no (N := fs.length) (i := i) (l := ks i) hlt (by rw [← HP.out]; rintro ⟨h, _⟩; exact h1 h))
        gi_wp2
        go_roundw
        case measure => simp [intOf]; omega
        case rel => exact ⟨k + 1, by omega, by go_num, by rw [HY.out]; exact hJ2.out, hB.out, hb1r.out, hb2r.out⟩
    · obtain rfl : k = (ks i).length := by omega
      gi_wp2
      go_end0
      exact ⟨⟨_, rfl⟩, .inl ⟨_, rfl, hJs⟩⟩
theorem kids_stops (n : Nat) (hn : 2 ≤ n) (b1 b2 : Nat) (A : Option Addr) (c : Nat) (fs : List FormP) (ks : Nat → List Int) (i : Nat) (hi : i < fs.length) (w0 w : World) (hF : FRow w0 A fs ks) (hN : fs.length ≤ 140737488351232) (hlen : (ks i).length ≤ 140737488351232)
    (hb1 : w.heap[b1]? = some (.cells #[.slice A fs.length c] 23 (0, 0))) (hb2 : w.heap[b2]? = some (.cells #[.int .i64 (i : Int)] 3 (0, 0))) (hw : Below w0.heap.size w0 w) :
    SeqStopsK Fence.wide n Try.prog 72 #[.pointer (some ⟨b1, 0, none⟩), .pointer (some ⟨b2, 0, none⟩)] (fun x : KidT fs.length i (ks i) => #[Value.int .i64 ((x.1 : Nat) : Int)]) (KpC w0.heap.size b1 b2) (fun ys => ys = kidsAll fs.length i (ks i)) (fun pre => pre <+: kidsAll fs.length i (ks i)) (ks i).length w :=
  fun l J Jx W hW hJ _ hY h0 => kids1_in n hn l b1 b2 A c fs ks i hi w0 hF hN hlen J Jx W hJ hY (blk_below hb1 hW) (blk_below hb2 hW) (below_then hw hw.size hW) h0
end Go.Proofs.Ytiojfdgagdofiaa.HP
/-
A region that draws its order, within a round of a range over a function: operations that only read, ahead of the last one.
-/
set_option linter.unusedVariables false
set_option linter.unusedSimpArgs false
namespace Go.Proofs.Ytiojfdgagdofiaa.HP
theorem rows_round {n : Nat} {P : Program} {row : String} {args : Array Value} {w : World} {R : Value → World → Prop} (l : Nat) (h : Rows P row args w R) : RowsIn (Fence.wide.inRound l) n P row args w R :=
  fun c cs _ => by
    obtain ⟨v, w', hr, hs⟩ := h c cs
    exact ⟨v, w', hr, stepsIn_wide.2 hs⟩
theorem oper_round {n l : Nat} {P : Program} {o : Oper} {a : Act} {w : World} {K : Act → World → Prop} {Q : Exit → Act → World → Prop} (hd : ∀ c, o.op ≠ .defer c) (h : o.wp P a w K Q) :
    o.wpIn (Fence.wide.inRound l) n P a w K Q := by
  refine ⟨fun _ _ => trivial, ?_⟩
  rw [Oper.semAt_eq _ _ _ hd]
  unfold Oper.wp at h
  generalize (execOp a.eval o).run P w = r at h ⊢
  cases r with
  | ok x w' =>
    cases x with
    | value v => exact h
    | skip => exact h
    | defer d => exact h
    | enter f args => exact ⟨fun hs => (by cases hs), (callsIn_wide (n := n - 1)).2 h⟩
    | row row args => exact ⟨fun hs => (by cases hs), rows_round l h⟩
    | _ => exact h.elim
  | halt x w' =>
    cases x with
    | panic v => exact h
    | _ => exact h.elim
def noDefers (l : List Oper) : Bool := l.all (fun o => match o.op with | .defer _ => false | _ => true)
theorem noDefers_at {l : List Oper} (h : noDefers l = true) {i : Nat} {o : Oper} (hi : l.toArray[i]? = some o) : ∀ c, o.op ≠ .defer c := by
  have hm : o ∈ l := by
    have := Array.mem_of_getElem? hi
    simpa using this
  have h1 := List.all_eq_true.1 h o hm
  intro c e
  rw [e] at h1
  cases h1
theorem op_round {n r : Nat} {P : Program} {l : List Oper} (hn : noDefers l = true) {Q : Exit → Act → World → Prop} (hL : ¬ LetsOut Q) {i : Nat} {K K' : Act → World → Prop} {a : Act} {w : World} (hK : ∀ a w, K a w → K' a w)
    (h : wpOp P l.toArray Q i K a w) : wpOpIn (Fence.wide.inRound r) n P l.toArray Q i K' a w := by
  unfold wpOp at h
  unfold wpOpIn
  cases ho : l.toArray[i]? with
  | none => rw [ho] at h; exact hK _ _ h
  | some o =>
    rw [ho] at h
    dsimp only at h ⊢
    split
    · rename_i hw
      rw [if_pos hw] at h
      exact Oper.wpIn_mono hK (oper_round (noDefers_at hn ho) (h.resolve_right fun x => hL x.2))
    · rename_i hw
      rw [if_neg hw] at h
      exact ⟨fun _ _ => trivial, hK _ _ h⟩
theorem any_round {n r : Nat} {P : Program} {md : Region.Mode} {l : List Oper} (hn : noDefers l = true) {Q : Exit → Act → World → Prop} (hL : ¬ LetsOut Q) : ∀ (f : Nat) (listed : Array Bool) (a : Act) (w : World),
    wpAny P md l.toArray Q f listed a w → wpAnyIn (Fence.wide.inRound r) n P md l.toArray Q f listed a w
  | 0, _, _, _, h => h
  | f + 1, _, _, _, h => ⟨h.1, fun i hi => op_round hn hL (fun a w => any_round hn hL f _ a w) (h.2 i hi)⟩
/-- The orders of a region whose first n operations only read, and whose rest come in the text's order: all come to one. -/
theorem any_tail {P : Program} {Q : Exit → Act → World → Prop} {a : Act} {w : World} {l : List Oper} {n : Nat} (hB : Region.lexTailB .any l.toArray n = true)
    (h : wpStill P l.toArray w (fun a' => wpList P l.toArray Q (l.drop n) a' w) (l.take n) a) :
    wpAny P .any l.toArray Q l.toArray.size (Array.replicate l.toArray.size false) a w := by
  unfold Region.lexTailB at hB
  obtain ⟨hB, hlex⟩ := Bool.and_eq_true_iff.1 hB
  obtain ⟨hB, hchain⟩ := Bool.and_eq_true_iff.1 hB
  obtain ⟨hB, hsink⟩ := Bool.and_eq_true_iff.1 hB
  obtain ⟨hsel, hlt⟩ := Bool.and_eq_true_iff.1 hB
  have hlt := of_decide_eq_true hlt
  have hsize : l.toArray.size = l.length := rfl
  have htake : (l.take n).length = n := by rw [List.length_take]; omega
  have hfresh : ∀ (k : Nat), (Array.replicate l.toArray.size false).getD k false = false := fun k => by simp [Array.getD]
  have hinv : HeadInv .any l.toArray n (Array.replicate l.toArray.size false) := by
    refine ⟨by simp, fun j oj _ hl => ?_, fun t ht1 ht2 => ?_⟩
    · rw [hfresh] at hl; cases hl
    · have h1 := hfresh t
      simp only [Array.getD, Array.size_replicate, ht2, dite_true] at h1 ⊢
      simp
  have hstart := wpAnyL_lex (P := P) (w := w) (g := l.toArray.size - n) (Lq := fun a' => wpList P l.toArray Q (l.drop n) a' w) hsel hsink hchain hlt (l.take n) 0 (Array.replicate l.toArray.size false) a
    (fun j hj => by
      rw [htake] at hj
      rw [List.getElem?_take, if_pos hj, Nat.zero_add]
      simp) (by rw [htake, Nat.zero_add]) hinv (by rw [htake]; exact hlex) h
  have hwhole := wpAny_of_head (P := P) (Q' := Q) (w := w) (g := (l.drop n).length) (fun listed a' (hL : Region.seqB .any l.toArray (l.toArray.size - n) n listed = true ∧ wpList P l.toArray Q (l.drop n) a' w) =>
    wpAny_of_seq (md := .any) (Q' := Q) (l.drop n) n listed a' w (fun j => by rw [List.getElem?_drop]; simp) (by rw [List.length_drop, ← hsize]; exact hL.1) hL.2) _ _ _ hstart
  rwa [htake, List.length_drop, ← hsize, show n + (l.toArray.size - n) = l.toArray.size by omega] at hwhole
theorem region_round {r m id n : Nat} {Q : Exit → Act → World → Prop} {a : Act} {w : World} {l : List Oper} (hm : Try.prog.follows .mixedOrders = true) (hB : Region.lexTailB .any l.toArray n = true) (hn : noDefers l = true) (hL : ¬ LetsOut Q)
    (h : wpStill Try.prog l.toArray w.drew (fun a' => wpList Try.prog l.toArray Q (l.drop n) a' w.drew) (l.take n) a) : (Code.region id l.toArray true).wpIn (Fence.wide.inRound r) m Try.prog Q a w :=
  wpIn_region_any hm (any_round hn hL _ _ _ _ (any_tail hB h))
end Go.Proofs.Ytiojfdgagdofiaa.HP
/-
tree.Depth over the translation: how deep forms are.
-/
set_option linter.unusedVariables false
set_option linter.unusedSimpArgs false
namespace Go.Proofs.Ytiojfdgagdofiaa.HP
open Go.RowKit Go.Proofs.Ytiojfdgagdofiaa.HB Go.Proofs.Ytiojfdgagdofiaa.HK Go.Proofs.YtiojfdgagdofiaaW.PrintWords Go.Proofs.YtiojfdgagdofiaaW.PrintLast Go.Proofs.YtiojfdgagdofiaaW.PrintMore
attribute [local go_sem] Oper.semAt_some wide_fn wide_depth
/-! ### deferred calls' blocks: one for each range over a function -/
def Marks (n₀ : Nat) (W : World) (ds : List Deferred) : Prop :=
  (∀ x ∈ ds, ∃ D, x.target = .collected D ∧ n₀ ≤ D ∧ W.heap[D]? = some (.deferred (some []))) ∧ ds.Pairwise (fun x y => ∀ D, x.target = .collected D → y.target ≠ .collected D)
theorem Marks.nil (n₀ : Nat) (W : World) : Marks n₀ W [] := ⟨fun x hx => by simp at hx, .nil⟩
theorem Marks.keeps {n₀ : Nat} {W W' : World} {ds : List Deferred} (h : Marks n₀ W ds) (hk : KeepsOthers W W') : Marks n₀ W' ds :=
  ⟨fun x hx => by obtain ⟨D, h1, h2, h3⟩ := h.1 x hx; exact ⟨D, h1, h2, hk.same D _ h3 rfl⟩, h.2⟩
theorem Marks.own {β : Type} {n₀ : Nat} {w : World} {ds : List Deferred} (h : Marks n₀ w ds) : OwnFrom w.heap.size (fun (_ : β) W => Marks n₀ W ds) := by
  intro s W W' row hs hg hr
  refine ⟨fun x hx => ?_, hs.2⟩
  obtain ⟨D, h1, h2, h3⟩ := hs.1 x hx
  obtain ⟨D', h1', _, h3'⟩ := h.1 x hx
  have e : D = D' := by rw [h1] at h1'; injection h1'
  subst e
  refine ⟨D, h1, h2, (hg.block D (blk_lt h3) ?_).trans h3⟩
  intro e
  have h4 := (hr D e.symm).1
  have h5 := blk_lt h3'
  omega
theorem Marks.cons {n₀ : Nat} {w W : World} {ds : List Deferred} (h : Marks n₀ W ds) (hold : Marks n₀ w ds) {D : Nat} (hn : n₀ ≤ w.heap.size) (hD : w.heap.size ≤ D) (hk : W.heap[D]? = some (.deferred (some []))) :
    Marks n₀ W ({ target := .collected D, args := #[] } :: ds) := by
  refine ⟨fun x hx => ?_, .cons (fun y hy D' e1 e2 => ?_) h.2⟩
  · rcases List.mem_cons.1 hx with rfl | hx
    · exact ⟨D, rfl, by omega, hk⟩
    · exact h.1 x hx
  · obtain ⟨D2, h1, _, h3⟩ := hold.1 y hy
    have h4 := blk_lt h3
    injection e1 with e1
    rw [h1] at e2
    injection e2 with e2
    omega
theorem leaves_marks {F : Fence} {n n₀ : Nat} {fn : Func} {tmps : Array Value} {R : Ending → World → Prop} : ∀ (ds : List Deferred) (W : World), Marks n₀ W ds →
    (∀ W', Below n₀ W W' → (∀ (k : Nat) (o : Obj), W.heap[k]? = some o → o.isCells = true → W'.heap[k]? = some o) → LeavesIn F n Try.prog fn tmps R [] .returning W') → LeavesInM F n Try.prog fn tmps R ds .returning W
  | [], W, _, hR => hR W (Below.refl _ _) (fun _ _ h _ => h)
  | x :: r, W, h, hR => by
    obtain ⟨D, h1, h2, h3⟩ := h.1 x List.mem_cons_self
    have hb : Below n₀ W (W.putObj D (.deferred none)) := (Below.refl n₀ W).grown (grownBy_putObj' W D _) (by have := blk_lt h3; omega) (fun k e => by cases e; omega)
    refine ⟨by simp, .inl ⟨D, _, h1, run_takeDeferred h3, leaves_marks r _ ⟨fun y hy => ?_, (List.pairwise_cons.1 h.2).2⟩ (fun W' hb' hk => hR W' (hb.trans hb') (fun k o ho hc => hk k o ?_ hc))⟩⟩
    · obtain ⟨D', g1, g2, g3⟩ := h.1 y (List.mem_cons_of_mem _ hy)
      refine ⟨D', g1, g2, ?_⟩
      rw [heap_putObj W D (.deferred none) (b := D') (fun e => (List.pairwise_cons.1 h.2).1 y hy D h1 (by rw [g1, e]))]
      exact g3
    · rw [heap_putObj W D (.deferred none) (b := k) (fun e => by subst e; rw [h3] at ho; cases ho; cases hc)]
      exact ho
/-! ### the row of depths -/
def dArr (N : Nat) (d : Nat → Nat) : Array Value := ((List.range N).map (fun j => Value.int .i64 ((d j : Nat) : Int))).toArray
theorem dArr_get (N : Nat) (d : Nat → Nat) (j : Nat) (h : j < N) : (dArr N d)[j]? = some (.int .i64 ((d j : Nat) : Int)) := by
  simp [dArr, h]
theorem dArr_set (N : Nat) (d : Nat → Nat) (i x : Nat) : (dArr N d).setIfInBounds i (.int .i64 (x : Int)) = dArr N (upd d i x) := by
  unfold dArr upd
  apply Array.ext_getElem?
  intro j
  rw [Array.getElem?_setIfInBounds]
  by_cases hj : i = j
  · subst hj
    by_cases hN : i < N <;> simp [hN]
  · have hj' : ¬ j = i := fun e => hj e.symm
    by_cases hN : j < N <;> simp [hj, hj', hN]
theorem dArr_put (N : Nat) (d : Nat → Nat) (i x y : Nat) : (dArr N (upd d i x)).setIfInBounds i (.int .i64 (y : Int)) = dArr N (upd d i y) := by
  rw [dArr_set]
  congr 1
  funext j
  unfold upd
  split <;> rfl
theorem dArr_congr (N : Nat) (d d' : Nat → Nat) (h : ∀ j, j < N → d j = d' j) : dArr N d = dArr N d' := by
  unfold dArr
  congr 1
  apply List.map_congr_left
  intro j hj
  rw [h j (List.mem_range.1 hj)]
theorem info3N : (Try.prog.info? 3).map (fun i => (i.zero, i.size, i.bytes)) = some (some (.int .i64 0), 1, 8) := by kernel_rfl
theorem make_full (n : Nat) (hn : n ≤ 1000000) (W : World) : (Instr.makeSlice 24 (.int .i64 (n : Int)) (.int .i64 (n : Int))).run Try.prog W = .ok (.slice (some ⟨W.heap.size, 0, none⟩) n n) (W.alloc (.cells (dArr n (fun _ => 0)) 3)) := by
  obtain ⟨i0, hi, hz0, hz1, hz2⟩ := info_parts info3N
  have h := run_make (P := Try.prog) W 24 3 i0 (.int .i64 0) Try.underlying24 hi hz0 .i64 .i64 (n : Int) (n : Int) (by omega) (Int.le_refl _) (by rw [hz2]; omega) (by omega)
  have e : madeCells (Value.int .i64 0).cells ((n : Int).toNat * i0.size) = dArr n (fun _ => 0) := by
    rw [Int.toNat_natCast, hz1, Nat.mul_one]
    unfold madeCells dArr
    apply Array.ext_getElem?
    intro j
    by_cases hj : j < n
    · simp [hj, Value.cells, Nat.mod_one]
    · simp [hj]
  rw [h, e, Int.toNat_natCast]
/-- What stands at the head of each round. -/
def DState (w W : World) (N BI : Nat) (iv : Int) (dd : Nat → Nat) : Prop :=
  W.heap[w.heap.size]? = some (.cells (dArr N dd) 3 (0, 0)) ∧ W.heap[w.heap.size + 1]? = some (.cells #[.slice (some ⟨w.heap.size, 0, none⟩) N N] 24 (0, 0)) ∧ W.heap[BI]? = some (.cells #[.int .i64 iv] 3 (0, 0)) ∧ w.heap.size + 1 < BI ∧ Below w.heap.size w W
def placeIn (W : World) (v : Value) : Nat := match v with | .pointer (some p) => (match W.cell? p with | some (.int _ x) => (x + 1).toNat | _ => 0) | _ => 0
theorem DState.place {w W : World} {N BI : Nat} {iv : Int} {dd : Nat → Nat} (h : DState w W N BI iv dd) : placeIn W (.pointer (some ⟨BI, 0, none⟩)) = (iv + 1).toNat := by
  unfold placeIn
  have := (blk_cell h.2.2.1 0)
  simp [this]
theorem DState.next {w W : World} {N BI : Nat} {iv : Int} {dd dd' : Nat → Nat} (h : DState w W N BI iv dd) (hd : ∀ j, j < N → dd j = dd' j) (x : Int) :
    DState w (W.alloc (.cells #[.int .i64 x] 3)) N W.heap.size x dd' := by
  obtain ⟨h1, h2, h3, h4, h5⟩ := h
  have l3 := blk_lt h3
  refine ⟨?_, ?_, ?_, by omega, ?_⟩
  · rw [← dArr_congr N dd dd' hd]
    exact blk_alloc h1 _
  · exact blk_alloc h2 _
  · exact blk_new W _
  · exact h5.alloc h5.size _
theorem maxTop_snoc (N : Nat) (d : Nat → Nat) (top : List Int) (k : Nat) (hk : k < top.length) :
    maxTop N d (top.take (k + 1)) = if 0 ≤ top.getD k 0 ∧ top.getD k 0 < (N : Int) then max (maxTop N d (top.take k)) (d (top.getD k 0).toNat) else maxTop N d (top.take k) := by
  unfold maxTop
  rw [List.take_succ_eq_append_getElem hk, List.filter_append, List.foldl_append, List.getD_eq_getElem?_getD, List.getElem?_eq_getElem hk]
  simp only [Option.getD_some]
  by_cases h : 0 ≤ top[k] ∧ top[k] < (N : Int)
  · rw [if_pos h]
    have : (decide (0 ≤ top[k]) && decide (top[k] < (N : Int))) = true := by simp [h.1, h.2]
    simp [this]
  · rw [if_neg h]
    have : (decide (0 ≤ top[k]) && decide (top[k] < (N : Int))) = false := by
      rw [Bool.and_eq_false_iff, decide_eq_false_iff_not, decide_eq_false_iff_not]; omega
    simp [this]
set_option maxHeartbeats 16000000 in
set_option maxRecDepth 100000 in
theorem depth_in (w : World) (A B : Option Addr) (c d : Nat) (fs : List FormP) (ks : Nat → List Int) (top : List Int) (hF : FRow w A fs ks) (hT : IRow w B top) (hN : fs.length ≤ 1000000) (hk : ∀ j, (ks j).length ≤ 140737488351232) (ht : top.length ≤ 140737488351232) :
    CallsIn Fence.wide 6 Try.prog 23 #[.slice A fs.length c, .slice B top.length d] w fun e W' => e = .returned (.int .i64 ((depthP fs.length (opOf fs) ks top : Nat) : Int)) ∧ Below w.heap.size w W' := by
  have hmk := fun W => make_full fs.length hN W
  have HF := Lib.hid hF
  have HT := Lib.hid hT
  have HK := Lib.hid hk
  clear hF hT hk
  refine callsIn_of_wp_marks Try.func23 rfl trivial ?_ rfl
  simp only [Try.ntmps23, List.size_toArray, List.length_cons, List.length_nil, Nat.reduceAdd, Nat.reduceSub, Array.replicate_succ, Array.replicate_zero, List.push_toArray, List.append_toArray, List.nil_append, List.cons_append]
  gi_wp2_with (fail)
  clear hmk
  have hst : Hid (DState w (((w.alloc (Obj.cells (dArr fs.length fun x => 0) 3)).alloc (Obj.cells #[Value.slice (some { block := w.heap.size, off := 0 }) fs.length fs.length] 24)).alloc (Obj.cells #[Value.int IntKind.i64 ((fs.length : Int) - 1)] 3)) fs.length (w.heap.size + 1 + 1) ((fs.length : Int) - 1) (deepA fs.length (opOf fs) ks 0)) := by
    refine ⟨blk_alloc (blk_alloc (blk_new w _) _) _, ?_, ?_, by omega, (((Below.refl _ w).alloc (Nat.le_refl _) _).alloc (by simp) _).alloc (by simp; omega) _⟩
    · refine blk_alloc ?_ _
      have := blk_new (w.alloc (Obj.cells (dArr fs.length fun x => 0) 3)) (Obj.cells #[Value.slice (some { block := w.heap.size, off := 0 }) fs.length fs.length] 24)
      rwa [World.size_alloc] at this
    · have := blk_new ((w.alloc (Obj.cells (dArr fs.length fun x => 0) 3)).alloc (Obj.cells #[Value.slice (some { block := w.heap.size, off := 0 }) fs.length fs.length] 24)) (Obj.cells #[Value.int IntKind.i64 ((fs.length : Int) - 1)] 3)
      rwa [World.size_alloc, World.size_alloc] at this
  refine wpIn_loop (fun a' W' => ∃ (ds : List Deferred) (m BI : Nat) (u7 u17 u18 u19 u20 u21 u22 u23 u24 u25 u26 u27 u28 u29 u30 u31 u32 u33 u34 u35 u36 u37 u38 u39 u40 u41 u42 u43 u44 u45 u46 u47 u48 u49 u50 u51 u52 : Value), a' = { tmps := #[Value.slice A fs.length c, Value.slice B top.length d, undef, undef, Value.int .i64 0, Value.pointer (some ⟨w.heap.size + 1, 0, none⟩), Value.pointer (some ⟨BI, 0, none⟩), u7, undef, undef, undef, Value.slice A fs.length c, Value.int .i64 (fs.length : Int), Value.slice (some ⟨w.heap.size, 0, none⟩) fs.length fs.length, Value.slice A fs.length c, Value.int .i64 (fs.length : Int), Value.int .i64 ((fs.length : Int) - 1), u17, u18, u19, u20, u21, u22, u23, u24, u25, u26, u27, u28, u29, u30, u31, u32, u33, u34, u35, u36, u37, u38, u39, u40, u41, u42, u43, u44, u45, u46, u47, u48, u49, u50, u51, u52, undef, undef, undef, undef, undef, undef, undef, undef, undef, undef, undef, undef, undef, undef, undef, undef, undef, undef, undef, undef, undef, undef], defers := ds } ∧ m ≤ fs.length ∧ Hid (DState w W' fs.length BI ((fs.length : Int) - 1 - (m : Int)) (deepA fs.length (opOf fs) ks m)) ∧ Hid (Marks w.heap.size W' ds)) (fun a' W' => placeIn W' (a'.tmps.getD 6 undef)) ?start ?round
  case start => exact ⟨[], 0, w.heap.size + 1 + 1, undef, undef, undef, undef, undef, undef, undef, undef, undef, undef, undef, undef, undef, undef, undef, undef, undef, undef, undef, undef, undef, undef, undef, undef, undef, undef, undef, undef, undef, undef, undef, undef, undef, undef, undef, undef, undef, rfl, Nat.zero_le _, by rw [show ((fs.length : Int) - 1 - ((0 : Nat) : Int)) = (fs.length : Int) - 1 by omega]; exact hst, Marks.nil _ _⟩
  case round =>
    rintro _ W ⟨ds, m, BI, u7, u17, u18, u19, u20, u21, u22, u23, u24, u25, u26, u27, u28, u29, u30, u31, u32, u33, u34, u35, u36, u37, u38, u39, u40, u41, u42, u43, u44, u45, u46, u47, u48, u49, u50, u51, u52, rfl, hm, hD, hM⟩
    have hmu : Hid (placeIn W (.pointer (some ⟨BI, 0, none⟩)) = (((fs.length : Int) - 1 - (m : Int)) + 1).toNat) := hD.out.place
    have x3 : W.cell? ⟨BI, 0, none⟩ = some (.int .i64 ((fs.length : Int) - 1 - (m : Int))) := (blk_cell hD.out.2.2.1 0).trans rfl
    clear hst
    by_cases hlt : m < fs.length
    · obtain ⟨i, hi⟩ : ∃ i, i = fs.length - 1 - m := ⟨_, rfl⟩
      have hi1 : ((fs.length : Int) - 1 - (m : Int)) = (i : Int) := by omega
      rw [hi1] at hD x3 hmu
      have hiN : i < fs.length := by omega
      have hw1 : IntKind.i64.wrap ((i : Int) - 1) = (i : Int) - 1 := IntWalk.i64_in _ (by omega)
      have q0 : decide ((0 : Int) ≤ (i : Int)) = true := decide_eq_true (by omega)
      have q0' : decide ((i : Int) ≥ 0) = true := decide_eq_true (by omega)
      have hi2 : (i : Int) < (fs.length : Int) := by omega
      have hi0 : (0 : Int) ≤ (i : Int) := by omega
      obtain ⟨T, hT⟩ : ∃ T, fs[i]? = some T := ⟨_, List.getElem?_eq_getElem hiN⟩
      obtain ⟨g, o, C, e, hA, hg, d0, _, _, _, _, _, _⟩ := (HF.out.below hD.out.2.2.2.2) i T hT
      have hop : Hid (opOf fs i = decide (T.k = 1)) := by
        show _ = _
        unfold opOf
        rw [List.getD_eq_getElem?_getD, hT]; rfl
      have hdm : Hid (∀ j, j < fs.length → j ≠ i → deepA fs.length (opOf fs) ks m j = deepA fs.length (opOf fs) ks (m + 1) j) := by
        intro j hj hne
        rw [deepA, if_neg (by omega)]
      have hd0 : Hid (deepA fs.length (opOf fs) ks m i = 0) := deepA_zero _ _ _ _ _ (by omega)
      have hd1 : Hid (deepA fs.length (opOf fs) ks (m + 1) i = if opOf fs i = true then deepNew fs.length i (deepA fs.length (opOf fs) ks m) (ks i) else 0) := by
        show _ = _
        rw [deepA, if_pos (by omega)]
      subst hA
      clear hT
      have HI := Lib.hid hi
      clear hi
      by_cases hk1 : T.k = 1
      · have b1 : (T.k != 1) = false := by simpa using hk1
        have hop2 : Hid (opOf fs i = true) := by show _ = _; rw [hop.out, decide_eq_true hk1]
        clear hk1 hop
        gi_wp2_with (gi_at_call 49; refine (kids_in Fence.wide _ trivial rfl (some ⟨g, o, none⟩) fs.length c (i : Int) _).mono ?_; rintro e w' ⟨rfl, rfl⟩)
        obtain ⟨dm, hdmE⟩ : ∃ dm, dm = deepA fs.length (opOf fs) ks m := ⟨_, rfl⟩
        rw [← hdmE] at hD hdm hd0 hd1
        have H13 : Hid (∀ j, dm j ≤ 13) := fun j => by rw [hdmE]; exact deepA_13 _ _ _ _ _
        clear hdmE
        have hki := HK.out i
        have k1 : ((W.alloc (.cells #[.slice (some ⟨g, o, none⟩) fs.length c] 23)).alloc (.cells #[.int .i64 (i : Int)] 3)).heap[W.heap.size]? = some (.cells #[.slice (some ⟨g, o, none⟩) fs.length c] 23 (0, 0)) := blk_alloc (blk_new W _) _
        have k2 : ((W.alloc (.cells #[.slice (some ⟨g, o, none⟩) fs.length c] 23)).alloc (.cells #[.int .i64 (i : Int)] 3)).heap[W.heap.size + 1]? = some (.cells #[.int .i64 (i : Int)] 3 (0, 0)) := by
          have := blk_new (W.alloc (.cells #[.slice (some ⟨g, o, none⟩) fs.length c] 23)) (.cells #[.int .i64 (i : Int)] 3)
          rwa [World.size_alloc] at this
        have hlW := hD.out.2.2.2.2.size
        have hbW : Below w.heap.size w ((W.alloc (.cells #[.slice (some ⟨g, o, none⟩) fs.length c] 23)).alloc (.cells #[.int .i64 (i : Int)] 3)) := (hD.out.2.2.2.2.alloc hlW _).alloc (by simp; omega) _
        have hsz : ((W.alloc (.cells #[.slice (some ⟨g, o, none⟩) fs.length c] 23)).alloc (.cells #[.int .i64 (i : Int)] 3)).heap.size = W.heap.size + 2 := by simp
        have hm1 : Marks w.heap.size ((W.alloc (.cells #[.slice (some ⟨g, o, none⟩) fs.length c] 23)).alloc (.cells #[.int .i64 (i : Int)] 3)) ds := hM.out.keeps ((KeepsOthers.alloc W _).trans (KeepsOthers.alloc _ _))
        have hu0 : upd dm i 0 = dm := by
          funext j
          unfold upd
          split
          · rename_i e; rw [e, hd0.out]
          · rfl
        have hblk : ((W.alloc (.cells #[.slice (some ⟨g, o, none⟩) fs.length c] 23)).alloc (.cells #[.int .i64 (i : Int)] 3)).heap[w.heap.size]? = some (.cells (dArr fs.length (upd dm i 0)) 3 (0, 0)) := by
          rw [hu0]; exact blk_alloc (blk_alloc hD.out.1 _) _
        have hbi := blk_lt hD.out.2.2.1
        have hbi0 := hD.out.2.2.2.1
        have hD2 := hD.out.2.1
        have hD3 := hD.out.2.2.1
        have HD := Lib.hid hD.out
        have HMU := Lib.hid hmu.out
        have HFh := HF.out
        clear hmu hu0 hM hD
        obtain ⟨W1, hW1⟩ : ∃ W1, W1 = (W.alloc (.cells #[.slice (some ⟨g, o, none⟩) fs.length c] 23)).alloc (.cells #[.int .i64 (i : Int)] 3) := ⟨_, rfl⟩
        have hD2' : W1.heap[w.heap.size + 1]? = some (.cells #[.slice (some ⟨w.heap.size, 0, none⟩) fs.length fs.length] 24 (0, 0)) := by rw [hW1]; exact blk_alloc (blk_alloc hD2 _) _
        have hD3' : W1.heap[BI]? = some (.cells #[.int .i64 (i : Int)] 3 (0, 0)) := by rw [hW1]; exact blk_alloc (blk_alloc hD3 _) _
        rw [← hW1] at k1 k2 hbW hsz hm1 hblk ⊢
        refine wpIn_rangeFunc_ownF rfl (by omega) (gf := 72) (lb := #[.pointer (some ⟨W.heap.size, 0, none⟩), .pointer (some ⟨W.heap.size + 1, 0, none⟩)]) rfl trivial (enters_of Try.func72 (by kernel_rfl) rfl)
          (kids_stops 5 (by omega) W.heap.size (W.heap.size + 1) (some ⟨g, o, none⟩) c fs ks i hiN w W1 HFh (by omega) hki k1 k2 hbW) kpc_t (kpc_b (by omega) (by omega) (by omega)) (Below.refl _ _) (fun _ => rfl)
          (fun pre V => (V.heap[w.heap.size]? = some (.cells (dArr fs.length (upd dm i (pre.foldl (fun a (k : KidT fs.length i (ks i)) => max a (dm k.1)) 0))) 3 (0, 0)) ∧ V.heap[w.heap.size + 1]? = some (.cells #[.slice (some ⟨w.heap.size, 0, none⟩) fs.length fs.length] 24 (0, 0)) ∧ V.heap[BI]? = some (.cells #[.int .i64 (i : Int)] 3 (0, 0))) ∧ (Below w.heap.size w V ∧ Marks w.heap.size V ds))
          (fun _ _ _ => False)
          (OwnFrom.and (Own.from (fun s X Y row hs hg hr => ⟨(grownBy_keeps_cells hg hr hs.1 rfl).trans hs.1, (grownBy_keeps_cells hg hr hs.2.1 rfl).trans hs.2.1, (grownBy_keeps_cells hg hr hs.2.2 rfl).trans hs.2.2⟩) _) (OwnFrom.and (ownFrom_below (Nat.le_refl _) (by omega)) (Marks.own hm1)))
          (fun _ _ _ _ _ hs _ _ => hs)
          ⟨⟨hblk, hD2', hD3'⟩, hbW, hm1⟩
          (fun x => { tmps := #[Value.slice (some ⟨g, o, none⟩) fs.length c, Value.slice B top.length d, undef, undef, Value.int .i64 0, Value.pointer (some ⟨w.heap.size + 1, 0, none⟩), Value.pointer (some ⟨BI, 0, none⟩), Value.int .i64 ((x.1 : Nat) : Int), undef, undef, undef, Value.slice (some ⟨g, o, none⟩) fs.length c, Value.int .i64 (fs.length : Int), Value.slice (some ⟨w.heap.size, 0, none⟩) fs.length fs.length, Value.slice (some ⟨g, o, none⟩) fs.length c, Value.int .i64 (fs.length : Int), Value.int .i64 ((fs.length : Int) - 1), Value.int .i64 (i : Int), Value.bool true, u19, u20, Value.slice (some ⟨g, o, none⟩) fs.length c, Value.int .i64 (i : Int), Value.pointer (some ⟨g, o + i * 5, none⟩), Value.pointer (some ⟨g, o + i * 5, none⟩), Value.int .u8 T.k, Value.bool false, Value.slice (some ⟨g, o, none⟩) fs.length c, Value.int .i64 (i : Int), Value.func (.func 72) #[] #[.pointer (some ⟨W.heap.size, 0, none⟩), .pointer (some ⟨W.heap.size + 1, 0, none⟩)], Value.int .i64 ((x.1 : Nat) : Int), u31, u32, u33, u34, u35, u36, u37, u38, u39, u40, u41, u42, u43, u44, u45, u46, u47, u48, u49, u50, u51, u52, undef, undef, undef, undef, undef, undef, undef, undef, undef, undef, undef, undef, undef, undef, undef, undef, undef, undef, undef, undef, undef, undef], defers := [] }) ?assign ?body ?done ?stop
        case assign =>
          intro l x V K hK
          gi_wp2
          exact hK
        case body =>
          rintro l pre x V ⟨⟨v1, v2, v3⟩, v4, v5⟩ hlen2
          obtain ⟨k, hkm⟩ := x
          have hkk := kidsB_mem hkm
          obtain ⟨cur, hcur⟩ : ∃ cur, cur = pre.foldl (fun a (k : KidT fs.length i (ks i)) => max a (dm k.1)) 0 := ⟨_, rfl⟩
          rw [← hcur] at v1
          have y0 : V.cell? ⟨w.heap.size, i, none⟩ = some (.int .i64 (cur : Int)) := by rw [blk_cell v1, dArr_get _ _ _ hiN, upd_same]
          have y1 : V.cell? ⟨w.heap.size, k, none⟩ = some (.int .i64 ((dm k : Nat) : Int)) := by rw [blk_cell v1, dArr_get _ _ _ hkk.2, upd_other _ _ (by omega)]
          have y2 : V.cell? ⟨w.heap.size + 1, 0, none⟩ = some (.slice (some ⟨w.heap.size, 0, none⟩) fs.length fs.length) := (blk_cell v2 0).trans rfl
          have y3 : V.cell? ⟨BI, 0, none⟩ = some (.int .i64 (i : Int)) := (blk_cell v3 0).trans rfl
          have y4 : V.frozen? ⟨w.heap.size, i, none⟩ = false := blk_frozen v1 i
          have z1 : (k : Int) < (fs.length : Int) := by omega
          have z0 : (0 : Int) ≤ (k : Int) := by omega
          obtain ⟨dk, hdk⟩ : ∃ dk, dk = dm k := ⟨_, rfl⟩
          rw [← hdk] at y1
          have HC := Lib.hid hcur
          have HDK := Lib.hid hdk
          clear hcur hdk
          gi_wp2
          refine region_round (n := 12) (by kernel_rfl) (by kernel_rfl) (by kernel_rfl) (by rintro ⟨_, _, h⟩; exact h) ?_
          simp only [List.take_succ_cons, List.take_zero, List.drop_succ_cons, List.drop_zero]
          repeat still_step
          try refine wpStill_nil ?_
          change wpList _ _ _ _ _ V.drew
          go_wp2
          rw [show max (cur : Int) (dk : Int) = ((max cur dk : Nat) : Int) by omega]
          refine ⟨(KeepsOthers.setCell V _ _).trans (KeepsOthers.drew _), ⟨below_drew ((Below.refl w.heap.size V).setCell (p := ⟨w.heap.size, i, none⟩) (Nat.le_refl _) _), Below.heap_setCell _ _ _ _ (by show W.heap.size ≠ w.heap.size; omega), Below.heap_setCell _ _ _ _ (by show W.heap.size + 1 ≠ w.heap.size; omega)⟩, ⟨?_, blk_far v2 (by show w.heap.size + 1 ≠ w.heap.size; omega) _, blk_far v3 (by show BI ≠ w.heap.size; omega) _⟩, below_drew (v4.setCell (p := ⟨w.heap.size, i, none⟩) (Nat.le_refl _) _), v5.keeps ((KeepsOthers.setCell V _ _).trans (KeepsOthers.drew _))⟩
          rw [List.foldl_append, ← HC.out]
          show _ = some (Obj.cells (dArr fs.length (upd dm i (max cur (dm k)))) 3 (0, 0))
          rw [← HDK.out, ← dArr_put fs.length dm i cur (max cur dk)]
          exact blk_set v1 i _
        case done =>
          rintro D ys V hDD rfl ⟨⟨v1, v2, v3⟩, v4, v5⟩ hK
          obtain ⟨cur, hcur⟩ : ∃ cur, cur = (kidsAll fs.length i (ks i)).foldl (fun a (k : KidT fs.length i (ks i)) => max a (dm k.1)) 0 := ⟨_, rfl⟩
          rw [← hcur] at v1
          have y0 : V.cell? ⟨w.heap.size, i, none⟩ = some (.int .i64 (cur : Int)) := by rw [blk_cell v1, dArr_get _ _ _ hiN, upd_same]
          have y2 : V.cell? ⟨w.heap.size + 1, 0, none⟩ = some (.slice (some ⟨w.heap.size, 0, none⟩) fs.length fs.length) := (blk_cell v2 0).trans rfl
          have y3 : V.cell? ⟨BI, 0, none⟩ = some (.int .i64 (i : Int)) := (blk_cell v3 0).trans rfl
          have y4 : V.frozen? ⟨w.heap.size, i, none⟩ = false := blk_frozen v1 i
          have hc13 : cur ≤ 13 := by rw [hcur]; exact foldl_max_le _ 13 _ 0 (by omega) (fun x _ => H13.out _)
          have HC := Lib.hid hcur
          clear hcur
          gi_wp2
          refine wpIn_wide.2 ?_
          go_still_tail 9, (by kernel_rfl)
          change wpList _ _ _ _ _ V.drew
          go_wp2
          rw [show min ((cur : Int) + 1) 13 = ((min (cur + 1) 13 : Nat) : Int) by omega]
          obtain ⟨Vn, hVn⟩ : ∃ Vn, Vn = (V.setCell ⟨w.heap.size, i, none⟩ (.int .i64 ((min (cur + 1) 13 : Nat) : Int))).drew := ⟨_, rfl⟩
          have hnew : Hid (min (cur + 1) 13 = deepA fs.length (opOf fs) ks (m + 1) i) := by
            show _ = _
            rw [hd1.out, hop2.out, if_pos rfl]
            unfold deepNew
            rw [← kidsAll_val, List.foldl_map, HC.out]
          have hDn : Hid (DState w Vn fs.length BI (i : Int) (deepA fs.length (opOf fs) ks (m + 1))) := by
            rw [hVn]
            refine ⟨?_, blk_far v2 (by show w.heap.size + 1 ≠ w.heap.size; omega) _, blk_far v3 (by show BI ≠ w.heap.size; omega) _, hbi0, below_drew (v4.setCell (p := ⟨w.heap.size, i, none⟩) (Nat.le_refl _) _)⟩
            rw [← dArr_congr fs.length (upd dm i (min (cur + 1) 13)) _ (fun j hj => by
              by_cases e : j = i
              · subst e; rw [upd_same]; exact hnew.out
              · rw [upd_other _ _ e]; exact hdm.out j hj e), ← dArr_put fs.length dm i cur (min (cur + 1) 13)]
            exact blk_set v1 i _
          have hMn : Hid (Marks w.heap.size Vn ({ target := .collected D, args := #[] } :: ds)) := by
            rw [hVn]
            exact (v5.cons hm1 (by omega) hDD hK).keeps ((KeepsOthers.setCell V _ _).trans (KeepsOthers.drew _))
          rw [← hVn]
          have hD2n := Lib.hid (hDn.out.next (fun _ _ => rfl) ((i : Int) - 1))
          have hM2n : Hid (Marks w.heap.size (Vn.alloc (.cells #[.int .i64 ((i : Int) - 1)] 3)) ({ target := .collected D, args := #[] } :: ds)) := hMn.out.keeps (KeepsOthers.alloc Vn _)
          have x3n : Vn.cell? ⟨BI, 0, none⟩ = some (.int .i64 (i : Int)) := (blk_cell hDn.out.2.2.1 0).trans rfl
          clear hVn v1 v2 v3 y0 y2 y3 y4
          gi_wp2
          refine ⟨⟨{ target := .collected D, args := #[] } :: ds, m + 1, Vn.heap.size, _, _, _, _, _, _, _, _, _, _, _, _, _, _, _, _, _, _, _, _, _, _, _, _, _, _, _, _, _, _, _, _, _, _, _, _, _, rfl, by omega, by rw [show ((fs.length : Int) - 1 - ((m + 1 : Nat) : Int)) = (i : Int) - 1 by have := HI.out; omega]; exact hD2n, hM2n⟩, ?_⟩
          show placeIn _ (.pointer (some ⟨Vn.heap.size, 0, none⟩)) < placeIn W (.pointer (some ⟨BI, 0, none⟩))
          rw [hD2n.out.place, HMU.out]
          omega
        case stop =>
          rintro D c pre V _ _ h _
          exact h.elim
      · have b1 : (T.k != 1) = true := by simpa using hk1
        have hD2 := Lib.hid (hD.out.next (dd' := deepA fs.length (opOf fs) ks (m + 1)) (fun j hj => by
          by_cases e : j = i
          · subst e; rw [hd0.out, hd1.out, hop.out, decide_eq_false hk1]; rfl
          · exact hdm.out j hj e) ((i : Int) - 1))
        have hM2 : Hid (Marks w.heap.size (W.alloc (.cells #[.int .i64 ((i : Int) - 1)] 3)) ds) := hM.out.keeps (KeepsOthers.alloc W _)
        clear hk1
        gi_wp2
        refine ⟨⟨ds, m + 1, W.heap.size, _, _, _, _, _, _, _, _, _, _, _, _, _, _, _, _, _, _, _, _, _, _, _, _, _, _, _, _, _, _, _, _, _, _, _, _, _, rfl, by omega, by rw [show ((fs.length : Int) - 1 - ((m + 1 : Nat) : Int)) = (i : Int) - 1 by have := HI.out; omega]; exact hD2, hM2⟩, ?_⟩
        show placeIn _ (.pointer (some ⟨W.heap.size, 0, none⟩)) < placeIn W (.pointer (some ⟨BI, 0, none⟩))
        rw [hD2.out.place, hmu.out]
        omega
    · obtain rfl : m = fs.length := by omega
      have q0 : decide ((0 : Int) ≤ (fs.length : Int) - 1 - (fs.length : Int)) = false := decide_eq_false (by omega)
      have q0' : decide ((fs.length : Int) - 1 - (fs.length : Int) ≥ 0) = false := decide_eq_false (by omega)
      have x2 : W.cell? ⟨w.heap.size + 1, 0, none⟩ = some (.slice (some ⟨w.heap.size, 0, none⟩) fs.length fs.length) := (blk_cell hD.out.2.1 0).trans rfl
      have hm1 : ((fs.length : Int) - 1 - (fs.length : Int)) = -1 := by omega
      rw [hm1] at x3 q0 q0'
      have HDD := Lib.hid hD.out
      clear hD hmu hm1
      gi_wp2_with (fail)
      have HX := Lib.hid (fun j (hj : j < fs.length) => (blk_cell HDD.out.1 j).trans (dArr_get fs.length (deepA fs.length (opOf fs) ks fs.length) j hj))
      have HI := HT.out.below HDD.out.2.2.2.2
      have HI2 := Lib.hid HI
      clear HI x3 q0 q0'
      obtain ⟨dd, hdd⟩ : ∃ dd, dd = deepA fs.length (opOf fs) ks fs.length := ⟨_, rfl⟩
      rw [← hdd] at HX
      have HDP : Hid (depthP fs.length (opOf fs) ks top = maxTop fs.length dd top) := by rw [hdd]; exact rfl
      have H13 : Hid (∀ j, dd j ≤ 13) := fun j => by rw [hdd]; exact deepA_13 _ _ _ _ _
      clear hdd
      gi_loop [8, 55] (fun s i => ∃ k : Nat, k ≤ top.length ∧ i = .int .i64 (k : Int) ∧ s = .int .i64 ((maxTop fs.length dd (top.take k) : Nat) : Int)) (fun _ i => top.length - (intOf i).toNat)
      case atStart => exact ⟨0, Nat.zero_le _, rfl, rfl⟩
      case round =>
        obtain ⟨k, hk, rfl, rfl⟩ := hrel
        by_cases hlt : k < top.length
        · obtain ⟨g, o, hA, _, c0⟩ := HI2.out k hlt
          subst hA
          have hs := maxTop_snoc fs.length dd top k hlt
          obtain ⟨p, hp⟩ : ∃ p, p = top.getD k 0 := ⟨_, rfl⟩
          rw [← hp] at c0 hs
          obtain ⟨M, hM0⟩ : ∃ M, M = maxTop fs.length dd (top.take k) := ⟨_, rfl⟩
          rw [← hM0] at hs ⊢
          have HS := Lib.hid hs
          have HM0 := Lib.hid hM0
          have q1 : (k : Int) < (top.length : Int) := by omega
          have q0 : (0 : Int) ≤ (k : Int) := by omega
          have qd : decide ((k : Int) < (top.length : Int)) = true := decide_eq_true q1
          have hw : IntKind.i64.wrap ((k : Int) + 1) = ((k + 1 : Nat) : Int) := by rw [IntWalk.i64_in _ (by omega)]; omega
          clear hp hs hM0
          by_cases h1 : 0 ≤ p
          · have a1 : decide (0 ≤ p) = true := decide_eq_true h1
            have a1' : decide (p ≥ 0) = true := decide_eq_true h1
            by_cases h2 : p < (fs.length : Int)
            · have a2 : decide (p < (fs.length : Int)) = true := decide_eq_true h2
              obtain ⟨n, rfl⟩ : ∃ n : Nat, p = (n : Int) := ⟨p.toNat, by omega⟩
              have y0 := HX.out n (by omega)
              have HS2 : Hid (maxTop fs.length dd (top.take (k + 1)) = max M (dd n)) := by
                have := HS.out
                rw [if_pos ⟨h1, h2⟩, Int.toNat_natCast] at this
                exact this
              obtain ⟨v, hv⟩ : ∃ v, v = dd n := ⟨_, rfl⟩
              rw [← hv] at y0 HS2
              clear hv
              gi_wp2
              go_round
              case measure => simp [intOf]; omega
              case rel => exact ⟨k + 1, by omega, by first | rfl | (rw [hw]) | simp, by rw [HS2.out]; first | rfl | (congr 1; omega) | (split <;> congr 1 <;> omega)⟩
            · have a2 : decide (p < (fs.length : Int)) = false := decide_eq_false h2
              have HS2 : Hid (maxTop fs.length dd (top.take (k + 1)) = M) := by
                have := HS.out
                rw [if_neg (by rintro ⟨_, h⟩; exact h2 h)] at this
                exact this
              gi_wp2
              go_round
              case measure => simp [intOf]; omega
              case rel => exact ⟨k + 1, by omega, by first | rfl | (rw [hw]) | simp, by rw [HS2.out]⟩
          · have a1 : decide (0 ≤ p) = false := decide_eq_false h1
            have a1' : decide (p ≥ 0) = false := decide_eq_false h1
            have HS2 : Hid (maxTop fs.length dd (top.take (k + 1)) = M) := by
              have := HS.out
              rw [if_neg (by rintro ⟨h, _⟩; exact h1 h)] at this
              exact this
            gi_wp2
            go_round
            case measure => simp [intOf]; omega
            case rel => exact ⟨k + 1, by omega, by first | rfl | (rw [hw]) | simp, by rw [HS2.out]⟩
        · obtain rfl : k = top.length := by omega
          have qd : decide ((top.length : Int) < (top.length : Int)) = false := decide_eq_false (by omega)
          rw [List.take_length, ← HDP.out]
          gi_wp2
          exact leaves_marks ds W hM.out (fun W' hb _ => ⟨_, results_tmp rfl _ _ _, rfl, HDD.out.2.2.2.2.trans hb⟩)
end Go.Proofs.Ytiojfdgagdofiaa.HP
/-
tree.Right over the translation: whether forms can be.
-/
set_option linter.unusedVariables false
set_option linter.unusedSimpArgs false
namespace Go.Proofs.Ytiojfdgagdofiaa.HP
open Go.RowKit Go.Proofs.Ytiojfdgagdofiaa.HB Go.Proofs.Ytiojfdgagdofiaa.HK Go.Proofs.YtiojfdgagdofiaaW.PrintWords Go.Proofs.YtiojfdgagdofiaaW.PrintLast Go.Proofs.YtiojfdgagdofiaaW.PrintMore
theorem depth_calls (w : World) (A B : Option Addr) (c d : Nat) (fs : List FormP) (ks : Nat → List Int) (top : List Int) (hF : FRow w A fs ks) (hT : IRow w B top) (hN : fs.length ≤ 1000000) (hk : ∀ j, (ks j).length ≤ 140737488351232) (ht : top.length ≤ 140737488351232) :
    Calls Try.prog 23 #[.slice A fs.length c, .slice B top.length d] w fun e W' => e = .returned (.int .i64 ((depthP fs.length (opOf fs) ks top : Nat) : Int)) ∧ Below w.heap.size w W' :=
  callsIn_wide.1 (depth_in w A B c d fs ks top hF hT hN hk ht)
def oneB (fs : List FormP) (ks : Nat → List Int) (j : Nat) : Bool := aloneB (fs.getD j noForm) (ks j).length
def allB (fs : List FormP) (ks : Nat → List Int) : Bool := (List.range fs.length).all (oneB fs ks)
def rightB (fs : List FormP) (ks : Nat → List Int) (top : List Int) : Bool :=
  decide (fs.length ≤ 400) && (allB fs ks && (decide (goP fs.length ks top = some fs.length) && decide (depthP fs.length (opOf fs) ks top ≤ 12)))
def RightEnds (b : Bool) (w : World) (e : Ending) (w' : World) : Prop := e = .returned (.bool b) ∧ Below w.heap.size w w'
set_option maxHeartbeats 8000000 in
set_option maxRecDepth 100000 in
theorem right_calls (w : World) (A B : Option Addr) (c d : Nat) (fs : List FormP) (ks : Nat → List Int) (top : List Int) (hF : FRow w A fs ks) (hT : IRow w B top) (hN : fs.length ≤ 140737488351232) (hk : ∀ j, (ks j).length ≤ 140737488351232) (ht : top.length ≤ 140737488351232)
    (htx : ∀ f ∈ fs, f.t.size ≤ 140737488351232) :
    Calls Try.prog 22 #[.slice A fs.length c, .slice B top.length d] w fun e W' => RightEnds (rightB fs ks top) w e W' := by
  have HF := Lib.hid hF
  have HT := Lib.hid hT
  have HK := Lib.hid hk
  have HX := Lib.hid htx
  clear hF hT hk htx
  by_cases h400 : fs.length ≤ 400
  · have q1 : decide ((fs.length : Int) > 400) = false := decide_eq_false (by omega)
    have q2 : decide ((400 : Int) < (fs.length : Int)) = false := decide_eq_false (by omega)
    have HR : Hid (rightB fs ks top = (allB fs ks && (decide (goP fs.length ks top = some fs.length) && decide (depthP fs.length (opOf fs) ks top ≤ 12)))) := by
      show _ = _
      unfold rightB
      rw [decide_eq_true h400, Bool.true_and]
    go_enter Try.func22, Try.ntmps22
    go_wp2_with (fail)
    go_loopw [14] (fun i wr => ∃ j : Nat, i = .int .i64 (j : Int) ∧ j ≤ fs.length ∧ Hid (∀ k, k < j → oneB fs ks k = true) ∧ Hid (Below w.heap.size w wr)) (fun i _ => fs.length - (intOf i).toNat)
    case atStart => exact ⟨0, rfl, Nat.zero_le _, fun k h => by omega, Below.refl _ _⟩
    case round =>
      obtain ⟨j, rfl, hj, hA, hB⟩ := hrel
      by_cases hlt : j < fs.length
      · obtain ⟨T, hT⟩ : ∃ T, fs[j]? = some T := ⟨_, List.getElem?_eq_getElem hlt⟩
        obtain ⟨g, o, C, e, hAd, hg, d0, d1, d2, d3, d4, _, _⟩ := (HF.out.below hB.out) j T hT
        subst hAd
        have hone : Hid (oneB fs ks j = aloneB T (ks j).length) := by
          show _ = _
          unfold oneB
          rw [List.getD_eq_getElem?_getD, hT]; rfl
        have htt := HX.out T (List.mem_of_getElem? hT)
        have HTT := Lib.hid htt
        have qd : decide ((j : Int) < (fs.length : Int)) = true := decide_eq_true (by omega)
        have z1 : (j : Int) < (fs.length : Int) := by omega
        have z0 : (0 : Int) ≤ (j : Int) := by omega
        have hw : IntKind.i64.wrap ((j : Int) + 1) = ((j + 1 : Nat) : Int) := by rw [IntWalk.i64_in _ (by omega)]; omega
        have hb1 : Hid (Below w.heap.size w (wr.alloc (.cells #[.int .u8 T.k, .string T.t, .int .i64 T.n, .slice C (ks j).length e, .int .i64 T.at_] 40))) := hB.out.alloc hB.out.size _
        clear hT htt
        go_wp2_with (fail)
        refine (alone_calls T C (ks j).length e _ HTT.out).mono ?_
        rintro e' w' ⟨he, hbe⟩
        have hb2 : Hid (Below w.heap.size w w') := below_then hb1.out hb1.out.size hbe
        rw [← hone.out] at he
        clear hbe
        by_cases hok : oneB fs ks j = true
        · rw [hok] at he
          subst he
          have hA2 : Hid (∀ k, k < j + 1 → oneB fs ks k = true) := by
            intro k hk
            by_cases e1 : k = j
            · subst e1; exact hok
            · exact hA.out k (by omega)
          clear hok
          go_wp2
          go_roundw
          case measure => simp [intOf]; omega
          case rel => exact ⟨j + 1, by first | rfl | (rw [hw]) | simp, by omega, hA2, hb2⟩
        · have hok' : oneB fs ks j = false := by simpa using hok
          rw [hok'] at he
          subst he
          have hno : Hid (rightB fs ks top = false) := by
            show _ = _
            rw [HR.out]
            have : allB fs ks = false := by
              unfold allB
              rw [List.all_eq_false]
              exact ⟨j, List.mem_range.2 hlt, hok⟩
            rw [this, Bool.false_and]
          clear hok hok'
          go_wp2
          go_ret
          exact ⟨by rw [hno.out]; rfl, hb2.out⟩
      · obtain rfl : j = fs.length := by omega
        have qd : decide ((fs.length : Int) < (fs.length : Int)) = false := decide_eq_false (by omega)
        have hall : Hid (allB fs ks = true) := by
          show _ = _
          unfold allB
          rw [List.all_eq_true]
          intro k hk
          exact hA.out k (List.mem_range.1 hk)
        have HFr := Lib.hid (HF.out.below hB.out)
        have HTr := Lib.hid (HT.out.below hB.out)
        have hn6 : fs.length ≤ 1000000 := by omega
        clear hA
        go_wp2_with (fail)
        refine (walk_calls wr A c fs ks HFr.out hn6 HK.out fs.length B d top 0 HTr.out ht (Nat.zero_le _) (by omega)).mono ?_
        rintro e' w' ⟨he, rfl⟩
        have hgp : Hid (goL fs.length (subF fs.length ks fs.length) top 0 = goP fs.length ks top) := rfl
        rw [hgp.out] at he
        clear hgp
        cases hg : goP fs.length ks top with
        | none =>
          rw [hg] at he
          obtain ⟨x, rfl⟩ := he
          have hno : Hid (rightB fs ks top = false) := by
            show _ = _
            rw [HR.out, hg, decide_eq_false (by simp), Bool.false_and, Bool.and_false]
          clear hg
          go_wp2
          go_ret
          exact ⟨by rw [hno.out]; rfl, hB.out⟩
        | some y =>
          rw [hg] at he
          replace he : e' = .returned (.tuple #[.int .i64 (y : Int), .bool true]) := he
          subst he
          by_cases hy : y = fs.length
          · have b1 : ((y : Int) == (fs.length : Int)) = true := by rw [hy]; simp
            obtain ⟨D, hD⟩ : ∃ D, D = depthP fs.length (opOf fs) ks top := ⟨_, rfl⟩
            have hR2 : Hid (rightB fs ks top = decide (D ≤ 12)) := by
              show _ = _
              rw [HR.out, hall.out, hg, hy, decide_eq_true rfl, Bool.true_and, Bool.true_and, hD]
            have hdc := depth_calls w' A B c d fs ks top HFr.out HTr.out hn6 HK.out ht
            rw [← hD] at hdc
            have HDC := Lib.hid hdc
            subst hy
            clear hg hdc hD
            go_wp2_with (fail)
            refine HDC.out.mono ?_
            rintro e' w'' ⟨rfl, hbd⟩
            have hb3 : Hid (Below w.heap.size w w'') := below_then hB.out hB.out.size hbd
            clear hbd
            by_cases hd : D ≤ 12
            · have q3 : decide ((D : Int) ≤ 12) = true := decide_eq_true (by omega)
              have hR3 : Hid (rightB fs ks top = true) := by show _ = _; rw [hR2.out, decide_eq_true hd]
              clear hd
              go_wp2
              go_ret
              exact ⟨by rw [hR3.out]; rfl, hb3.out⟩
            · have q3 : decide ((D : Int) ≤ 12) = false := decide_eq_false (by omega)
              have hR3 : Hid (rightB fs ks top = false) := by show _ = _; rw [hR2.out, decide_eq_false hd]
              clear hd
              go_wp2
              go_ret
              exact ⟨by rw [hR3.out]; rfl, hb3.out⟩
          · have b1 : ((y : Int) == (fs.length : Int)) = false := by rw [beq_eq_false_iff_ne]; omega
            have hno : Hid (rightB fs ks top = false) := by
              show _ = _
              rw [HR.out, hg, decide_eq_false (by simpa using hy), Bool.false_and, Bool.and_false]
            clear hg hy
            go_wp2
            go_ret
            exact ⟨by rw [hno.out]; rfl, hB.out⟩
  · have q1 : decide ((fs.length : Int) > 400) = true := decide_eq_true (by omega)
    have q2 : decide ((400 : Int) < (fs.length : Int)) = true := decide_eq_true (by omega)
    have HR : Hid (rightB fs ks top = false) := by
      show _ = _
      unfold rightB
      rw [decide_eq_false h400, Bool.false_and]
    go_enter Try.func22, Try.ntmps22
    go_wp2
    go_ret
    exact ⟨by rw [HR.out]; rfl, Below.refl _ _⟩
end Go.Proofs.Ytiojfdgagdofiaa.HP
/-
What a list that grows in a box leaves as it was; Below's function value over the translation: it adds a place, up to 400.
-/
set_option linter.unusedVariables false
set_option linter.unusedSimpArgs false
namespace Go.Proofs.Ytiojfdgagdofiaa.HP
open Go.RowKit Go.Proofs.Ytiojfdgagdofiaa.HB Go.Proofs.Ytiojfdgagdofiaa.HK Go.Proofs.YtiojfdgagdofiaaW.PrintWords Go.Proofs.YtiojfdgagdofiaaW.PrintLast Go.Proofs.YtiojfdgagdofiaaW.PrintMore
/-- A list in the box at block B, whose row lies at n₀ or behind. -/
def BoxRow (n₀ B : Nat) (W : World) (v : Value) (l : List Int) : Prop :=
  W.heap[B]? = some (.cells #[v] 24 (0, 0)) ∧ W.ownsRow n₀ 3 1 v l.length (nums .i64 l)
/-- The row lies where it lay, or at b or behind. -/
def Fresh (b : Nat) (v v' : Value) : Prop := v'.ownBlock = v.ownBlock ∨ ∃ k, v'.ownBlock = some k ∧ b ≤ k
/-- All blocks below b but the box and the row are as they were. -/
def SameBut (B : Nat) (v : Value) (b : Nat) (W W' : World) : Prop := ∀ k, k < b → k ≠ B → some k ≠ v.ownBlock → W'.heap[k]? = W.heap[k]?
structure Moved (n₀ B : Nat) (v : Value) (W W' : World) (v' : Value) : Prop where
  same : SameBut B v W.heap.size W W'
  fresh : Fresh W.heap.size v v'
  below : Below n₀ W W'
theorem Moved.refl (n₀ B : Nat) (v : Value) (W : World) : Moved n₀ B v W W v := ⟨fun _ _ _ _ => rfl, .inl rfl, Below.refl _ _⟩
theorem Fresh.mono {b b' : Nat} {v v' : Value} (h : Fresh b v v') (hb : b' ≤ b) : Fresh b' v v' := by
  rcases h with h | ⟨k, h, hk⟩
  · exact .inl h
  · exact .inr ⟨k, h, by omega⟩
theorem Fresh.trans {b : Nat} {v1 v2 v3 : Value} (h : Fresh b v1 v2) (k : Fresh b v2 v3) : Fresh b v1 v3 := by
  rcases k with k | k
  · rcases h with h | ⟨j, h, hj⟩
    · exact .inl (k.trans h)
    · exact .inr ⟨j, k.trans h, hj⟩
  · exact .inr k
theorem Moved.trans {n₀ B : Nat} {v1 v2 v3 : Value} {W1 W2 W3 : World} (h : Moved n₀ B v1 W1 W2 v2) (k : Moved n₀ B v2 W2 W3 v3) : Moved n₀ B v1 W1 W3 v3 := by
  refine ⟨fun j hj hB hv => ?_, h.fresh.trans (k.fresh.mono h.below.size), h.below.trans k.below⟩
  have hs := h.below.size
  rw [k.same j (by omega) hB ?_, h.same j hj hB hv]
  intro e
  rcases h.fresh with f | ⟨i, f, hi⟩
  · exact hv (e.trans f)
  · rw [f] at e
    injection e with e
    omega
theorem Moved.block {n₀ B : Nat} {v v' : Value} {W W' : World} (h : Moved n₀ B v W W' v') {k : Nat} {o : Obj} (hk : W.heap[k]? = some o) (hB : k ≠ B) (hv : some k ≠ v.ownBlock) : W'.heap[k]? = some o :=
  (h.same k (blk_lt hk) hB hv).trans hk
theorem BoxRow.box_ne {n₀ B : Nat} {W : World} {v : Value} {l : List Int} (h : BoxRow n₀ B W v l) : some B ≠ v.ownBlock := own_ne h.2 h.1 (by decide)
theorem Moved.keeps {n₀ B : Nat} {v v' : Value} {W W' : World} {l : List Int} (h : Moved n₀ B v W W' v') (hb : BoxRow n₀ B W v l) : KeepsOthers W W' := by
  refine ⟨h.below.size, fun k o hk ho => h.block hk (fun e => ?_) (fun e => ?_)⟩
  · subst e
    rw [hb.1] at hk
    cases hk
    cases ho
  · obtain ⟨cells, hc⟩ := own_typed hb.2 k e.symm
    rw [hc] at hk
    cases hk
    cases ho
theorem BoxRow.alloc {n₀ B : Nat} {W : World} {v : Value} {l : List Int} (h : BoxRow n₀ B W v l) (o : Obj) : BoxRow n₀ B (W.alloc o) v l :=
  ⟨blk_alloc h.1 o, own_move h.2 (fun k hk => Below.heap_alloc W o k (own_lt h.2 k hk))⟩
theorem Moved.alloc {n₀ B : Nat} {v : Value} (W : World) (o : Obj) (hn : n₀ ≤ W.heap.size) : Moved n₀ B v W (W.alloc o) v :=
  ⟨fun k hk _ _ => Below.heap_alloc W o k hk, .inl rfl, (Below.refl _ _).alloc hn o⟩
theorem BoxRow.setCell {n₀ B : Nat} {W : World} {v : Value} {l : List Int} (h : BoxRow n₀ B W v l) {g : Nat} (hB : B ≠ g) (hv : some g ≠ v.ownBlock) (j : Nat) (u : Value) : BoxRow n₀ B (W.setCell ⟨g, j, none⟩ u) v l :=
  ⟨blk_far h.1 hB u, own_setCell h.2 hv u⟩
theorem BoxRow.kept {n₀ B : Nat} {W W' : World} {v : Value} {l : List Int} (h : BoxRow n₀ B W v l) {row : Option Nat} (hg : W.grownBy W' row) (hr : ∀ r, row = some r → ∃ o : Obj, W.heap[r]? = some o ∧ o.isCells = false) : BoxRow n₀ B W' v l := by
  refine ⟨(grownBy_keeps_cells hg hr h.1 rfl).trans h.1, own_move h.2 (fun k hk => ?_)⟩
  obtain ⟨cells, hc⟩ := own_typed h.2 k hk
  exact grownBy_keeps_cells hg hr hc rfl
theorem Moved.kept {n₀ B : Nat} {v v' : Value} {W0 W W' : World} (h : Moved n₀ B v W0 W v') {b : Nat} (hb : W0.heap.size ≤ b) (hn : n₀ ≤ W0.heap.size) {row : Option Nat} (hg : W.grownBy W' row) (hr : ∀ r, row = some r → b ≤ r ∧ ∃ o : Obj, W.heap[r]? = some o ∧ o.isCells = false) : Moved n₀ B v W0 W' v' := by
  have hs := h.below.size
  refine ⟨fun k hk hB hv => (hg.block k (by omega) (fun e => ?_)).trans (h.same k hk hB hv), h.fresh, ?_⟩
  · have := (hr k e.symm).1; omega
  · cases row with
    | none => exact h.below.grown hg (by omega) (fun k e => by cases e)
    | some r => exact h.below.grown hg (by have := (hr r rfl).1; obtain ⟨_, o, ho, _⟩ := hr r rfl; have := blk_lt ho; omega) (fun k e => by cases e; have := (hr r rfl).1; omega)
set_option maxHeartbeats 4000000 in
set_option maxRecDepth 100000 in
/-- Below's function value: no room. -/
theorem more_full (n₀ B : Nat) (W : World) (v : Value) (l : List Int) (k : Int) (h : BoxRow n₀ B W v l) (hl : l.length = 400) :
    Calls Try.prog 71 #[.int .i64 k, .pointer (some ⟨B, 0, none⟩)] W fun e W' => e = .returned (.bool false) ∧ W' = W := by
  obtain ⟨A, c, hv⟩ := own_slice h.2
  have c0 : W.cell? ⟨B, 0, none⟩ = some (.slice A 400 c) := by rw [blk_cell h.1, hv, hl]; rfl
  clear hv hl h
  go_enter Try.func71, Try.ntmps71
  go_wp2
  go_ret
  exact ⟨rfl, rfl⟩
set_option maxHeartbeats 4000000 in
set_option maxRecDepth 100000 in
/-- Below's function value: a place more. -/
theorem more_one (n₀ B : Nat) (W : World) (v : Value) (l : List Int) (k : Int) (h : BoxRow n₀ B W v l) (hl : l.length < 400) (hn : n₀ ≤ B) :
    Calls Try.prog 71 #[.int .i64 k, .pointer (some ⟨B, 0, none⟩)] W fun e W' => e = .returned (.bool true) ∧ ∃ v', BoxRow n₀ B W' v' (l ++ [k]) ∧ Moved n₀ B v W W' v' := by
  obtain ⟨A, c, hv⟩ := own_slice h.2
  have c0 : W.cell? ⟨B, 0, none⟩ = some (.slice A l.length c) := by rw [blk_cell h.1, hv]; rfl
  have f0 : W.frozen? ⟨B, 0, none⟩ = false := blk_frozen h.1 0
  have hBW := blk_lt h.1
  have b1 : ((l.length : Int) == 400) = false := by rw [beq_eq_false_iff_ne]; omega
  have H := Lib.hid h
  have HV := Lib.hid hv
  have hO := h.2
  rw [hv] at hO
  have HO := Lib.hid hO
  have HB : Hid (Below n₀ W W) := Below.refl _ _
  have hlong : (l.length + 1) * 8 ≤ 140737488355328 := by omega
  have hnW : n₀ ≤ W.heap.size := by omega
  clear h hv hO
  go_enter Try.func71, Try.ntmps71
  go_wp2_with (at_builtin; refine print_append_num (w0 := W) n₀ rfl (.tmp 7) (.tmp 9) 24 3 .i64 8 rfl Try.underlying24 info3 (Nat.succ_pos 7) (.slice A l.length c) l k rfl rfl HO.out HB.out hnW hlong ?_)
  intro v1 w1 hown1 hb1 hg1 hat1
  have hbox1 : w1.heap[B]? = some (.cells #[v] 24 (0, 0)) := blk_grown H.out.1 hg1 (by have := H.out.box_ne; rw [HV.out] at this; exact this)
  have f1 : w1.frozen? ⟨B, 0, none⟩ = false := blk_frozen hbox1 0
  have c1 : w1.cell? ⟨B, 0, none⟩ = some v := by rw [blk_cell hbox1]; rfl
  obtain ⟨g5, cap5, rfl, _, _⟩ := hown1.form (by simp)
  have hne : some B ≠ (Value.slice (some ⟨g5, 0, none⟩) (l.length + 1) cap5).ownBlock := own_ne hown1 hbox1 (by decide)
  have hfin : Hid (∃ v', BoxRow n₀ B (w1.setCell ⟨B, 0, none⟩ (.slice (some ⟨g5, 0, none⟩) (l.length + 1) cap5)) v' (l ++ [k]) ∧ Moved n₀ B v W (w1.setCell ⟨B, 0, none⟩ (.slice (some ⟨g5, 0, none⟩) (l.length + 1) cap5)) v') := by
    refine ⟨.slice (some ⟨g5, 0, none⟩) (l.length + 1) cap5, ⟨blk_set hbox1 0 _, by rw [List.length_append, List.length_singleton]; exact own_setCell hown1 hne _⟩, ⟨fun j hj hB hv => ?_, ?_, ?_⟩⟩
    · rw [Below.heap_setCell _ _ _ _ hB]
      refine hg1.block j hj ?_
      rw [← HV.out]
      exact hv
    · rw [HV.out]
      exact hat1
    · exact hb1.setCell (p := ⟨B, 0, none⟩) hn _
  clear hown1 hb1 hg1 hat1 hne hbox1
  go_wp2
  go_ret
  refine ⟨rfl, ?_⟩
  have := hfin.out
  simpa using this
end Go.Proofs.Ytiojfdgagdofiaa.HP
/-
tree.below, tree.Below and tree.Size over the translation: the places below one.
-/
set_option linter.unusedVariables false
set_option linter.unusedSimpArgs false
namespace Go.Proofs.Ytiojfdgagdofiaa.HP
open Go.RowKit Go.Proofs.Ytiojfdgagdofiaa.HB Go.Proofs.Ytiojfdgagdofiaa.HK Go.Proofs.YtiojfdgagdofiaaW.PrintWords Go.Proofs.YtiojfdgagdofiaaW.PrintLast Go.Proofs.YtiojfdgagdofiaaW.PrintMore
attribute [local go_sem] Oper.semAt_some wide_fn wide_depth
def ints (l : List Nat) : List Int := l.map (fun (k : Nat) => (k : Int))
theorem ints_length (l : List Nat) : (ints l).length = l.length := by simp [ints]
/-- How the call ends. -/
def BelowEnds (n₀ B : Nat) (v : Value) (W : World) (l : List Int) (e : Ending) (W' : World) : Prop :=
  e = .returned (.bool (decide (l.length ≤ 400))) ∧ ∃ v', BoxRow n₀ B W' v' (l.take 400) ∧ Moved n₀ B v W W' v'
theorem ints_append (l m : List Nat) : ints (l ++ m) = ints l ++ ints m := by simp [ints]
/-- The list when so many kids have been gone through. -/
def soFar (N : Nat) (ks : Nat → List Int) (i : Nat) (l : List Int) (p : List (KidT N i (ks i))) : List Int := l ++ ints (pre N ks (p.map Subtype.val))
theorem soFar_snoc (N : Nat) (ks : Nat → List Int) (i : Nat) (l : List Int) (p : List (KidT N i (ks i))) (x : KidT N i (ks i)) : soFar N ks i l (p ++ [x]) = (soFar N ks i l p ++ [(x.1 : Int)]) ++ ints (bel N ks x.1) := by
  unfold soFar
  rw [List.map_append, pre_append, ints_append, List.map_singleton, pre_cons]
  simp [HP.pre, ints]
theorem soFar_all (N : Nat) (ks : Nat → List Int) (i : Nat) (l : List Int) : soFar N ks i l (kidsAll N i (ks i)) = l ++ ints (bel N ks i) := by
  unfold soFar
  rw [kidsAll_val, ← bel_pre]
theorem soFar_prefix {N : Nat} {ks : Nat → List Int} {i : Nat} {l : List Int} {p : List (KidT N i (ks i))} (h : p <+: kidsAll N i (ks i)) (hl : 400 < (soFar N ks i l p).length) :
    (l ++ ints (bel N ks i)).take 400 = (soFar N ks i l p).take 400 ∧ 400 < (l ++ ints (bel N ks i)).length := by
  obtain ⟨r, hr⟩ := h
  have e : l ++ ints (bel N ks i) = soFar N ks i l p ++ ints (pre N ks (r.map Subtype.val)) := by
    rw [← soFar_all, ← hr]
    unfold soFar
    rw [List.map_append, pre_append, ints_append, List.append_assoc]
  rw [e]
  exact ⟨List.take_append_of_le_length (by omega), by rw [List.length_append]; omega⟩
theorem Moved.setCell {n₀ B : Nat} {v v' : Value} {W W' : World} (h : Moved n₀ B v W W' v') {g : Nat} (hg : W.heap.size ≤ g) (hn : n₀ ≤ g) (j : Nat) (u : Value) : Moved n₀ B v W (W'.setCell ⟨g, j, none⟩ u) v' :=
  ⟨fun k hk hB hv => (Below.heap_setCell _ _ _ _ (by show k ≠ g; omega)).trans (h.same k hk hB hv), h.fresh, h.below.setCell (p := ⟨g, j, none⟩) hn u⟩
set_option maxHeartbeats 8000000 in
set_option maxRecDepth 100000 in
theorem below_calls (w : World) (A : Option Addr) (c B : Nat) (fs : List FormP) (ks : Nat → List Int) (hF : FRow w A fs ks) (hN : fs.length ≤ 140737488351232) (hk : ∀ j, (ks j).length ≤ 140737488351232) (hB : w.heap.size ≤ B) :
    ∀ (d i : Nat) (W : World) (v : Value) (l : List Int), fs.length - i = d → i < fs.length → BoxRow w.heap.size B W v l → l.length ≤ 400 → Below w.heap.size w W →
    Calls Try.prog 70 #[.slice A fs.length c, .int .i64 (i : Int), .func (.func 71) #[] #[.pointer (some ⟨B, 0, none⟩)]] W fun e W' => BelowEnds w.heap.size B v W (l ++ ints (bel fs.length ks i)) e W' := by
  have HF := Lib.hid hF
  have HK := Lib.hid hk
  clear hF hk
  intro d
  induction d using Nat.strongRecOn with
  | _ d ih =>
    intro i W v l hd hi hR hl hW
    have IH : Hid (∀ (k : Nat) (W : World) (v : Value) (l : List Int), i < k → k < fs.length → BoxRow w.heap.size B W v l → l.length ≤ 400 → Below w.heap.size w W → Calls Try.prog 70 #[.slice A fs.length c, .int .i64 (k : Int), .func (.func 71) #[] #[.pointer (some ⟨B, 0, none⟩)]] W fun e W' => BelowEnds w.heap.size B v W (l ++ ints (bel fs.length ks k)) e W') :=
      fun k W v l h1 h2 => ih (fs.length - k) (by omega) k W v l rfl h2
    have HR := Lib.hid hR
    have HW := Lib.hid hW
    have hBW := blk_lt hR.1
    have hnW := hW.size
    clear ih hR hW hd
    refine (callsIn_wide (n := 6)).1 ?_
    refine callsIn_of_wp_marks Try.func70 rfl trivial ?_ rfl
    simp only [Try.ntmps70, List.size_toArray, List.length_cons, List.length_nil, Nat.reduceAdd, Nat.reduceSub, Array.replicate_succ, Array.replicate_zero, List.push_toArray, List.append_toArray, List.nil_append, List.cons_append]
    gi_wp2_with (gi_at_call 49; refine (kids_in Fence.wide _ trivial rfl A fs.length c (i : Int) _).mono ?_; rintro e w' ⟨rfl, rfl⟩)
    obtain ⟨W1, hW1⟩ : ∃ W1, W1 = ((((W.alloc (.cells #[.slice A fs.length c] 23)).alloc (.cells #[.func (.func 71) #[] #[.pointer (some ⟨B, 0, none⟩)]] 110)).alloc (.cells #[.bool false] 4)).alloc (.cells #[.slice A fs.length c] 23)).alloc (.cells #[.int .i64 (i : Int)] 3) := ⟨_, rfl⟩
    rw [← hW1]
    have hsz : W1.heap.size = W.heap.size + 5 := by rw [hW1]; simp
    have hmv : Moved w.heap.size B v W W1 v := by
      rw [hW1]
      exact ((((Moved.alloc W _ hnW).trans (Moved.alloc _ _ (by simp; omega))).trans (Moved.alloc _ _ (by simp; omega))).trans (Moved.alloc _ _ (by simp; omega))).trans (Moved.alloc _ _ (by simp; omega))
    have hbx : BoxRow w.heap.size B W1 v l := by
      rw [hW1]
      exact ((((HR.out.alloc _).alloc _).alloc _).alloc _).alloc _
    have k1 : W1.heap[W.heap.size]? = some (.cells #[.slice A fs.length c] 23 (0, 0)) := by
      rw [hW1]; exact blk_alloc (blk_alloc (blk_alloc (blk_alloc (blk_new W _) _) _) _) _
    have k2 : W1.heap[W.heap.size + 1]? = some (.cells #[.func (.func 71) #[] #[.pointer (some ⟨B, 0, none⟩)]] 110 (0, 0)) := by
      rw [hW1]
      refine blk_alloc (blk_alloc (blk_alloc ?_ _) _) _
      have := blk_new (W.alloc (.cells #[.slice A fs.length c] 23)) (.cells #[.func (.func 71) #[] #[.pointer (some ⟨B, 0, none⟩)]] 110)
      simpa using this
    have k3 : W1.heap[W.heap.size + 1 + 1]? = some (.cells #[.bool false] 4 (0, 0)) := by
      rw [hW1]
      refine blk_alloc (blk_alloc ?_ _) _
      have := blk_new ((W.alloc (.cells #[.slice A fs.length c] 23)).alloc (.cells #[.func (.func 71) #[] #[.pointer (some ⟨B, 0, none⟩)]] 110)) (.cells #[.bool false] 4)
      simpa using this
    have k4 : W1.heap[W.heap.size + 1 + 1 + 1]? = some (.cells #[.slice A fs.length c] 23 (0, 0)) := by
      rw [hW1]
      refine blk_alloc ?_ _
      have := blk_new (((W.alloc (.cells #[.slice A fs.length c] 23)).alloc (.cells #[.func (.func 71) #[] #[.pointer (some ⟨B, 0, none⟩)]] 110)).alloc (.cells #[.bool false] 4)) (.cells #[.slice A fs.length c] 23)
      simpa using this
    have k5 : W1.heap[W.heap.size + 1 + 1 + 1 + 1]? = some (.cells #[.int .i64 (i : Int)] 3 (0, 0)) := by
      rw [hW1]
      have := blk_new ((((W.alloc (.cells #[.slice A fs.length c] 23)).alloc (.cells #[.func (.func 71) #[] #[.pointer (some ⟨B, 0, none⟩)]] 110)).alloc (.cells #[.bool false] 4)).alloc (.cells #[.slice A fs.length c] 23)) (.cells #[.int .i64 (i : Int)] 3)
      simpa using this
    have hrow : ∀ x, W.heap.size ≤ x → some x ≠ v.ownBlock := fun x hx e => by have := own_lt HR.out.2 x e.symm; omega
    have hbw1 : Below w.heap.size w W1 := HW.out.trans hmv.below
    clear hW1
    refine wpIn_rangeFunc_ownF rfl (by omega) (gf := 72) (lb := #[.pointer (some ⟨W.heap.size + 1 + 1 + 1, 0, none⟩), .pointer (some ⟨W.heap.size + 1 + 1 + 1 + 1, 0, none⟩)]) rfl trivial (enters_of Try.func72 (by kernel_rfl) rfl)
      (kids_stops 5 (by omega) (W.heap.size + 1 + 1 + 1) (W.heap.size + 1 + 1 + 1 + 1) A c fs ks i hi w W1 HF.out hN (HK.out i) k4 k5 hbw1) kpc_t (kpc_b (by omega) (by omega) (by omega)) (Below.refl _ _) (fun _ => rfl)
      (fun p V => ∃ u, BoxRow w.heap.size B V u (soFar fs.length ks i l p) ∧ Moved w.heap.size B v W1 V u ∧ (soFar fs.length ks i l p).length ≤ 400)
      (fun cc p V => cc = .ret ∧ ∃ u, BoxRow w.heap.size B V u ((soFar fs.length ks i l p).take 400) ∧ Moved w.heap.size B v W V u ∧ 400 < (soFar fs.length ks i l p).length ∧ V.heap[W.heap.size + 1 + 1]? = some (.cells #[.bool false] 4 (0, 0)))
      (fun s X Y row hs hg hr => by
        obtain ⟨u, h1, h2, h3⟩ := hs
        exact ⟨u, h1.kept hg (fun r e => (hr r e).2), h2.kept (Nat.le_refl _) (by omega) hg hr, h3⟩)
      (fun cc s X Y row hs hg hr => by
        obtain ⟨hc, u, h1, h2, h3, h4⟩ := hs
        exact ⟨hc, u, h1.kept hg (fun r e => (hr r e).2), h2.kept (by omega) hnW hg hr, h3, (grownBy_keeps_cells hg (fun r e => (hr r e).2) h4 rfl).trans h4⟩)
      ⟨v, by simpa [soFar, HP.pre, ints] using hbx, Moved.refl _ _ _ _, by simpa [soFar, HP.pre, ints] using hl⟩
      (fun x => { tmps := #[.slice A fs.length c, .int .i64 (i : Int), .func (.func 71) #[] #[.pointer (some ⟨B, 0, none⟩)], .pointer (some ⟨W.heap.size, 0, none⟩), undef, .pointer (some ⟨W.heap.size + 1, 0, none⟩), .pointer (some ⟨W.heap.size + 1 + 1, 0, none⟩), .int .i64 ((x.1 : Nat) : Int), .slice A fs.length c, .int .i64 (i : Int), .func (.func 72) #[] #[.pointer (some ⟨W.heap.size + 1 + 1 + 1, 0, none⟩), .pointer (some ⟨W.heap.size + 1 + 1 + 1 + 1, 0, none⟩)], .int .i64 ((x.1 : Nat) : Int), undef, undef, undef, undef, undef, undef, undef, undef, undef, undef, undef], defers := [] }) ?assign ?body ?done ?stop
    case assign =>
      intro l' x V K hK
      gi_wp2
      exact hK
    case body =>
      rintro l' p x V ⟨u, h1, h2, h3⟩ hlen2
      have hsn := Lib.hid (soFar_snoc fs.length ks i l p x)
      obtain ⟨k, hkm⟩ := x
      have hkk := kidsB_mem hkm
      obtain ⟨L, hL⟩ : ∃ L, L = soFar fs.length ks i l p := ⟨_, rfl⟩
      rw [← hL] at h1 h3 hsn
      have hV2 := h2.below.size
      have hur : ∀ x, W.heap.size ≤ x → x < W1.heap.size → some x ≠ u.ownBlock := by
        intro x hx hx2 e
        rcases h2.fresh with f | ⟨b, f, hb⟩
        · exact hrow x hx (e.trans f)
        · rw [f] at e; injection e with e; omega
      have v1 : V.heap[W.heap.size]? = some (.cells #[.slice A fs.length c] 23 (0, 0)) := h2.block k1 (by omega) (hrow _ (by omega))
      have v2 : V.heap[W.heap.size + 1]? = some (.cells #[.func (.func 71) #[] #[.pointer (some ⟨B, 0, none⟩)]] 110 (0, 0)) := h2.block k2 (by omega) (hrow _ (by omega))
      have v3 : V.heap[W.heap.size + 1 + 1]? = some (.cells #[.bool false] 4 (0, 0)) := h2.block k3 (by omega) (hrow _ (by omega))
      have y1 : V.cell? ⟨W.heap.size, 0, none⟩ = some (.slice A fs.length c) := (blk_cell v1 0).trans rfl
      have y2 : V.cell? ⟨W.heap.size + 1, 0, none⟩ = some (.func (.func 71) #[] #[.pointer (some ⟨B, 0, none⟩)]) := (blk_cell v2 0).trans rfl
      have y3 : V.cell? ⟨W.heap.size + 1 + 1, 0, none⟩ = some (.bool false) := (blk_cell v3 0).trans rfl
      have f3 : V.frozen? ⟨W.heap.size + 1 + 1, 0, none⟩ = false := blk_frozen v3 0
      have H1 := Lib.hid h1
      have H2 := Lib.hid h2
      clear hL h1 h2 k1 k2 k3 k4 k5
      by_cases h4 : L.length = 400
      · have hmore := more_full w.heap.size B V u L (k : Int) H1.out h4
        have HM := Lib.hid hmore
        have H4 := Lib.hid h4
        clear hmore h4
        gi_wp2_with (gi_at_call 71; refine (CallsIn.inRound l' ((callsIn_wide (n := 3)).2 HM.out)).mono ?_; rintro e w' ⟨rfl, rfl⟩)
        refine ⟨KeepsOthers.setCell _ _ _, rfl, u, ?_, (hmv.trans H2.out).setCell (by omega) (by omega) _ _, ?_, blk_set v3 0 _⟩
        · rw [hsn.out, List.append_assoc, List.take_append_of_le_length (by rw [H4.out]; exact Nat.le_refl _), List.take_of_length_le (by rw [H4.out]; exact Nat.le_refl _)]
          exact H1.out.setCell (by omega) (hur _ (by omega) (by omega)) _ _
        · rw [hsn.out, List.append_assoc, List.length_append, H4.out, List.length_append, List.length_singleton]; omega
      · have hM : Hid (Calls Try.prog 71 #[.int .i64 (k : Int), .pointer (some ⟨B, 0, none⟩)] V fun e V2 => e = .returned (.bool true) ∧ ∃ u2, BoxRow w.heap.size B V2 u2 (L ++ [(k : Int)]) ∧ Moved w.heap.size B u V V2 u2 ∧ V2.cell? ⟨W.heap.size, 0, none⟩ = some (.slice A fs.length c) ∧ V2.cell? ⟨W.heap.size + 1, 0, none⟩ = some (.func (.func 71) #[] #[.pointer (some ⟨B, 0, none⟩)])) := by
          refine (more_one w.heap.size B V u L (k : Int) H1.out (by omega) hB).mono ?_
          rintro e V2 ⟨he, u2, hb2, hm2⟩
          exact ⟨he, u2, hb2, hm2, (blk_cell (hm2.block v1 (by omega) (hur _ (by omega) (by omega))) 0).trans rfl, (blk_cell (hm2.block v2 (by omega) (hur _ (by omega) (by omega))) 0).trans rfl⟩
        have hWV : Hid (Below w.heap.size w V) := hbw1.trans H2.out.below
        by_cases ht : (soFar fs.length ks i l (p ++ [⟨k, hkm⟩])).length ≤ 400
        · have hI : Hid (∀ V2 u2, BoxRow w.heap.size B V2 u2 (L ++ [(k : Int)]) → Moved w.heap.size B u V V2 u2 → Calls Try.prog 70 #[.slice A fs.length c, .int .i64 (k : Int), .func (.func 71) #[] #[.pointer (some ⟨B, 0, none⟩)]] V2 fun e V3 => e = .returned (.bool true) ∧ ∃ u3, BoxRow w.heap.size B V3 u3 (soFar fs.length ks i l (p ++ [⟨k, hkm⟩])) ∧ Moved w.heap.size B u V V3 u3) := by
            intro V2 u2 hb2 hm2
            refine (IH.out k V2 u2 (L ++ [(k : Int)]) hkk.1 hkk.2 hb2 (by rw [List.length_append, List.length_singleton]; omega) (hWV.out.trans hm2.below)).mono ?_
            rintro e V3 ⟨he, u3, hb3, hm3⟩
            rw [← hsn.out] at he hb3
            rw [decide_eq_true ht] at he
            rw [List.take_of_length_le ht] at hb3
            exact ⟨he, u3, hb3, hm2.trans hm3⟩
          have hsame1 : Hid (∀ V3 u3, Moved w.heap.size B u V V3 u3 → V3.heap[W.heap.size + 1 + 1 + 1]? = V.heap[W.heap.size + 1 + 1 + 1]?) := fun V3 u3 hm => hm.same _ (by omega) (by omega) (hur _ (by omega) (by omega))
          have hsame2 : Hid (∀ V3 u3, Moved w.heap.size B u V V3 u3 → V3.heap[W.heap.size + 1 + 1 + 1 + 1]? = V.heap[W.heap.size + 1 + 1 + 1 + 1]?) := fun V3 u3 hm => hm.same _ (by omega) (by omega) (hur _ (by omega) (by omega))
          have HTT := Lib.hid ht
          clear ht h4 hur v1 v2 v3 y1 y3 f3 hrow
          gi_wp2_with (gi_at_call 71; refine (CallsIn.inRound l' ((callsIn_wide (n := 3)).2 hM.out)).mono ?_; rintro e V2 ⟨rfl, u2, hb2, hm2, z1, z2⟩)
          gi_wp2_with (gi_at_call 70; refine (CallsIn.inRound l' ((callsIn_wide (n := 3)).2 (hI.out V2 u2 hb2 hm2))).mono ?_; rintro e V3 ⟨rfl, u3, hb3, hm3⟩)
          exact ⟨hm3.keeps H1.out, ⟨hm3.below, hsame1.out V3 u3 hm3, hsame2.out V3 u3 hm3⟩, u3, hb3, H2.out.trans hm3, HTT.out⟩
        · have hI : Hid (∀ V2 u2, BoxRow w.heap.size B V2 u2 (L ++ [(k : Int)]) → Moved w.heap.size B u V V2 u2 → Calls Try.prog 70 #[.slice A fs.length c, .int .i64 (k : Int), .func (.func 71) #[] #[.pointer (some ⟨B, 0, none⟩)]] V2 fun e V3 => e = .returned (.bool false) ∧ ∃ u3, BoxRow w.heap.size B V3 u3 ((soFar fs.length ks i l (p ++ [⟨k, hkm⟩])).take 400) ∧ Moved w.heap.size B u V V3 u3) := by
            intro V2 u2 hb2 hm2
            refine (IH.out k V2 u2 (L ++ [(k : Int)]) hkk.1 hkk.2 hb2 (by rw [List.length_append, List.length_singleton]; omega) (hWV.out.trans hm2.below)).mono ?_
            rintro e V3 ⟨he, u3, hb3, hm3⟩
            rw [← hsn.out] at he hb3
            rw [decide_eq_false ht] at he
            exact ⟨he, u3, hb3, hm2.trans hm3⟩
          have hp3 : Hid (∀ V3 u3, Moved w.heap.size B u V V3 u3 → V3.heap[W.heap.size + 1 + 1]? = some (.cells #[.bool false] 4 (0, 0))) := fun V3 u3 hm => hm.block v3 (by omega) (hur _ (by omega) (by omega))
          have HTT := Lib.hid ht
          clear ht h4 hur v1 v2 v3 y1 y3 f3 hrow
          gi_wp2_with (gi_at_call 71; refine (CallsIn.inRound l' ((callsIn_wide (n := 3)).2 hM.out)).mono ?_; rintro e V2 ⟨rfl, u2, hb2, hm2, z1, z2⟩)
          gi_wp2_with (gi_at_call 70; refine (CallsIn.inRound l' ((callsIn_wide (n := 3)).2 (hI.out V2 u2 hb2 hm2))).mono ?_; rintro e V3 ⟨rfl, u3, hb3, hm3⟩; have x3 := hp3.out V3 u3 hm3; have y3 : V3.cell? ⟨W.heap.size + 1 + 1, 0, none⟩ = some (.bool false) := (blk_cell x3 0).trans rfl; have f3 : V3.frozen? ⟨W.heap.size + 1 + 1, 0, none⟩ = false := blk_frozen x3 0)
          refine ⟨(hm3.keeps H1.out).trans (KeepsOthers.setCell _ _ _), rfl, u3, hb3.setCell (by omega) (own_ne hb3.2 x3 (by decide)) _ _, ((hmv.trans H2.out).trans hm3).setCell (by omega) (by omega) _ _, by have := HTT.out; omega, blk_set x3 0 _⟩
    case done =>
      rintro D ys V hDD rfl ⟨u, h1, h2, h3⟩ hK
      have v3 : V.heap[W.heap.size + 1 + 1]? = some (.cells #[.bool false] 4 (0, 0)) := h2.block k3 (by omega) (hrow _ (by omega))
      have y3 : V.cell? ⟨W.heap.size + 1 + 1, 0, none⟩ = some (.bool false) := (blk_cell v3 0).trans rfl
      have f3 : V.frozen? ⟨W.heap.size + 1 + 1, 0, none⟩ = false := blk_frozen v3 0
      rw [soFar_all] at h1 h3
      have H1 := Lib.hid h1
      have H2 := Lib.hid h2
      have H3 := Lib.hid h3
      clear k1 k2 k3 k4 k5 h1 h2 h3
      gi_wp2
      have hv := blk_set v3 0 (.bool true)
      have hK2 : (V.setCell ⟨W.heap.size + 1 + 1, 0, none⟩ (.bool true)).heap[D]? = some (.deferred (some [])) := (KeepsOthers.setCell V _ _).same D _ hK rfl
      refine ⟨by simp, .inl ⟨_, _, rfl, run_takeDeferred hK2, ?_⟩⟩
      have hc : ((V.setCell ⟨W.heap.size + 1 + 1, 0, none⟩ (.bool true)).putObj D (.deferred none)).cell? ⟨W.heap.size + 1 + 1, 0, none⟩ = some (.bool true) := by
        rw [blk_cell ((heap_putObj _ D _ (by omega)).trans hv)]; rfl
      refine ⟨.bool true, by simp [results, Try.results70, go_sem, hc], by rw [decide_eq_true H3.out], u, ?_, ?_⟩
      · rw [List.take_of_length_le H3.out]
        exact (H1.out.setCell (by omega) (own_ne H1.out.2 v3 (by decide)) _ _).kept (grownBy_putObj' _ D _) (fun r e => by cases e; exact ⟨_, hK2, rfl⟩)
      · exact ((hmv.trans H2.out).setCell (by omega) (by omega) _ _).kept (b := W.heap.size) (Nat.le_refl _) hnW (grownBy_putObj' _ D _) (fun r e => by cases e; exact ⟨by omega, _, hK2, rfl⟩)
    case stop =>
      rintro D cc p V hDD hp ⟨rfl, u, h1, h2, h3, h4⟩ hK
      obtain ⟨e1, e2⟩ := soFar_prefix hp h3
      rw [← e1] at h1
      have H1 := Lib.hid h1
      have H2 := Lib.hid h2
      have E2 := Lib.hid e2
      clear k1 k2 k3 k4 k5 h1 h2 h3 e1 e2
      gi_wp2
      refine ⟨by simp, .inl ⟨_, _, rfl, run_takeDeferred hK, ?_⟩⟩
      have hc : (V.putObj D (.deferred none)).cell? ⟨W.heap.size + 1 + 1, 0, none⟩ = some (.bool false) := by
        rw [blk_cell ((heap_putObj _ D _ (by omega)).trans h4)]; rfl
      refine ⟨.bool false, by simp [results, Try.results70, go_sem, hc], by rw [decide_eq_false (by have := E2.out; omega)], u, ?_, ?_⟩
      · exact H1.out.kept (grownBy_putObj' _ D _) (fun r e => by cases e; exact ⟨_, hK, rfl⟩)
      · exact H2.out.kept (b := W.heap.size) (Nat.le_refl _) hnW (grownBy_putObj' _ D _) (fun r e => by cases e; exact ⟨by omega, _, hK, rfl⟩)
/-- Below: at a place that is there. -/
def below400 (N : Nat) (ks : Nat → List Int) (i : Nat) : List Int := (ints (bel N ks i)).take 400
def BelowIs (w : World) (l : List Int) (e : Ending) (W' : World) : Prop := ∃ v, e = .returned v ∧ W'.ownsRow w.heap.size 3 1 v l.length (nums .i64 l) ∧ Below w.heap.size w W'
set_option maxHeartbeats 4000000 in
set_option maxRecDepth 100000 in
theorem below_yes (w : World) (A : Option Addr) (c : Nat) (fs : List FormP) (ks : Nat → List Int) (hF : FRow w A fs ks) (hN : fs.length ≤ 140737488351232) (hk : ∀ j, (ks j).length ≤ 140737488351232) (i : Nat) (hi : i < fs.length) :
    Calls Try.prog 44 #[.slice A fs.length c, .int .i64 (i : Int)] w fun e W' => BelowIs w (below400 fs.length ks i) e W' := by
  have hmf : ∀ (fn : Fn) (first cap : Array Value) (w : World), (Instr.makeFunc fn first cap).run Try.prog w = .ok (.func fn first cap) w := fun _ _ _ _ => rfl
  have q1 : decide ((i : Int) < 0) = false := decide_eq_false (by omega)
  have q2 : decide ((fs.length : Int) ≤ (i : Int)) = false := decide_eq_false (by omega)
  have q2' : decide ((i : Int) ≥ (fs.length : Int)) = false := decide_eq_false (by omega)
  have hc := below_calls w A c w.heap.size fs ks hF hN hk (Nat.le_refl _) _ i (w.alloc (.cells #[.slice none 0 0] 24)) (.slice none 0 0) [] rfl hi ⟨blk_new w _, own_nil _ _ _ _⟩ (Nat.zero_le _) ((Below.refl _ w).alloc (Nat.le_refl _) _)
  obtain ⟨L, hL⟩ : ∃ L, L = below400 fs.length ks i := ⟨_, rfl⟩
  have HC : Hid (Calls Try.prog 70 #[.slice A fs.length c, .int .i64 (i : Int), .func (.func 71) #[] #[.pointer (some ⟨w.heap.size, 0, none⟩)]] (w.alloc (.cells #[.slice none 0 0] 24)) fun e W' => (∃ b, e = .returned (.bool b)) ∧ ∃ v', BoxRow w.heap.size w.heap.size W' v' L ∧ Below w.heap.size w W') := by
    refine hc.mono ?_
    rintro e W' ⟨he, v', hb, hm⟩
    rw [List.nil_append] at hb
    rw [hL]
    exact ⟨⟨_, he⟩, v', hb, ((Below.refl w.heap.size w).alloc (Nat.le_refl _) (.cells #[.slice none 0 0] 24)).trans hm.below⟩
  rw [← hL]
  clear hF hk hc hL
  go_enter Try.func44, Try.ntmps44
  go_wp2_with (fail)
  refine HC.out.mono ?_
  rintro e W' ⟨⟨b, rfl⟩, v, hb, hm⟩
  have hcl : W'.cell? ⟨w.heap.size, 0, none⟩ = some v := (blk_cell hb.1 0).trans rfl
  obtain ⟨A2, c2, rfl⟩ := own_slice hb.2
  have HB := Lib.hid hb
  have HM := Lib.hid hm
  clear hb hm
  go_wp2
  go_ret
  exact ⟨_, rfl, HB.out.2, HM.out⟩
def sizeP (N : Nat) (ks : Nat → List Int) (i : Int) : Nat := if 0 ≤ i ∧ i < (N : Int) then 1 + min (bel N ks i.toNat).length 400 else 0
theorem below400_length (N : Nat) (ks : Nat → List Int) (i : Nat) : (below400 N ks i).length = min (bel N ks i).length 400 := by
  unfold below400
  rw [List.length_take, ints_length, Nat.min_comm]
def IsInt (w : World) (x : Int) (e : Ending) (W' : World) : Prop := e = .returned (.int .i64 x) ∧ Below w.heap.size w W'
set_option maxHeartbeats 4000000 in
set_option maxRecDepth 100000 in
theorem size_calls (w : World) (A : Option Addr) (c : Nat) (fs : List FormP) (ks : Nat → List Int) (hF : FRow w A fs ks) (hN : fs.length ≤ 140737488351232) (hk : ∀ j, (ks j).length ≤ 140737488351232) (i : Int) :
    Calls Try.prog 20 #[.slice A fs.length c, .int .i64 i] w fun e W' => IsInt w (sizeP fs.length ks i : Nat) e W' := by
  by_cases hi : 0 ≤ i ∧ i < (fs.length : Int)
  · obtain ⟨n, rfl⟩ : ∃ n : Nat, i = (n : Int) := ⟨i.toNat, by omega⟩
    have q1 : decide ((n : Int) < 0) = false := decide_eq_false (by omega)
    have q2 : decide ((fs.length : Int) ≤ (n : Int)) = false := decide_eq_false (by omega)
    have q2' : decide ((n : Int) ≥ (fs.length : Int)) = false := decide_eq_false (by omega)
    have hS : Hid (sizeP fs.length ks (n : Int) = 1 + (below400 fs.length ks n).length) := by
      show _ = _
      unfold sizeP
      rw [if_pos hi, Int.toNat_natCast, below400_length]
    have hl4 : (below400 fs.length ks n).length ≤ 400 := by rw [below400_length]; omega
    have HC := Lib.hid (below_yes w A c fs ks hF hN hk n (by omega))
    have hi2 : n < fs.length := by omega
    clear hF hk hi
    go_enter Try.func20, Try.ntmps20
    go_wp2_with (fail)
    refine HC.out.mono ?_
    rintro e W' ⟨v, rfl, ho, hb⟩
    obtain ⟨A2, c2, rfl⟩ := own_slice ho
    have HB := Lib.hid hb
    clear ho hb
    go_wp2
    go_ret
    exact ⟨by rw [hS.out]; first | rfl | (congr 2; omega) | (show Ending.returned (.int .i64 _) = Ending.returned (.int .i64 _); congr 2; omega), HB.out⟩
  · have hS : Hid (sizeP fs.length ks i = 0) := if_neg hi
    by_cases h : i < 0
    · have q1 : decide (i < 0) = true := decide_eq_true h
      clear hF hk hi
      go_enter Try.func20, Try.ntmps20
      go_wp2
      go_ret
      exact ⟨by rw [hS.out]; rfl, Below.refl _ _⟩
    · have q1 : decide (i < 0) = false := decide_eq_false h
      have q2 : decide ((fs.length : Int) ≤ i) = true := decide_eq_true (by omega)
      have q2' : decide (i ≥ (fs.length : Int)) = true := decide_eq_true (by omega)
      clear h hi hF hk
      go_enter Try.func20, Try.ntmps20
      go_wp2
      go_ret
      exact ⟨by rw [hS.out]; rfl, Below.refl _ _⟩
end Go.Proofs.Ytiojfdgagdofiaa.HP
/-
What the parsers hand back, as it is read; reticulelaw07.live over the translation: it answers true.
-/
set_option linter.unusedVariables false
set_option linter.unusedSimpArgs false
namespace Go.Proofs.Ytiojfdgagdofiaa.HP
open Go.RowKit Go.Proofs.Ytiojfdgagdofiaa.HB Go.Proofs.Ytiojfdgagdofiaa.HK Go.Proofs.YtiojfdgagdofiaaW.PrintWords Go.Proofs.YtiojfdgagdofiaaW.PrintLast Go.Proofs.YtiojfdgagdofiaaW.PrintMore
/-- How a parser's call ends, as it is read. -/
def ReadEnds (w : World) (r : Except (Int × Int) (List FormP × (Nat → List Int))) (e : Ending) (w' : World) : Prop :=
  match r with
  | .ok (fs, ls) => ∃ A c B d, e = .returned (.tuple #[.slice A fs.length c, .slice B (ls 0).length d, .int .i64 0, .int .i64 0]) ∧ FRow w' A fs (ksOf ls) ∧ IRow w' B (ls 0) ∧ Below w.heap.size w w'
  | .error (a, why) => e = .returned (.tuple #[.slice none 0 0, .slice none 0 0, .int .i64 a, .int .i64 why]) ∧ Below w.heap.size w w'
theorem parse_reads (w : World) (A : Option Addr) (c : Nat) (ts : List S37) (hT : TRow w A ts) (hn : ts.length ≤ 1000000) :
    Calls Try.prog 14 #[.slice A ts.length c] w fun e w' => ReadEnds w (parseP ts) e w' := by
  refine (parse_calls w A c ts hT hn).mono ?_
  intro e w' h
  cases hp : parseP ts with
  | error x =>
    rw [hp] at h
    exact h
  | ok p =>
    obtain ⟨fs, ls⟩ := p
    rw [hp] at h
    obtain ⟨fv, vs, rfl, h1, h2, h3⟩ := h
    obtain ⟨A1, c1, rfl, _, hf⟩ := own_frow h1 h2
    obtain ⟨A2, c2, e2, _, hi⟩ := own_irow (h2.1 0 (by omega))
    rw [e2]
    exact ⟨A1, c1, A2, c2, rfl, hf, hi, h3⟩
def liveT : List S37 := [⟨1, ⟨#[]⟩, 0, 0⟩, ⟨3, ⟨#[97]⟩, 0, 1⟩, ⟨1, ⟨#[]⟩, 0, 3⟩, ⟨4, ⟨#[]⟩, 4, 4⟩, ⟨2, ⟨#[]⟩, 0, 5⟩, ⟨2, ⟨#[]⟩, 0, 6⟩]
def liveOk : Bool := match parseP liveT with
  | .ok (fs, ls) => decide (fs.length = 4) && decide ((ls 0).length = 1) && rightB fs (ksOf ls) (ls 0) && decide (depthP fs.length (opOf fs) (ksOf ls) (ls 0) = 2) && decide (sizeP fs.length (ksOf ls) 0 = 4)
  | .error _ => false
theorem live_ok : liveOk = true := by decide +kernel
def errB (r : Except (Int × Int) (List FormP × (Nat → List Int))) (a why : Int) : Bool := match r with
  | .error (x, y) => decide (x = a) && decide (y = why)
  | .ok _ => false
theorem errB_is {r : Except (Int × Int) (List FormP × (Nat → List Int))} {a why : Int} (h : errB r a why = true) : r = .error (a, why) := by
  cases r with
  | ok p => cases h
  | error x =>
    obtain ⟨x, y⟩ := x
    simp only [errB, Bool.and_eq_true, decide_eq_true_eq] at h
    rw [h.1, h.2]
theorem live_short_b : errB (parseP (liveT.take 5)) 0 8 = true := by decide +kernel
theorem live_short : parseP (liveT.take 5) = .error (0, 8) := errB_is live_short_b
theorem live_is : ∃ fs ls, parseP liveT = .ok (fs, ls) ∧ fs.length = 4 ∧ (ls 0).length = 1 ∧ rightB fs (ksOf ls) (ls 0) = true ∧ depthP fs.length (opOf fs) (ksOf ls) (ls 0) = 2 ∧ sizeP fs.length (ksOf ls) 0 = 4 := by
  have h := live_ok
  unfold liveOk at h
  cases hp : parseP liveT with
  | error x => rw [hp] at h; cases h
  | ok p =>
    obtain ⟨fs, ls⟩ := p
    rw [hp] at h
    simp only [Bool.and_eq_true, decide_eq_true_eq] at h
    obtain ⟨⟨⟨⟨h1, h2⟩, h3⟩, h4⟩, h5⟩ := h
    exact ⟨fs, ls, rfl, h1, h2, h3, h4, h5⟩
theorem fine_text {ts : List S37} {fs : List FormP} {ls : Nat → List Int} (hp : parseP ts = .ok (fs, ls)) (ht : ∀ T ∈ ts, T.f1.size ≤ 140737488351232) : ∀ f ∈ fs, f.t.size ≤ 140737488351232 := by
  have key : ∀ (ts : List S37) (fs0 : List FormP) (ls0 : Nat → List Int) (fs : List FormP) (ls : Nat → List Int), (∀ T ∈ ts, T.f1.size ≤ 140737488351232) → (∀ f ∈ fs0, f.t.size ≤ 140737488351232) → runP fs0 ls0 ts = .ok (fs, ls) → ∀ f ∈ fs, f.t.size ≤ 140737488351232 := by
    intro ts
    induction ts with
    | nil => intro fs0 ls0 fs ls _ h0 hr; injection hr with hr; injection hr with ha _; subst ha; exact h0
    | cons T r ih =>
      intro fs0 ls0 fs ls hts h0 hr
      rw [runP] at hr
      cases htk : takeP fs0 ls0 T with
      | error e => rw [htk] at hr; cases hr
      | ok p =>
        obtain ⟨fs1, ls1⟩ := p
        rw [htk] at hr
        refine ih fs1 ls1 fs ls (fun T' h => hts T' (List.mem_cons_of_mem _ h)) ?_ hr
        unfold takeP at htk
        have hsame : fs1 = fs0 ∨ fs1 = fs0 ++ [formOf T] := by
          repeat' split at htk
          all_goals first | (injection htk with htk; injection htk with ha _; subst ha; first | exact .inl rfl | exact .inr rfl) | cases htk
        rcases hsame with rfl | rfl
        · exact h0
        · intro f hf
          rcases List.mem_append.1 hf with hf | hf
          · exact h0 f hf
          · rw [List.mem_singleton.1 hf]
            unfold formOf
            dsimp only
            split
            · exact hts T List.mem_cons_self
            · decide
  unfold parseP at hp
  cases hr : runP [] (fun _ => []) ts with
  | error e => rw [hr] at hp; cases hp
  | ok p =>
    obtain ⟨fs1, ls1⟩ := p
    rw [hr] at hp
    dsimp only at hp
    split at hp
    · cases hp
    · injection hp with hp
      injection hp with ha _
      subst ha
      exact key ts [] _ fs1 ls1 ht (fun f hf => by simp at hf) hr
theorem liveT_text : ∀ T ∈ liveT, T.f1.size ≤ 140737488351232 := by
  intro T hT
  simp [liveT] at hT
  rcases hT with rfl | rfl | rfl | rfl | rfl | rfl <;> decide
def TrueEnds (w : World) (e : Ending) (w' : World) : Prop := e = .returned (.bool true) ∧ Below w.heap.size w w'
def liveCells : Array Value := #[.int .u8 1, .string ⟨#[]⟩, .int .i64 0, .int .i64 0, .int .u8 3, .string ⟨#[97]⟩, .int .i64 0, .int .i64 1, .int .u8 1, .string ⟨#[]⟩, .int .i64 0, .int .i64 3, .int .u8 4, .string ⟨#[]⟩, .int .i64 4, .int .i64 4, .int .u8 2, .string ⟨#[]⟩, .int .i64 0, .int .i64 5, .int .u8 2, .string ⟨#[]⟩, .int .i64 0, .int .i64 6]
theorem live_row (w : World) (n : Nat) : TRow (w.alloc (.cells liveCells 37)) (some ⟨w.heap.size, 0, none⟩) (liveT.take n) := by
  intro j T hj
  rw [List.getElem?_take] at hj
  split at hj
  · have hb := blk_new w (.cells liveCells 37)
    have hlt := (List.getElem?_eq_some_iff.1 hj).1
    have hlt' : j < 6 := hlt
    refine ⟨w.heap.size, 0, rfl, by simp, ?_⟩
    rw [Nat.zero_add, blk_cell hb, blk_cell hb, blk_cell hb, blk_cell hb]
    have h6 : j = 0 ∨ j = 1 ∨ j = 2 ∨ j = 3 ∨ j = 4 ∨ j = 5 := by omega
    rcases h6 with rfl | rfl | rfl | rfl | rfl | rfl <;> (injection hj with hj; subst hj; exact ⟨rfl, rfl, rfl, rfl⟩)
  · cases hj
set_option maxHeartbeats 8000000 in
set_option maxRecDepth 100000 in
theorem live_calls (w : World) : Calls Try.prog 17 #[] w fun e w' => TrueEnds w e w' := by
  obtain ⟨fs, ls, hp, h4, h1, hr, hd, hs⟩ := live_is
  have hP := parsed hp
  have htx := fine_text hp liveT_text
  have hrows : ∀ j, (ksOf ls j).length ≤ 140737488351232 := fun j => Nat.le_trans (hP.rows _) (by decide)
  have hsl : ∀ W, (Instr.slice 22 (.slice (some ⟨w.heap.size, 0, none⟩) 6 6) none (some (.int .i64 5)) none).run Try.prog W = .ok (.slice (some ⟨w.heap.size, 0, none⟩) 5 6) W := by
    intro W
    rw [run_slice_h (P := Try.prog) W 22 (some ⟨w.heap.size, 0, none⟩) 6 6 Try.underlying22 .i64 5 (by omega) (by omega)]
    rw [show (sizeOf (Try.prog.elem 22)).run Try.prog W = .ok 4 W by simp [go_sem]]
    simp [go_sem, sliced, Result.andThen, Addr.add]
  have HB0 : Hid (Below w.heap.size w (w.alloc (.cells liveCells 37))) := (Below.refl _ w).alloc (Nat.le_refl _) _
  have HP := Lib.hid hp
  have H4 := Lib.hid h4
  have H1 := Lib.hid h1
  have HR := Lib.hid hr
  have HD := Lib.hid hd
  have HS := Lib.hid hs
  have HX := Lib.hid htx
  have HK := Lib.hid hrows
  clear hp h4 h1 hr hd hs hP htx hrows
  go_enter Try.func17, Try.ntmps17
  go_wp2_with (fail)
  rw [show (#[.int .u8 1, .string ⟨#[]⟩, .int .i64 0, .int .i64 0, .int .u8 3, .string ⟨#[97]⟩, .int .i64 0, .int .i64 1, .int .u8 1, .string ⟨#[]⟩, .int .i64 0, .int .i64 3, .int .u8 4, .string ⟨#[]⟩, .int .i64 4, .int .i64 4, .int .u8 2, .string ⟨#[]⟩, .int .i64 0, .int .i64 5, .int .u8 2, .string ⟨#[]⟩, .int .i64 0, .int .i64 6] : Array Value) = liveCells from rfl]
  obtain ⟨w0, hw0⟩ : ∃ w0, w0 = w.alloc (.cells liveCells 37) := ⟨_, rfl⟩
  rw [← hw0]
  have hT6 : Hid (TRow w0 (some ⟨w.heap.size, 0, none⟩) (liveT.take 6)) := by rw [hw0]; exact live_row w 6
  have hT5 : Hid (TRow w0 (some ⟨w.heap.size, 0, none⟩) (liveT.take 5)) := by rw [hw0]; exact live_row w 5
  have HB1 : Hid (Below w.heap.size w w0) := by rw [hw0]; exact HB0.out
  clear hw0
  refine (parse_reads w0 (some ⟨w.heap.size, 0, none⟩) 6 (liveT.take 6) hT6.out (by decide)).mono ?_
  intro e w1 hE
  rw [show liveT.take 6 = liveT from rfl, HP.out] at hE
  obtain ⟨A1, c1, B1, d1, rfl, hf, hi, hb1⟩ := hE
  rw [H4.out, H1.out]
  have HF := Lib.hid hf
  have HI := Lib.hid hi
  have HB2 := Lib.hid hb1
  clear hf hi hb1
  go_wp2_with (fail)
  refine (parse_reads w1 (some ⟨w.heap.size, 0, none⟩) 6 (liveT.take 5) (hT5.out.below HB2.out) (by decide)).mono ?_
  intro e w2 hE
  rw [live_short] at hE
  obtain ⟨rfl, hb2⟩ := hE
  have HB3 := Lib.hid hb2
  clear hb2
  have hF2 := HF.out.below HB3.out
  have hI2 := HI.out.below HB3.out
  have HF2 := Lib.hid hF2
  have HI2 := Lib.hid hI2
  have HW2 : Hid (Below w.heap.size w w2) := below_then (below_then HB1.out HB1.out.size HB2.out) (below_then HB1.out HB1.out.size HB2.out).size HB3.out
  clear hF2 hI2
  have hright : Hid (Calls Try.prog 22 #[.slice A1 4 c1, .slice B1 1 d1] w2 fun e w' => TrueEnds w2 e w') := by
    have := right_calls w2 A1 B1 c1 d1 fs (ksOf ls) (ls 0) HF2.out HI2.out (by rw [H4.out]; decide) HK.out (by rw [H1.out]; decide) HX.out
    rw [HR.out, H4.out, H1.out] at this
    exact this
  go_wp2_with (fail)
  refine hright.out.mono ?_
  rintro e w3 ⟨rfl, hb3⟩
  have HB4 := Lib.hid hb3
  clear hb3
  have hdepth : Hid (Calls Try.prog 23 #[.slice A1 4 c1, .slice B1 1 d1] w3 fun e w' => e = .returned (.int .i64 2) ∧ Below w3.heap.size w3 w') := by
    have := depth_calls w3 A1 B1 c1 d1 fs (ksOf ls) (ls 0) (HF2.out.below HB4.out) (HI2.out.below HB4.out) (by rw [H4.out]; decide) HK.out (by rw [H1.out]; decide)
    rw [HD.out, H4.out, H1.out] at this
    exact this
  go_wp2_with (fail)
  refine hdepth.out.mono ?_
  rintro e w4 ⟨rfl, hb4⟩
  have HB5 := Lib.hid hb4
  clear hb4
  have hsize : Hid (Calls Try.prog 20 #[.slice A1 4 c1, .int .i64 0] w4 fun e w' => e = .returned (.int .i64 4) ∧ Below w4.heap.size w4 w') := by
    have := size_calls w4 A1 c1 fs (ksOf ls) ((HF2.out.below HB4.out).below HB5.out) (by rw [H4.out]; decide) HK.out 0
    rw [HS.out, H4.out] at this
    exact this
  go_wp2_with (fail)
  refine hsize.out.mono ?_
  rintro e w5 ⟨rfl, hb5⟩
  have HB6 := Lib.hid hb5
  clear hb5
  go_wp2
  go_ret
  refine ⟨rfl, ?_⟩
  have x3 := below_then HW2.out HW2.out.size HB4.out
  have x4 := below_then x3 x3.size HB5.out
  exact below_then x4 x4.size HB6.out
end Go.Proofs.Ytiojfdgagdofiaa.HP
/-
What a row's arguments are: slices of tokens, opened to their cells.
-/
set_option linter.unusedVariables false
set_option linter.unusedSimpArgs false
namespace Go.Proofs.Ytiojfdgagdofiaa.HP
open Go.ChangeShapes Go.WideShapes Go.ChangeAt Go.RowKit Go.Deep Go.Proofs.Ytiojfdgagdofiaa.HB Go.Proofs.Ytiojfdgagdofiaa.HK Go.Proofs.YtiojfdgagdofiaaW.PrintWords
theorem choose_list {α : Type} [Inhabited α] {Q : Nat → α → Prop} {n : Nat} (h : ∀ i, i < n → ∃ x, Q i x) : ∃ l : List α, l.length = n ∧ ∀ (i : Nat) (x : α), l[i]? = some x → Q i x := by
  obtain ⟨q, hq⟩ := Deep.choose_lt h
  refine ⟨(List.range n).map q, by simp, fun i x hx => ?_⟩
  obtain ⟨hlt, rfl⟩ := List.getElem?_eq_some_iff.1 hx
  have hi : i < n := by simpa using hlt
  simpa using hq i hi
instance : Inhabited S37 := ⟨z37⟩
end Go.Proofs.Ytiojfdgagdofiaa.HP
/-
What a row's arguments are: slices of tokens, and of forms, opened to their cells, with what their sizes are.
-/
set_option linter.unusedVariables false
set_option linter.unusedSimpArgs false
namespace Go.Proofs.Ytiojfdgagdofiaa.HP
open Go.ChangeShapes Go.WideShapes Go.ChangeAt Go.RowKit Go.Deep Go.Proofs.Ytiojfdgagdofiaa.HB Go.Proofs.Ytiojfdgagdofiaa.HK Go.Proofs.YtiojfdgagdofiaaW.PrintWords
/-- A slice of structs: each field's cell, and how it is read. -/
theorem weightsAll_mem {H : Type} {P : Program} {e : TypeId} : ∀ {ds : List (DataW H)} {d : DataW H}, d ∈ ds → ∀ n ∈ d.weights P e, n ∈ DataW.weightsAll P e ds
  | x :: r, d, hd, n, hn => by
    rw [DataW.weightsAll]
    rcases List.mem_cons.1 hd with rfl | hd
    · exact List.mem_append_left _ hn
    · exact List.mem_append_right _ (weightsAll_mem hd n hn)
  | [], d, hd, _, _ => by simp at hd
theorem slice_structs_sized {H : Type} {enc : TypeId × Value → H} {P : Program} {W : World} {base : Nat} {spare : Nat → Bool} {held : Bool} {t e : TypeId} {fs : Array Field} {A : Option Addr} {len cap : Nat} {d : DataW H} {p : List MemPlace}
    (ht : P.underlying t = some (.slice e)) (he : P.underlying e = some (.struct fs)) (h1 : oneCellFields P fs = true) (hC : P.cellsOf e = fs.size) (hpos : 0 < fs.size) (h : DataW.Trod enc P W base spare held t (.slice A len cap) d p) :
    len ≤ cap ∧ cap ≤ maxLen ∧ ∀ i, i < len → ∃ g o, A = some ⟨g, o, none⟩ ∧ ∀ (j : Nat) (f : Field), fs[j]? = some f → ∃ v y n, W.cell? ⟨g, o + i * fs.size + j, none⟩ = some v ∧ DataW.trod enc P W base spare held n f.type [v] = some y ∧ ∀ k ∈ y.1.weights P f.type, k ∈ d.weights P t := by
  obtain ⟨fuel, hf⟩ := h
  rcases open_slice ht hf with ⟨hcs, _⟩ | ⟨a, l, c, m, n, D, Pl, hcs, _, hl, hm, hmm, hdx, hx⟩
  · simp [Value.cells] at hcs
    obtain ⟨rfl, rfl, rfl⟩ := hcs
    exact ⟨Nat.le_refl _, by decide, fun i hi => by omega⟩
  · simp [Value.cells] at hcs
    obtain ⟨rfl, rfl, rfl⟩ := hcs
    have hlm : len ≤ m := by rw [hmm]; split <;> omega
    refine ⟨hl, hm, fun i hi => ?_⟩
    have hfld : ∀ i, i < m → ∀ (j : Nat) (f : Field), fs[j]? = some f → ∃ v y k, W.cell? (a.add (i * fs.size + j)) = some v ∧ DataW.trod enc P W base spare held k f.type [v] = some y ∧ (i < len → ∀ k ∈ y.1.weights P f.type, k ∈ d.weights P t) := by
      intro i hi j f hj
      obtain ⟨cs', hc, hr⟩ := hx i hi
      rw [hC] at hc
      obtain ⟨_, hlen, hat⟩ := World.cells?_some hc
      obtain ⟨xs, k, _, hxe, _, hxl, hfs⟩ := DataW.trod_struct he hr
      obtain ⟨ho, hone⟩ := hone_of h1 j f hj
      have hjl : j < fs.size := (Array.getElem?_eq_some_iff.1 hj).1
      have hjc : j < cs'.length := by omega
      have hcell := hat j hjl
      rw [List.getElem?_eq_getElem hjc, Go.Deep.add_add] at hcell
      have hread := hfs j f hj
      rw [ho, hone, List.drop_eq_getElem_cons hjc] at hread
      rw [List.getElem?_eq_getElem (show j < xs.length by omega)] at hread
      refine ⟨_, _, k, hcell, hread, fun hil z hz => ?_⟩
      simp only [Prod.mk.injEq] at hdx hxe
      rw [hdx.1, DataW.weights, ht]
      dsimp only
      refine List.mem_cons_of_mem _ (List.mem_append_left _ (weightsAll_mem (d := D i) (List.mem_map.2 ⟨i, List.mem_range.2 hil, rfl⟩) z ?_))
      rw [hxe.1, DataW.weights, he]
      dsimp only
      refine DataW.weights_mem_each (j := j) (t := f.type) (d := (xs[j]'(by omega)).1) ?_ ?_ z hz
      · rw [List.getElem?_map, Array.getElem?_toList, hj]; rfl
      · rw [List.getElem?_map, List.getElem?_eq_getElem (show j < xs.length by omega)]; rfl
    have hspot : a.spot = none := by
      obtain ⟨v, y, k, hc, _, _⟩ := hfld 0 (by omega) 0 fs[0] (by rw [Array.getElem?_eq_getElem])
      rw [Nat.zero_mul, Nat.zero_add] at hc
      have e0 : a.add 0 = a := by simp [Addr.add]
      rw [e0] at hc
      unfold World.cell? at hc
      cases hs : a.spot with
      | none => rfl
      | some s =>
        rw [hs] at hc
        split at hc <;> simp at hc
    refine ⟨a.block, a.off, ?_, fun j f hj => ?_⟩
    · cases a
      simp at hspot
      subst hspot
      rfl
    · obtain ⟨v, y, k, hc, hr, hwt⟩ := hfld i (by omega) j f hj
      refine ⟨v, y, k, ?_, hr, hwt hi⟩
      have e1 : a.add (i * fs.size + j) = ⟨a.block, a.off + i * fs.size + j, none⟩ := by
        unfold Addr.add
        split
        · rename_i hz
          rw [show a.off + i * fs.size + j = a.off by omega]
          cases a
          simp at hspot
          subst hspot
          rfl
        · cases a
          simp [hspot, Nat.add_assoc]
      rw [← e1]
      exact hc
theorem arg_tokens_sized {H : Type} {enc : TypeId × Value → H} {W : World} {base : Nat} {spare : Nat → Bool} {held : Bool} {A : Option Addr} {len cap : Nat} {d : DataW H} {p : List MemPlace}
    (h : DataW.Trod enc Try.prog W base spare held 22 (.slice A len cap) d p) (hlt : ∀ x ∈ p, x.block < W.heap.size) (hsz : ∀ k ∈ d.weights Try.prog 22, k ≤ 140737488351232) : ∃ ts : List S37, len = ts.length ∧ ts.length ≤ cap ∧ TRow W A ts ∧ ∀ T ∈ ts, T.f1.size ≤ 140737488351232 := by
  obtain ⟨h1, _, hx⟩ := slice_structs_sized Try.underlying22 Try.underlying37 (by kernel_rfl) (by kernel_rfl) (by decide) h
  obtain ⟨ts, hl, hq⟩ := choose_list (α := S37) (n := len) (Q := fun i T => ∃ g o : Nat, A = some ⟨g, o, none⟩ ∧ W.cell? ⟨g, o + i * 4, none⟩ = some (.int .u8 T.f0) ∧ W.cell? ⟨g, o + i * 4 + 1, none⟩ = some (.string T.f1) ∧ W.cell? ⟨g, o + i * 4 + 2, none⟩ = some (.int .i64 T.f2) ∧ W.cell? ⟨g, o + i * 4 + 3, none⟩ = some (.int .i64 T.f3) ∧ T.f1.size ≤ 140737488351232) (by
    intro i hi
    obtain ⟨g, o, hA, hf⟩ := hx i hi
    obtain ⟨v0, y0, n0, c0, r0, g0⟩ := hf 0 _ rfl
    obtain ⟨v1, y1, n1, c1, r1, g1⟩ := hf 1 _ rfl
    obtain ⟨v2, y2, n2, c2, r2, g2⟩ := hf 2 _ rfl
    obtain ⟨v3, y3, n3, c3, r3, g3⟩ := hf 3 _ rfl
    obtain ⟨z0, e0, _⟩ := DataW.trod_int Try.underlying34 r0
    obtain ⟨z1, e1, x1, _⟩ := DataW.trod_string Try.underlying9 r1
    obtain ⟨z2, e2, _⟩ := DataW.trod_int Try.underlying35 r2
    obtain ⟨z3, e3, _⟩ := DataW.trod_int Try.underlying3 r3
    injection e0 with e0 _
    injection e1 with e1 _
    injection e2 with e2 _
    injection e3 with e3 _
    subst e0 e1 e2 e3
    exact ⟨⟨z0, z1, z2, z3⟩, g, o, hA, c0, c1, c2, c3, by
      have := hsz z1.data.toList.length (g1 _ (by rw [x1]; simp [DataW.weights]))
      simpa using this⟩)
  refine ⟨ts, hl.symm, by omega, fun j T hj => ?_, fun T hT => ?_⟩
  rotate_left
  · obtain ⟨j, hj⟩ := List.mem_iff_getElem?.1 hT
    obtain ⟨_, _, _, _, _, _, _, h9⟩ := hq j T hj
    exact h9
  obtain ⟨g, o, hA, c0, c1, c2, c3, _⟩ := hq j T hj
  refine ⟨g, o, hA, ?_, c0, c1, c2, c3⟩
  unfold World.cell? at c0
  cases hb : W.heap[g]? with
  | none => rw [hb] at c0; cases c0
  | some ob => exact blk_lt hb
end Go.Proofs.Ytiojfdgagdofiaa.HP
/-
What is parsed is right just if its names may be; sizes add up: plain facts.
-/
set_option linter.unusedVariables false
set_option linter.unusedSimpArgs false
namespace Go.Proofs.Ytiojfdgagdofiaa.HP
open Go.RowKit Go.Proofs.Ytiojfdgagdofiaa.HB Go.Proofs.Ytiojfdgagdofiaa.HK Go.Proofs.YtiojfdgagdofiaaW.PrintWords Go.Proofs.YtiojfdgagdofiaaW.PrintLast Go.Proofs.YtiojfdgagdofiaaW.PrintMore
end Go.Proofs.Ytiojfdgagdofiaa.HP
/-
TreeRight over the translation.
-/
set_option linter.unusedVariables false
set_option linter.unusedSimpArgs false
namespace Go.Proofs.Ytiojfdgagdofiaa.HP
open Go.RowKit Go.Proofs.Ytiojfdgagdofiaa.HB Go.Proofs.Ytiojfdgagdofiaa.HK Go.Proofs.YtiojfdgagdofiaaW.PrintWords Go.Proofs.YtiojfdgagdofiaaW.PrintLast Go.Proofs.YtiojfdgagdofiaaW.PrintMore
theorem run_why : ∀ (ts : List S37) (fs : List FormP) (ls : Nat → List Int) (a why : Int), runP fs ls ts = .error (a, why) → why ≠ 0
  | [], fs, ls, a, why, h => by cases h
  | T :: r, fs, ls, a, why, h => by
    rw [runP] at h
    cases ht : takeP fs ls T with
    | ok p =>
      obtain ⟨fs1, ls1⟩ := p
      rw [ht] at h
      exact run_why r fs1 ls1 a why h
    | error e =>
      rw [ht] at h
      injection h with h
      subst h
      unfold takeP at ht
      repeat' split at ht
      all_goals first | (injection ht with ht; injection ht with _ h2; omega) | cases ht
theorem why_not {ts : List S37} {a why : Int} (h : parseP ts = .error (a, why)) : why ≠ 0 := by
  unfold parseP at h
  cases hr : runP [] (fun _ => []) ts with
  | error e =>
    rw [hr] at h
    injection h with h
    subst h
    exact run_why ts _ _ a why hr
  | ok p =>
    obtain ⟨fs1, ls1⟩ := p
    rw [hr] at h
    dsimp only at h
    split at h
    · injection h with h
      injection h with _ h2
      omega
    · cases h
end Go.Proofs.Ytiojfdgagdofiaa.HP
