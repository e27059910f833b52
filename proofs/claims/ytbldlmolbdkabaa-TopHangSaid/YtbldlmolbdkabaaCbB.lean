/-
column.Table of one column, as it lies in memory; New, name, Len, get, fits over the translation.
-/
import Derived.Test.YtbldlmolbdkabaaCbA
import Derived.Laws.RangeAny
import Derived.LoopN
set_option linter.unusedVariables false
set_option linter.unusedSimpArgs false
namespace Go.Proofs.Ytbldlmolbdkabaa.HP
open Go.RowKit Go.Proofs.YtbldlmolbdkabaaW.PrintWords Go.Proofs.YtbldlmolbdkabaaW.PrintLast Go.Proofs.YtbldlmolbdkabaaW.PrintMore
open Go.ChangeMaps (setBlock heap_setBlock_same heap_setBlock_other)
theorem row48 : (48 : TypeId) < Try.prog.types.size := of_decide_eq_true (by kernel_rfl)
theorem wide48 : (match Try.prog.underlying 48 with | some (.array _ _) | some (.struct _) => true | _ => false) = true := by rw [Try.underlying48]
theorem law48 : WideMaps.KeyLaw Try.prog 48 := deep_law_laid laidOut (m := 2) (by omega) row48 (by kernel_rfl) wide48
/-- The one key: "w", of edges. -/
abbrev wkey : Value := .agg #[.string ⟨#[119]⟩, .int .u8 3]
theorem key_some : (keyOf Try.prog 48 wkey).isSome = true := by kernel_rfl
theorem key_is : ∃ kl, keyOf Try.prog 48 wkey = some kl := Option.isSome_iff_exists.1 key_some
theorem zero78 (w : World) : (zeroValue 78).run Try.prog w = .ok (.pointer none) w := by kernel_rfl
def TabFit (me : Array MapEntry) (clock : Nat) : Prop := WideElems.Fit (H := Unit) Try.prog 48 (fun _ => some (.nil, [])) me clock
theorem tabFit_empty : TabFit #[] 0 := ⟨by simp, MapKept.stamped_empty 0, by simp⟩
/-- The map has the one column, C. -/
def TabMap (w : World) (M C : Nat) : Prop := ∃ me clock, w.heap[M]? = some (.map me clock) ∧ TabFit me clock ∧ (∀ x ∈ me.toList, x.key = wkey ∧ x.val = .pointer (some ⟨C, 0, none⟩)) ∧ me.size = 1
theorem TabMap.move {w w1 : World} {M C : Nat} (h : TabMap w M C) (hm : w1.heap[M]? = w.heap[M]?) : TabMap w1 M C := by
  obtain ⟨me, clock, h1, h2, h3, h4⟩ := h
  exact ⟨me, clock, hm.trans h1, h2, h3, h4⟩
theorem TabMap.lt {w : World} {M C : Nat} (h : TabMap w M C) : M < w.heap.size := by
  obtain ⟨me, clock, h1, _⟩ := h
  exact blk_lt h1
theorem TabMap.look {w : World} {M C : Nat} (h : TabMap w M C) : (Instr.lookup 74 (.map (some M)) wkey true).run Try.prog w = .ok (.tuple #[.pointer (some ⟨C, 0, none⟩), .bool true]) w := by
  obtain ⟨me, clock, h1, h2, h3, h4⟩ := h
  obtain ⟨kl, hkl⟩ := key_is
  rcases Maps.fit_look true (Maps.Keyed.of_law law48) Try.underlying74 (zero78 w) h1 h2 hkl with ⟨_, hno, _⟩ | ⟨e0, y, hm, hk, hrun, _⟩
  · exfalso
    have hlt : 0 < me.toList.length := by rw [Array.length_toList]; omega
    exact hno _ (List.getElem_mem hlt) (h3 _ (List.getElem_mem hlt)).1
  · rw [hrun, (h3 e0 hm).2]
    rfl
theorem look_none {w : World} {M : Nat} (h : w.heap[M]? = some (.map #[] 0)) : (Instr.lookup 74 (.map (some M)) wkey true).run Try.prog w = .ok (.tuple #[.pointer none, .bool false]) w := by
  obtain ⟨kl, hkl⟩ := key_is
  rcases Maps.fit_look true (Maps.Keyed.of_law law48) Try.underlying74 (zero78 w) h tabFit_empty hkl with ⟨hrun, _, _⟩ | ⟨e0, y, hm, _⟩
  · rw [hrun]; rfl
  · simp at hm
theorem put_one {w : World} {M : Nat} (h : w.heap[M]? = some (.map #[] 0)) (C : Nat) : ∃ es clock, (Instr.mapUpdate 74 (.map (some M)) wkey (.pointer (some ⟨C, 0, none⟩))).run Try.prog w = .ok () (setBlock w M (.map es clock)) ∧ TabMap (setBlock w M (.map es clock)) M C := by
  obtain ⟨kl, hkl⟩ := key_is
  obtain ⟨es, clock, hrun, F, hput, _, _, hwho⟩ := Maps.fit_store (R' := fun _ => some (.nil, [])) (Maps.Keyed.of_law law48) Try.underlying74 h tabFit_empty (by simp [maxLen]) (key := wkey) (val := .pointer (some ⟨C, 0, none⟩)) (fun x hx => by simp at hx) hkl rfl
  refine ⟨es, clock, hrun, es, clock, heap_setBlock_same h _, F, fun x hx => ?_, ?_⟩
  · rcases hwho x hx with ⟨h1, _⟩ | h1
    · simp at h1
    · exact h1
  · have e1 : es.size = ((es.toList.map (WideElems.rg (H := Unit) Try.prog 48 (fun _ => some (.nil, [])))).foldr DataW.insert []).length := by rw [DataW.length_sorted]; simp
    rw [e1, hput]
    unfold ChangeMaps.putKey
    rw [DataW.length_insert]
    simp
theorem decode_w : Utf8.decode ⟨#[119]⟩ 0 = (119, 1) := by decide +kernel
set_option maxHeartbeats 4000000 in
set_option maxRecDepth 100000 in
theorem name_calls (w : World) : Calls Try.prog 34 #[.string ⟨#[119]⟩] w fun e w' => e = .returned (.bool true) ∧ Below w.heap.size w w' := by
  have hn0 : ∀ ty, (Instr.next (.pointer (some ⟨w.heap.size, 0, none⟩)) true ty).run Try.prog (w.iter ⟨#[119]⟩ 0) = .ok (.tuple #[.bool true, .int .i64 0, .int .i32 119]) (w.iter ⟨#[119]⟩ 1) := by
    intro ty
    rw [run_next_any w ⟨#[119]⟩ 0 ty (by decide), decode_w]
    rfl
  have hn1 : ∀ ty, (Instr.next (.pointer (some ⟨w.heap.size, 0, none⟩)) true ty).run Try.prog (w.iter ⟨#[119]⟩ 1) = .ok (.tuple #[.bool false]) (w.iter ⟨#[119]⟩ 1) := fun ty => run_next_end w ⟨#[119]⟩ 1 ty (by decide)
  have hb : Hid (Below w.heap.size w (w.iter ⟨#[119]⟩ 1)) := (Below.refl _ w).alloc (Nat.le_refl _) _
  go_enter Try.func34, Try.ntmps34
  go_wp2_with (fail)
  refine wp_loop_rounds 2 ?_
  rw [rounds_succ]
  go_wp2
  rw [rounds_succ]
  go_wp2
  go_ret
  exact ⟨rfl, hb.out⟩
/-- No column yet. -/
def IsTab0 (w : World) (T n m M : Nat) : Prop := w.heap[T]? = some (.cells #[.int .i64 (n : Int), .int .i64 (m : Int), .map (some M)] 76 (0, 0)) ∧ w.heap[M]? = some (.map #[] 0)
set_option maxHeartbeats 4000000 in
set_option maxRecDepth 100000 in
theorem colNew_calls (w : World) (n m : Nat) (h1 : 1 ≤ n) (h2 : n ≤ 12) (h3 : m ≤ 30) : Calls Try.prog 20 #[.int .i64 (n : Int), .int .i64 (m : Int)] w fun e w' => ∃ T M, e = .returned (.pointer (some ⟨T, 0, none⟩)) ∧ IsTab0 w' T n m M ∧ w.heap.size ≤ M ∧ Below w.heap.size w w' := by
  have a1 : decide ((n : Int) < 1) = false := decide_eq_false (by omega)
  have a2 : decide ((n : Int) > 12) = false := decide_eq_false (by omega)
  have a2' : decide ((12 : Int) < (n : Int)) = false := decide_eq_false (by omega)
  have a3 : decide ((m : Int) < 0) = false := decide_eq_false (by omega)
  have a4 : decide ((m : Int) > 30) = false := decide_eq_false (by omega)
  have a4' : decide ((30 : Int) < (m : Int)) = false := decide_eq_false (by omega)
  have hmm := @run_makeMap Try.prog
  have hfin : Hid (IsTab0 ((w.alloc (.map #[] 0)).alloc (.cells #[.int .i64 (n : Int), .int .i64 (m : Int), .map (some w.heap.size)] 76)) (w.heap.size + 1) n m w.heap.size ∧ Below w.heap.size w ((w.alloc (.map #[] 0)).alloc (.cells #[.int .i64 (n : Int), .int .i64 (m : Int), .map (some w.heap.size)] 76))) := by
    have s1 : (w.alloc (.map #[] 0)).heap.size = w.heap.size + 1 := World.size_alloc _ _
    have h := blk_new (w.alloc (.map #[] 0)) (.cells #[.int .i64 (n : Int), .int .i64 (m : Int), .map (some w.heap.size)] 76)
    rw [s1] at h
    exact ⟨⟨h, blk_alloc (blk_new w _) _⟩, ((Below.refl _ w).alloc (Nat.le_refl _) _).alloc (by omega) _⟩
  go_enter Try.func20, Try.ntmps20
  go_wp2
  go_ret
  exact ⟨_, _, rfl, hfin.out.1, Nat.le_refl _, hfin.out.2⟩
set_option maxHeartbeats 4000000 in
set_option maxRecDepth 100000 in
theorem tlen_calls (w : World) (T n m M : Nat) (h : w.heap[T]? = some (.cells #[.int .i64 (n : Int), .int .i64 (m : Int), .map (some M)] 76 (0, 0))) : Calls Try.prog 35 #[.pointer (some ⟨T, 0, none⟩), .int .u8 3] w fun e w' => e = .returned (.int .i64 (m : Int)) ∧ w' = w := by
  have c1 : w.cell? ⟨T, 1, none⟩ = some (.int .i64 (m : Int)) := by rw [blk_cell h]; rfl
  clear h
  go_enter Try.func35, Try.ntmps35
  go_wp2
  go_ret
  exact ⟨rfl, rfl⟩
/-- A column of m words. -/
structure IsTab (w : World) (T n m M C V : Nat) (ws : List Int) : Prop where
  obj : w.heap[T]? = some (.cells #[.int .i64 (n : Int), .int .i64 (m : Int), .map (some M)] 76 (0, 0))
  map : TabMap w M C
  col : w.heap[C]? = some (.cells #[.int .u8 1, .slice (some ⟨V, 0, none⟩) m m] 82 (0, 0))
  row : w.heap[V]? = some (.cells (nums .i64 ws).toArray 22 (0, 0))
  len : ws.length = m
theorem IsTab.below {w w1 : World} {T n m M C V : Nat} {ws : List Int} (h : IsTab w T n m M C V ws) (hb : Below w.heap.size w w1) : IsTab w1 T n m M C V ws :=
  ⟨blk_below h.obj hb, h.map.move (hb.block M h.map.lt), blk_below h.col hb, blk_below h.row hb, h.len⟩
theorem IsTab.cell {w : World} {T n m M C V : Nat} {ws : List Int} (h : IsTab w T n m M C V ws) {i : Nat} (hi : i < m) : w.cell? ⟨V, i, none⟩ = some (.int .i64 (ws.getD i 0)) := by
  rw [blk_cell h.row]
  have := h.len
  simp [nums, List.getD_eq_getElem?_getD, List.getElem?_eq_getElem (show i < ws.length by omega)]
set_option maxHeartbeats 8000000 in
set_option maxRecDepth 100000 in
theorem get_calls (w : World) (T n m M C V : Nat) (ws : List Int) (h : IsTab w T n m M C V ws) : Calls Try.prog 36 #[.pointer (some ⟨T, 0, none⟩), wkey] w fun e w' => e = .returned (.tuple #[.pointer (some ⟨C, 0, none⟩), .int .i64 0]) ∧ Below w.heap.size w w' := by
  obtain ⟨wa, hwa⟩ : ∃ wa, wa = w.alloc (.cells #[.string ⟨#[119]⟩, .int .u8 3] 48) := ⟨_, rfl⟩
  have hba : Below w.heap.size w wa := by rw [hwa]; exact (Below.refl _ w).alloc (Nat.le_refl _) _
  have ha := h.below hba
  have hxa : wa.heap[w.heap.size]? = some (.cells #[.string ⟨#[119]⟩, .int .u8 3] 48 (0, 0)) := by rw [hwa]; exact blk_new w _
  have hlook : (Instr.lookup 74 (.map (some M)) (.agg #[.string ⟨#[119]⟩, .int .u8 3]) true).run Try.prog wa.drew = .ok (.tuple #[.pointer (some ⟨C, 0, none⟩), .bool true]) wa.drew := TabMap.look (w := wa.drew) (ha.map.move rfl)
  have c2 : wa.cell? ⟨T, 2, none⟩ = some (.map (some M)) := by rw [blk_cell ha.obj]; rfl
  have x0 : wa.cell? ⟨w.heap.size, 0, none⟩ = some (.string ⟨#[119]⟩) := by rw [blk_cell hxa]; rfl
  have x1 : wa.cell? ⟨w.heap.size, 1, none⟩ = some (.int .u8 3) := by rw [blk_cell hxa]; rfl
  have HBA : Hid (Below w.heap.size w wa.drew) := below_drew hba
  have HWA := Lib.hid hwa
  clear h hba ha hxa hwa
  go_enter Try.func36, Try.ntmps36
  go_upto_region 3 with (fail)
  rw [← HWA.out]
  go_region_with (fail)
  all_goals
    go_wp2
    exact bodyPost_ret (v := .tuple #[.pointer (some ⟨C, 0, none⟩), .int .i64 0]) (by simp [results, Try.results36, go_sem]) rfl ⟨rfl, HBA.out⟩
set_option maxHeartbeats 4000000 in
set_option maxRecDepth 100000 in
theorem fits_calls (w : World) (C B : Nat) (v : Value) (x : Int) (h : w.heap[C]? = some (.cells #[.int .u8 1, v] 82 (0, 0))) (hB : w.heap[B]? = some (.cells #[.int .i64 x] 22 (0, 0))) : Calls Try.prog 37 #[.pointer (some ⟨C, 0, none⟩), .slice (some ⟨B, 0, none⟩) 1 1] w fun e w' => e = .returned (.bool true) ∧ w' = w := by
  have c0 : w.cell? ⟨C, 0, none⟩ = some (.int .u8 1) := by rw [blk_cell h]; rfl
  have b0 : w.cell? ⟨B, 0, none⟩ = some (.int .i64 x) := by rw [blk_cell hB]; rfl
  clear h hB
  go_enter Try.func37, Try.ntmps37
  go_wp2_with (fail)
  refine wp_loop_rounds 2 ?_
  rw [rounds_succ]
  go_wp2
  rw [rounds_succ]
  go_wp2
  go_ret
  exact ⟨rfl, rfl⟩
end Go.Proofs.Ytbldlmolbdkabaa.HP
