/-
graph's Levels over the translation.
-/
import Derived.Test.YtbldlmolbdkabaaCcE
set_option linter.unusedVariables false
set_option linter.unusedSimpArgs false
namespace Go.Proofs.Ytbldlmolbdkabaa.HP
open Go.RowKit Go.Proofs.YtbldlmolbdkabaaW.PrintWords Go.Proofs.YtbldlmolbdkabaaW.PrintLast Go.Proofs.YtbldlmolbdkabaaW.PrintMore
attribute [local go_sem] Oper.semAt_some wide_fn wide_depth
def LevelsEnds (w : World) (n : Nat) (es : List EdgeP) (r : Nat) (e : Ending) (W' : World) : Prop :=
  ∃ B o, e = .returned (.slice (some ⟨B, 0, none⟩) n n) ∧ W'.heap[B]? = some (.cells (nums .i64 o).toArray 3 (0, 0)) ∧ o.length = n ∧ (∀ x, x < n → (0 ≤ lb o x ↔ Reach es r x)) ∧ Below w.heap.size w W'
theorem start_hp {w2 : World} {Bo r n lo : Nat} (h : w2.heap[Bo]? = some (.cells (nums .i64 (List.replicate n (-1))).toArray 3 (0, 0))) (hlo : lo ≤ Bo) :
    LHp lo ((((w2.alloc (Obj.cells #[Value.slice (some ⟨Bo, 0, none⟩) n n] 37)).setCell ⟨Bo, r, none⟩ (Value.int .i64 0)).alloc (Obj.cells #[Value.int .i64 (r : Int)] 3)).alloc (Obj.cells #[Value.slice (some ⟨w2.heap.size + 1, 0, none⟩) 1 1] 37)) Bo w2.heap.size (w2.heap.size + 1 + 1) n ((List.replicate n (-1)).set r 0) [r] := by
  have hlt := blk_lt h
  have a1 := blk_set (blk_alloc h (Obj.cells #[Value.slice (some ⟨Bo, 0, none⟩) n n] 37)) r (.int .i64 0)
  have a5 := blk_far (blk_new w2 (Obj.cells #[Value.slice (some ⟨Bo, 0, none⟩) n n] 37)) (p := ⟨Bo, r, none⟩) (by show w2.heap.size ≠ Bo; omega) (.int .i64 0)
  rw [nums_set] at a1
  have s1 : ((w2.alloc (Obj.cells #[Value.slice (some ⟨Bo, 0, none⟩) n n] 37)).setCell ⟨Bo, r, none⟩ (Value.int .i64 0)).heap.size = w2.heap.size + 1 := by simp
  obtain ⟨V1, hV1⟩ : ∃ V1, V1 = (w2.alloc (Obj.cells #[Value.slice (some ⟨Bo, 0, none⟩) n n] 37)).setCell ⟨Bo, r, none⟩ (Value.int .i64 0) := ⟨_, rfl⟩
  rw [← hV1] at a1 a5 s1 ⊢
  have b1 := blk_new V1 (Obj.cells #[Value.int .i64 (r : Int)] 3)
  have s2 : (V1.alloc (Obj.cells #[Value.int .i64 (r : Int)] 3)).heap.size = w2.heap.size + 1 + 1 := by rw [World.size_alloc, s1]
  have b2 := blk_new (V1.alloc (Obj.cells #[Value.int .i64 (r : Int)] 3)) (Obj.cells #[Value.slice (some ⟨w2.heap.size + 1, 0, none⟩) 1 1] 37)
  rw [s1] at b1
  rw [s2] at b2
  refine ⟨blk_alloc (blk_alloc a1 _) _, blk_alloc (blk_alloc a5 _) _, ⟨w2.heap.size + 1, 0, 1, _, b2, blk_alloc b1 _, by simp, Nat.le_refl _, ?_, by omega, by omega⟩, by omega⟩
  intro j hj
  have : j = 0 := by simpa using hj
  subst this
  rfl
theorem LHp.five_cell {lo Bo B5 B6 n : Nat} {o : List Int} {todo : List Nat} {V : World} (h : LHp lo V Bo B5 B6 n o todo) : V.cell? ⟨B5, 0, none⟩ = some (.slice (some ⟨Bo, 0, none⟩) n n) := (blk_cell h.five 0).trans rfl
theorem TD.cell6 {lo Bo B6 tb to_ tc : Nat} {todo : List Nat} {V : World} {C : Array Value} (h : TD lo V Bo B6 todo tb to_ tc C) : V.cell? ⟨B6, 0, none⟩ = some (.slice (some ⟨tb, to_, none⟩) todo.length tc) := (blk_cell h.1 0).trans rfl
theorem TD.at_ {lo Bo B6 tb to_ tc t : Nat} {todo : List Nat} {V : World} {C : Array Value} (h : TD lo V Bo B6 todo tb to_ tc C) (ht : todo.head? = some t) : V.cell? ⟨tb, to_, none⟩ = some (.int .i64 (t : Int)) := by
  cases todo with
  | nil => simp at ht
  | cons a b =>
    have h5 := h.2.2.2.2.1 0 (by simp)
    simp at ht
    subst ht
    rw [blk_cell h.2.1]
    simpa using h5
theorem LHp.len {lo Bo B5 B6 n : Nat} {o : List Int} {todo : List Nat} {V : World} (h : LHp lo V Bo B5 B6 n o todo) : lenIn V (.pointer (some ⟨B6, 0, none⟩)) = todo.length := by
  obtain ⟨tb, to_, tc, C, h6⟩ := h.six
  unfold lenIn
  simp [h6.cell6]
theorem outA_val (es : List EdgeP) (v : Nat) : (outA es v).map Subtype.val = outL es v := by unfold outA; simp
theorem LHp.popA {lo Bo B5 B6 n t tb to_ tc to' L : Nat} {C : Array Value} {o : List Int} {todo rest : List Nat} {V : World} (h : LHp lo V Bo B5 B6 n o todo) (he : todo = t :: rest) (ht : TD lo V Bo B6 todo tb to_ tc C) (hto : to' = if tc = 1 then to_ else to_ + 1) (hL : L = rest.length) :
    LHp lo (V.alloc (.cells #[.slice (some ⟨tb, to', none⟩) L (tc - 1)] 37)) Bo B5 V.heap.size n o rest := by
  subst he hL
  obtain ⟨h1, h2, h3, h4, h5, h6, h7⟩ := ht
  rw [List.length_cons] at h4 h5
  refine ⟨blk_alloc h.row _, blk_alloc h.five _, ⟨tb, to', tc - 1, C, blk_new V _, blk_alloc h2 _, ?_, by omega, ?_, h6, h7⟩, by have := blk_lt h.five; omega⟩
  · split at hto <;> omega
  · intro j hj
    have e : to' = to_ + 1 := by rw [hto, if_neg (by omega)]
    have := h5 (j + 1) (by omega)
    rw [e, show to_ + 1 + j = to_ + (j + 1) by omega, this]
    simp [List.getD_eq_getElem?_getD]
theorem TD.alloc {lo Bo B6 tb to_ tc : Nat} {todo : List Nat} {V : World} {C : Array Value} (h : TD lo V Bo B6 todo tb to_ tc C) (x : Obj) : TD lo (V.alloc x) Bo B6 todo tb to_ tc C := ⟨blk_alloc h.1 x, blk_alloc h.2.1 x, h.2.2⟩
theorem TD.olds {lo Bo B6 tb to_ tc : Nat} {todo : List Nat} {V : World} {C : Array Value} (h : TD lo V Bo B6 todo tb to_ tc C) : ∀ (j : Nat) (u : Value), (nums .i64 (todo.map fun (x : Nat) => (x : Int)))[j]? = some u → V.cell? ⟨tb, to_ + j, none⟩ = some u := by
  intro j u hu
  have hj : j < todo.length := by
    by_cases hj : j < todo.length
    · exact hj
    · rw [List.getElem?_eq_none (by simp [nums]; omega)] at hu; cases hu
  rw [blk_cell h.2.1, h.2.2.2.2.1 j hj, ← hu]
  simp [nums, hj, List.getD_eq_getElem?_getD]
theorem TD.spare {lo Bo B6 tb to_ tc : Nat} {todo : List Nat} {V : World} {C : Array Value} (h : TD lo V Bo B6 todo tb to_ tc C) (hr : todo.length + 1 ≤ tc) : ∀ j, j < 1 → (V.cell? ⟨tb, to_ + todo.length * 1 + j, none⟩).isSome = true ∧ V.frozen? ⟨tb, to_ + todo.length * 1 + j, none⟩ = false := by
  intro j hj
  have := h.2.2.1
  refine ⟨?_, blk_frozen h.2.1 _⟩
  rw [blk_cell h.2.1]
  have hlt : to_ + todo.length + j < C.size := by omega
  simp [hlt]
/-- Where the list to do lies. -/
def Away (a b : Nat) (V : World) (B6 : Nat) : Prop := ∃ (p : Addr) (l c : Nat), V.heap[B6]? = some (.cells #[.slice (some p) l c] 37 (0, 0)) ∧ p.block ≠ a ∧ p.block ≠ b
theorem Away.td {a b lo Bo B6 tb to_ tc : Nat} {todo : List Nat} {V : World} {C : Array Value} (h : Away a b V B6) (ht : TD lo V Bo B6 todo tb to_ tc C) : tb ≠ a ∧ tb ≠ b := by
  obtain ⟨p, l, c, h1, h2, h3⟩ := h
  rw [ht.1] at h1
  simp at h1
  obtain ⟨rfl, _⟩ := h1
  exact ⟨h2, h3⟩
set_option maxHeartbeats 16000000 in
set_option maxRecDepth 100000 in
theorem levels_in (w : World) (G n r : Nat) (es : List EdgeP) (hI : IsGraph w G n es) (hG : okG (n : Int) es) (hr : r < n) :
    CallsIn Fence.wide 6 Try.prog 18 #[.pointer (some ⟨G, 0, none⟩), .int .i64 (r : Int)] w fun e W' => LevelsEnds w n es r e W' := by
  have hn12 : n ≤ 12 := by have := hG.1; omega
  have HI := Lib.hid hI
  have HG := Lib.hid hG
  have HREP : Hid (Calls Try.prog 31 #[.slice (some ⟨w.heap.size, 0, none⟩) 1 1, .int .i64 (n : Int)] (w.alloc (.cells #[.int .i64 (-1)] 3)) fun e w' => ∃ Bo, e = .returned (.slice (some ⟨Bo, 0, none⟩) n n) ∧ Hid (w.heap.size ≤ Bo ∧ w'.heap[Bo]? = some (.cells (nums .i64 (List.replicate n (-1))).toArray 3 (0, 0)) ∧ Below w.heap.size w w') ∧ (∀ x, (w'.alloc x).cell? ⟨Bo, r, none⟩ = some (.int .i64 (-1))) ∧ (∀ x, (w'.alloc x).frozen? ⟨Bo, r, none⟩ = false)) := by
    refine (repeat_calls (w.alloc (.cells #[.int .i64 (-1)] 3)) w.heap.size n (blk_new w _) (by omega) hn12).mono ?_
    rintro e w' ⟨rfl, h1, h2⟩
    refine ⟨_, rfl, ⟨by simp, h1, ((Below.refl _ w).alloc (Nat.le_refl _) _).trans (h2.mono (by simp))⟩, fun x => ?_, fun x => blk_frozen (blk_alloc h1 x) r⟩
    rw [nums_cell (blk_alloc h1 x) (by simpa using hr)]
    unfold lb
    simp [List.getD_eq_getElem?_getD, hr]
  obtain ⟨AE, cE, Ob, Ib, M, i1, i2, i3, _⟩ := hI
  have g1 : (w.alloc (.cells #[.int .i64 (-1)] 3)).cell? ⟨G, 1, none⟩ = some (.slice (some ⟨Ob, 0, none⟩) n n) := by rw [blk_cell (blk_alloc i1 _)]; rfl
  have qr0 : decide ((r : Int) < 0) = false := decide_eq_false (by omega)
  have qr1 : decide ((r : Int) ≥ (n : Int)) = false := decide_eq_false (by omega)
  have qr2 : decide ((n : Int) ≤ (r : Int)) = false := decide_eq_false (by omega)
  have pr0 : (0 : Int) ≤ (r : Int) := by omega
  have pr1 : (r : Int) < (n : Int) := by omega
  have qn1 : ¬ n ≤ r := by omega
  have HR := Lib.hid hr
  have HN := Lib.hid hn12
  clear i1 i2 i3 hG
  refine callsIn_of_wp_marks Try.func18 rfl trivial ?_ rfl
  simp only [Try.ntmps18, List.size_toArray, List.length_cons, List.length_nil, Nat.reduceAdd, Nat.reduceSub, Array.replicate_succ, Array.replicate_zero, List.push_toArray, List.append_toArray, List.nil_append, List.cons_append]
  gi_wp2_with (gi_at_call 31; refine (callsIn_wide.2 HREP.out).mono ?_; rintro e w2 ⟨Bo, rfl, HB0, hc0, hf0⟩)
  have hst : Hid (LInv n es r ((List.replicate n (-1)).set r 0) [r] ∧ LHp w.heap.size ((((w2.alloc (Obj.cells #[Value.slice (some ⟨Bo, 0, none⟩) n n] 37)).setCell ⟨Bo, r, none⟩ (Value.int .i64 0)).alloc (Obj.cells #[Value.int .i64 (r : Int)] 3)).alloc (Obj.cells #[Value.slice (some ⟨w2.heap.size + 1, 0, none⟩) 1 1] 37)) Bo w2.heap.size (w2.heap.size + 1 + 1) n ((List.replicate n (-1)).set r 0) [r] ∧ Below w.heap.size w ((((w2.alloc (Obj.cells #[Value.slice (some ⟨Bo, 0, none⟩) n n] 37)).setCell ⟨Bo, r, none⟩ (Value.int .i64 0)).alloc (Obj.cells #[Value.int .i64 (r : Int)] 3)).alloc (Obj.cells #[Value.slice (some ⟨w2.heap.size + 1, 0, none⟩) 1 1] 37))) := by
    obtain ⟨h1, h2, h3⟩ := HB0.out
    have hge := h3.size
    exact ⟨LInv.start HR.out, start_hp h2 h1, (((h3.alloc hge _).setCell (p := ⟨Bo, r, none⟩) h1 _).alloc (by simp; omega) _).alloc (by simp; omega) _⟩
  have hS0 := HB0.out.2.2.size
  have HB00 := Lib.hid HB0.out.1
  obtain ⟨S, hS⟩ : ∃ S, S = w2.heap.size := ⟨_, rfl⟩
  rw [← hS] at hst hS0 ⊢
  clear HB0 hc0 hf0 HREP g1 hS
  refine wpIn_loop (fun a' W' => ∃ (ds : List Deferred) (B6 : Nat) (o : List Int) (todo : List Nat) (u31 u32 u33 u34 u35 u36 u37 u38 u39 u40 u61 : Value), a' = { tmps := #[Value.pointer (some ⟨G, 0, none⟩), Value.int .i64 (r : Int), undef, undef, Value.slice none 0 0, Value.pointer (some ⟨S, 0, none⟩), Value.pointer (some ⟨B6, 0, none⟩), undef, Value.pointer (some ⟨G, 0, none⟩), Value.bool false, Value.slice (some ⟨w.heap.size, 0, none⟩) 1 1, Value.pointer (some ⟨G, 0, none⟩), Value.pointer (some ⟨G, 0, none⟩), Value.pointer (some ⟨G, 1, none⟩), Value.slice (some ⟨Ob, 0, none⟩) n n, Value.int .i64 (n : Int), Value.slice (some ⟨Bo, 0, none⟩) n n, Value.int .i64 (r : Int), Value.bool false, Value.bool false, Value.int .i64 (r : Int), Value.slice (some ⟨Bo, 0, none⟩) n n, Value.int .i64 (n : Int), Value.bool false, Value.bool false, undef, Value.slice (some ⟨Bo, 0, none⟩) n n, Value.int .i64 (r : Int), Value.pointer (some ⟨Bo, r, none⟩), Value.int .i64 (r : Int), Value.slice (some ⟨S + 1, 0, none⟩) 1 1, u31, u32, u33, u34, u35, u36, u37, u38, u39, u40, undef, undef, undef, undef, undef, undef, undef, undef, undef, undef, undef, undef, undef, undef, undef, undef, undef, undef, undef, undef, u61, undef], defers := ds } ∧ Hid (LInv n es r o todo ∧ LHp w.heap.size W' Bo S B6 n o todo ∧ Below w.heap.size w W') ∧ Hid (Marks w.heap.size W' ds) ∧ Hid (todo.length + bare n o ≤ 13 ∧ w.heap.size ≤ B6)) (fun a' W' => lenIn W' (a'.tmps.getD 6 undef) + bareW n Bo W') ?start ?round
  case start => exact ⟨[], S + 1 + 1, _, [r], undef, undef, undef, undef, undef, undef, undef, undef, undef, undef, undef, rfl, hst, Marks.nil _ _, ⟨by have := bare_le n ((List.replicate n (-1)).set r 0); have := HN.out; show [r].length + _ ≤ 13; simp only [List.length_singleton]; omega, by omega⟩⟩
  case round =>
    rintro _ W ⟨ds, B6, o, todo, u31, u32, u33, u34, u35, u36, u37, u38, u39, u40, u61, rfl, hL, hM, h13⟩
    clear hst
    have hmu : Hid (lenIn W (.pointer (some ⟨B6, 0, none⟩)) + bareW n Bo W = todo.length + bare n o) := by
      show _ = _
      rw [hL.out.2.1.len, bareW_eq hL.out.2.1.row hL.out.1.len]
    obtain ⟨tb, to_, tc, C, h6⟩ := hL.out.2.1.six
    have x6 := h6.cell6
    have H6 := Lib.hid h6
    clear h6
    by_cases hlt : 0 < todo.length
    · obtain ⟨t, ht⟩ : ∃ t, todo.head? = some t := by
        cases todo with
        | nil => simp at hlt
        | cons a b => exact ⟨a, rfl⟩
      have htn := hL.out.1.todo_ t (List.mem_of_head? ht)
      have xt := H6.out.at_ ht
      have q0 : (0 : Int) < (todo.length : Int) := by omega
      have qd : decide ((todo.length : Int) > 0) = true := decide_eq_true q0
      have qd' : decide ((0 : Int) < (todo.length : Int)) = true := decide_eq_true q0
      have qn : decide (0 < todo.length) = true := decide_eq_true hlt
      have HT := Lib.hid ht
      have HTN := Lib.hid htn
      clear ht htn
      gi_wp2_with (gi_at_call 32; refine (next_in Fence.wide _ trivial rfl (some ⟨G, 0, none⟩) (t : Int) _).mono ?_; rintro e w' ⟨rfl, rfl⟩)
      have k1 : ((W.alloc (.cells #[.pointer (some ⟨G, 0, none⟩)] 33)).alloc (.cells #[.int .i64 (t : Int)] 3)).heap[W.heap.size]? = some (.cells #[.pointer (some ⟨G, 0, none⟩)] 33 (0, 0)) := blk_alloc (blk_new W _) _
      have k2 : ((W.alloc (.cells #[.pointer (some ⟨G, 0, none⟩)] 33)).alloc (.cells #[.int .i64 (t : Int)] 3)).heap[W.heap.size + 1]? = some (.cells #[.int .i64 (t : Int)] 3 (0, 0)) := by
        have := blk_new (W.alloc (.cells #[.pointer (some ⟨G, 0, none⟩)] 33)) (.cells #[.int .i64 (t : Int)] 3)
        rwa [World.size_alloc] at this
      have hlW := hL.out.2.2.size
      have hbW : Below w.heap.size w ((W.alloc (.cells #[.pointer (some ⟨G, 0, none⟩)] 33)).alloc (.cells #[.int .i64 (t : Int)] 3)) := (hL.out.2.2.alloc hlW _).alloc (by simp; omega) _
      have hsz : ((W.alloc (.cells #[.pointer (some ⟨G, 0, none⟩)] 33)).alloc (.cells #[.int .i64 (t : Int)] 3)).heap.size = W.heap.size + 2 := by simp
      have hm1 : Marks w.heap.size ((W.alloc (.cells #[.pointer (some ⟨G, 0, none⟩)] 33)).alloc (.cells #[.int .i64 (t : Int)] 3)) ds := hM.out.keeps ((KeepsOthers.alloc W _).trans (KeepsOthers.alloc _ _))
      have hhp : LHp w.heap.size ((W.alloc (.cells #[.pointer (some ⟨G, 0, none⟩)] 33)).alloc (.cells #[.int .i64 (t : Int)] 3)) Bo S B6 n o todo := (hL.out.2.1.alloc _).alloc _
      have hin : LMid n es r o todo t [] := by
        refine ⟨hL.out.1, HT.out, fun y hy => by simp at hy⟩
      have hb5 := blk_lt hL.out.2.1.five
      have hb6 := blk_lt H6.out.1
      have hbt := blk_lt H6.out.2.1
      have hbo := blk_lt hL.out.2.1.row
      have haw : Away W.heap.size (W.heap.size + 1) ((W.alloc (.cells #[.pointer (some ⟨G, 0, none⟩)] 33)).alloc (.cells #[.int .i64 (t : Int)] 3)) B6 := ⟨⟨tb, to_, none⟩, _, _, ((H6.out.alloc _).alloc _).1, by show tb ≠ _; omega, by show tb ≠ _; omega⟩
      obtain ⟨M0, hM0⟩ : ∃ M0, M0 = todo.length + bare n o := ⟨_, rfl⟩
      have HM0 := Lib.hid hM0
      have H13 := Lib.hid h13.out
      have HM12 : Hid (M0 ≤ 13) := by show _ ≤ _; rw [hM0]; exact h13.out.1
      have HMU := Lib.hid hmu.out
      have HTD := Lib.hid (Nat.le_of_eq hM0.symm)
      clear hM0 hmu hM hL x6 xt
      obtain ⟨W1, hW1⟩ : ∃ W1, W1 = ((W.alloc (.cells #[.pointer (some ⟨G, 0, none⟩)] 33)).alloc (.cells #[.int .i64 (t : Int)] 3)) := ⟨_, rfl⟩
      rw [← hW1] at k1 k2 hbW hsz hm1 hhp haw ⊢
      refine wpIn_rangeFunc_ownF rfl (by omega) (gf := 43) (lb := #[.pointer (some ⟨W.heap.size, 0, none⟩), .pointer (some ⟨W.heap.size + 1, 0, none⟩)]) rfl trivial (enters_of Try.func43 (by kernel_rfl) rfl)
        (next_stops 5 (by omega) W.heap.size (W.heap.size + 1) G n t es HTN.out.1 w W1 HI.out HG.out k1 k2 hbW) kpc_t (kpc_b (by omega) (by omega) (by omega)) (Below.refl _ _) (fun _ => rfl)
        (fun pre V => ((∃ o' todo', LMid n es r o' todo' t (pre.map Subtype.val) ∧ todo'.length + bare n o' ≤ M0 ∧ LHp w.heap.size V Bo S B6 n o' todo') ∧ Away W.heap.size (W.heap.size + 1) V B6 ∧ W.heap.size + 2 ≤ V.heap.size) ∧ (Below w.heap.size w V ∧ Marks w.heap.size V ds))
        (fun _ _ _ => False)
        (OwnFrom.and (Own.from (fun s X Y row hs hg hr => by
          obtain ⟨⟨o', todo', h1, h2, h3⟩, ⟨p, l, c, h4, h5⟩, h6⟩ := hs
          exact ⟨⟨o', todo', h1, h2, h3.keeps fun k cs t hk => (grownBy_keeps_cells hg hr hk rfl).trans hk⟩, ⟨p, l, c, (grownBy_keeps_cells hg hr h4 rfl).trans h4, h5⟩, Nat.le_trans h6 hg.size⟩) _) (OwnFrom.and (ownFrom_below (Nat.le_refl _) (by omega)) (Marks.own hm1)))
        (fun _ _ _ _ _ hs _ _ => hs)
        ⟨⟨⟨o, todo, hin, HTD.out, hhp⟩, haw, by omega⟩, hbW, hm1⟩
        (fun x => { tmps := #[Value.pointer (some ⟨G, 0, none⟩), Value.int .i64 (r : Int), undef, undef, Value.slice none 0 0, Value.pointer (some ⟨S, 0, none⟩), Value.pointer (some ⟨B6, 0, none⟩), Value.int .i64 ((x.1 : Nat) : Int), Value.pointer (some ⟨G, 0, none⟩), Value.bool false, Value.slice (some ⟨w.heap.size, 0, none⟩) 1 1, Value.pointer (some ⟨G, 0, none⟩), Value.pointer (some ⟨G, 0, none⟩), Value.pointer (some ⟨G, 1, none⟩), Value.slice (some ⟨Ob, 0, none⟩) n n, Value.int .i64 (n : Int), Value.slice (some ⟨Bo, 0, none⟩) n n, Value.int .i64 (r : Int), Value.bool false, Value.bool false, Value.int .i64 (r : Int), Value.slice (some ⟨Bo, 0, none⟩) n n, Value.int .i64 (n : Int), Value.bool false, Value.bool false, undef, Value.slice (some ⟨Bo, 0, none⟩) n n, Value.int .i64 (r : Int), Value.pointer (some ⟨Bo, r, none⟩), Value.int .i64 (r : Int), Value.slice (some ⟨S + 1, 0, none⟩) 1 1, Value.slice (some ⟨tb, to_, none⟩) todo.length tc, Value.int .i64 (todo.length : Int), Value.bool true, u34, u35, Value.pointer (some ⟨G, 0, none⟩), Value.slice (some ⟨tb, to_, none⟩) todo.length tc, Value.pointer (some ⟨tb, to_, none⟩), Value.int .i64 (t : Int), Value.func (.func 43) #[] #[.pointer (some ⟨W.heap.size, 0, none⟩), .pointer (some ⟨W.heap.size + 1, 0, none⟩)], Value.int .i64 ((x.1 : Nat) : Int), undef, undef, undef, undef, undef, undef, undef, undef, undef, undef, undef, undef, undef, undef, undef, undef, undef, undef, undef, u61, undef], defers := [] }) ?assign ?body ?done ?stop
      case assign =>
        intro l x V K hK
        gi_wp2
        exact hK
      case body =>
        rintro l pre x V ⟨⟨⟨o1, td1, hmid, hle, hhp1⟩, haw1, hvs⟩, hbv, hmk⟩ hlen2
        obtain ⟨y, hy⟩ := x
        have hyn := outL_lt HG.out hy
        have y5 := hhp1.five_cell
        have yv := nums_cell hhp1.row (x := y) (by rw [hmid.inv.len]; exact hyn)
        have yf : V.frozen? ⟨Bo, y, none⟩ = false := blk_frozen hhp1.row y
        have z1 : (y : Int) < (n : Int) := by omega
        have z0 : (0 : Int) ≤ (y : Int) := by omega
        obtain ⟨a, ha⟩ : ∃ a, a = lb o1 y := ⟨_, rfl⟩
        rw [← ha] at yv
        have HA := Lib.hid ha
        have HMID := Lib.hid hmid
        have HHP := Lib.hid hhp1
        have HLE := Lib.hid hle
        have HY := Lib.hid hy
        have HYN := Lib.hid hyn
        have HL2 := Lib.hid hlen2
        have HBV := Lib.hid hbv
        have HMK := Lib.hid hmk
        have HAW := Lib.hid haw1
        have HVS := Lib.hid hvs
        clear haw1 hvs
        clear ha hmid hhp1 hle hlen2 hyn hbv hmk HTD HMU
        by_cases hb : a = -1
        · subst hb
          obtain ⟨tb2, to2, tc2, C2, h62⟩ := HHP.out.six
          have y6 := h62.cell6
          have yt := h62.at_ HMID.out.head
          have H62 := Lib.hid h62
          have htl := HMID.out.inv.todo_ t HMID.out.mem
          have hval := HMID.out.inv.val t htl.1 htl.2
          have yl := nums_cell HHP.out.row (x := t) (by rw [HMID.out.inv.len]; exact htl.1)
          obtain ⟨lv, hlv⟩ : ∃ lv, lv = lb o1 t := ⟨_, rfl⟩
          rw [← hlv] at yl hval
          have HLV := Lib.hid hlv
          have hw : IntKind.i64.wrap (lv + 1) = lv + 1 := IntWalk.i64_in _ (by have := HN.out; omega)
          obtain ⟨L1, hL1⟩ : ∃ L1, L1 = td1.length := ⟨_, rfl⟩
          rw [← hL1] at y6
          have HL1 := Lib.hid hL1
          have hL0 : 0 < L1 := by rw [hL1]; exact List.length_pos_of_mem HMID.out.mem
          have p0 : (0 : Int) < (L1 : Int) := by omega
          have p1 : (t : Int) < (n : Int) := by omega
          have p2 : (0 : Int) ≤ (t : Int) := by omega
          clear h62 htl hval hlv hL1
          gi_wp2
          refine region_round (n := 10) (by kernel_rfl) (by kernel_rfl) (by kernel_rfl) (by rintro ⟨_, _, h⟩; exact h) ?_
          simp only [List.take_succ_cons, List.take_zero, List.drop_succ_cons, List.drop_zero]
          repeat still_step
          try refine wpStill_nil ?_
          change wpList _ _ _ _ _ V.drew
          go_wp2_with (fail)
          obtain ⟨V1, hV1⟩ : ∃ V1, V1 = (V.setCell ⟨Bo, y, none⟩ (.int .i64 (lv + 1))).drew := ⟨_, rfl⟩
          obtain ⟨o2, ho2⟩ : ∃ o2, o2 = o1.set y (lb o1 t + 1) := ⟨_, rfl⟩
          have hnm := HMID.out.new HYN.out HA.out.symm HY.out
          rw [← ho2] at hnm
          have hp1 : LHp w.heap.size V1 Bo S B6 n o2 td1 := by
            rw [hV1, ho2, ← HLV.out]
            exact (HHP.out.set y (lv + 1)).keeps fun k cs t h => h
          have hke1 : KeepsOthers V V1 := by rw [hV1]; exact (KeepsOthers.setCell V _ _).trans (KeepsOthers.drew _)
          have hlB := HB00.out
          have hb1 : Below w.heap.size V V1 := by rw [hV1]; exact below_drew ((Below.refl w.heap.size V).setCell (p := ⟨Bo, y, none⟩) hlB _)
          have hs1 : V1.heap.size = V.heap.size := by rw [hV1]; simp
          have hx1 : ∀ k, k ≠ Bo → V1.heap[k]? = V.heap[k]? := fun k hk => by rw [hV1]; exact Below.heap_setCell _ _ _ _ hk
          rw [← hV1]
          obtain ⟨tb3, to3, tc3, C3, h63⟩ := hp1.six
          have haw3 : tb3 ≠ W.heap.size ∧ tb3 ≠ W.heap.size + 1 := by
            obtain ⟨p, l, c, e1, e2, e3⟩ := HAW.out
            exact Away.td ⟨p, l, c, (hx1 B6 (by have := blk_ne h63.1 hp1.row (by decide); exact this)).trans e1, e2, e3⟩ h63
          have y63 := h63.cell6
          rw [← HL1.out] at y63
          have h64 := h63.alloc (.cells #[.int .i64 (y : Int)] 3)
          have hp2 := hp1.alloc (.cells #[.int .i64 (y : Int)] 3)
          have hke2 := KeepsOthers.alloc V1 (.cells #[.int .i64 (y : Int)] 3)
          have hnn := blk_new V1 (.cells #[.int .i64 (y : Int)] 3)
          have hss : (V1.alloc (.cells #[.int .i64 (y : Int)] 3)).heap.size = V.heap.size + 1 := by rw [World.size_alloc, hs1]
          have hb2 : Below w.heap.size V (V1.alloc (.cells #[.int .i64 (y : Int)] 3)) := hb1.alloc (by have := HBV.out.size; omega) _
          have hx2 : ∀ k, k < V.heap.size → k ≠ Bo → (V1.alloc (.cells #[.int .i64 (y : Int)] 3)).heap[k]? = V.heap[k]? := fun k hk hne => (Below.heap_alloc _ _ _ (by omega)).trans (hx1 k hne)
          obtain ⟨V2, hV2⟩ : ∃ V2, V2 = V1.alloc (.cells #[.int .i64 (y : Int)] 3) := ⟨_, rfl⟩
          have HV2 := Lib.hid hV2
          rw [← hV2] at h64 hp2 hke2 hnn hss hb2 hx2
          obtain ⟨i0, hi0, hi1, hi2, hi3⟩ := info_parts info3
          have HI0 := Lib.hid hi0
          have HI1 := Lib.hid hi1
          have HI2 := Lib.hid hi2
          have HI3 := Lib.hid hi3
          have HOL := Lib.hid h64.olds
          have hsp := fun hr => h64.spare hr
          rw [← HL1.out] at hsp
          have HSP := Lib.hid hsp
          have hlo : (nums .i64 (td1.map fun (x : Nat) => (x : Int))).length = L1 * 1 := by rw [HL1.out]; simp [nums]
          have HLO := Lib.hid hlo
          have hL1s : L1 ≤ 100 := by have h1 := HLE.out; have h2 := HL1.out; have h3 := HM12.out; omega
          have HL1S := Lib.hid hL1s
          have HNC : Hid (∀ (j : Nat) (u : Value), [Value.int .i64 (y : Int)][j]? = some u → V2.cell? (Addr.add ⟨V1.heap.size, 0, none⟩ j) = some u) := by
            intro j u hu
            have hj : j = 0 := by
              cases j with
              | zero => rfl
              | succ j => simp at hu
            subst hj
            have := blk_cell hnn 0
            simp at hu this
            simpa [Addr.add, hu] using this
          have HNM := Lib.hid hnm
          have HP2 := Lib.hid hp2
          have H64 := Lib.hid h64
          have HKE := Lib.hid (hke1.trans hke2)
          have HBB := Lib.hid hb2
          have HXX := Lib.hid hx2
          have HAW3 := Lib.hid haw3
          have HSS := Lib.hid hss
          clear hi0 hi1 hi2 hi3 hV2 hV1 ho2 hnm hp1 hke1 hb1 hs1 hx1 h63 haw3 h64 hp2 hke2 hnn hss hb2 hx2 hsp hlo hL1s y6 yt yl yv yf hw
          have HFIN : Hid (∀ (V3 : World) (q : Addr) (l3 c3 : Nat) (s0 : Value), V3.heap[B6]? = some (.cells #[s0] 37 (0, 0)) → KeepsOthers V2 V3 → Below w.heap.size V2 V3 → V3.heap[W.heap.size]? = V2.heap[W.heap.size]? → V3.heap[W.heap.size + 1]? = V2.heap[W.heap.size + 1]? → q.block ≠ W.heap.size ∧ q.block ≠ W.heap.size + 1 →
              LHp w.heap.size (V3.setCell ⟨B6, 0, none⟩ (.slice (some q) l3 c3)) Bo S B6 n o2 (td1 ++ [y]) → ∀ Vf, Vf = V3.setCell ⟨B6, 0, none⟩ (.slice (some q) l3 c3) →
              KeepsOthers V Vf ∧ KpC w.heap.size W.heap.size (W.heap.size + 1) V Vf ∧ (((∃ o' todo', LMid n es r o' todo' t ((pre ++ [(⟨y, hy⟩ : OutT es t)]).map Subtype.val) ∧ todo'.length + bare n o' ≤ M0 ∧ LHp w.heap.size Vf Bo S B6 n o' todo') ∧ Away W.heap.size (W.heap.size + 1) Vf B6 ∧ W.heap.size + 2 ≤ Vf.heap.size) ∧ (Below w.heap.size w Vf ∧ Marks w.heap.size Vf ds))) := by
            intro V3 q l3 c3 s0 e6 hk3 hb3 hx3 hx4 hq hl3 Vf hVf
            have hvs := HVS.out
            have hbs : Below w.heap.size V Vf := by rw [hVf]; exact (HBB.out.trans hb3).setCell (p := ⟨B6, 0, none⟩) H13.out.2 _
            have hko : KeepsOthers V Vf := by rw [hVf]; exact (HKE.out.trans hk3).trans (KeepsOthers.setCell _ _ _)
            have hf : ∀ k, k ≠ B6 → Vf.heap[k]? = V3.heap[k]? := fun k hk => by rw [hVf]; exact Below.heap_setCell _ _ _ _ hk
            refine ⟨hko, ⟨hbs, ?_, ?_⟩, ⟨⟨o2, td1 ++ [y], ?_, ?_, by rw [hVf]; exact hl3⟩, ⟨q, l3, c3, ?_, hq⟩, ?_⟩, HBV.out.trans hbs, HMK.out.keeps hko⟩
            · rw [hf _ (by omega), hx3, HXX.out _ (by omega) (by omega)]
            · rw [hf _ (by omega), hx4, HXX.out _ (by omega) (by omega)]
            · rw [List.map_append]; exact HNM.out.1
            · have q1 := HNM.out.2
              have q2 := HLE.out
              rw [List.length_append, List.length_singleton]
              omega
            · rw [hVf]
              have := blk_set e6 0 (.slice (some q) l3 c3)
              simpa using this
            · exact Nat.le_trans hvs hbs.size
          refine region_round_lit (by kernel_rfl) (by rintro ⟨_, _, h⟩; exact h) ?_
          go_wp2_with (at_builtin; rw [← HV2.out]; refine wpList_append_arg _ rfl (.tmp 57) (.tmp 59) 37 rfl 3 i0 (.int .i64 0) 1 8 Try.underlying37 HI0.out HI1.out HI2.out HI3.out rfl (by decide) tb3 to3 L1 tc3 (nums .i64 (td1.map fun (x : Nat) => (x : Int))) rfl HLO.out HOL.out ⟨V1.heap.size, 0, none⟩ 1 1 [.int .i64 (y : Int)] rfl rfl HNC.out (by intro u hu; simp at hu; subst hu; rfl) (fun hr => HSP.out hr) (by have := HL1S.out; unfold maxLen; omega) (by have := HL1S.out; omega) ?_ ?_)
          · intro hr
            obtain ⟨V3, hV3⟩ : ∃ V3, V3 = V2.setCells tb3 (to3 + L1) [.int .i64 (y : Int)] := ⟨_, rfl⟩
            have e3 : V3 = V2.setCell ⟨tb3, to3 + L1, none⟩ (.int .i64 (y : Int)) := by rw [hV3]; simp [World.setCells]
            have k6 : V3.heap[B6]? = some (.cells #[.slice (some ⟨tb3, to3, none⟩) td1.length tc3] 37 (0, 0)) := by rw [e3]; exact blk_far H64.out.1 (blk_ne H64.out.1 H64.out.2.1 (by decide)) _
            have c6 : V3.cell? ⟨B6, 0, none⟩ = some (.slice (some ⟨tb3, to3, none⟩) td1.length tc3) := (blk_cell k6 0).trans rfl
            have f6 : V3.frozen? ⟨B6, 0, none⟩ = false := blk_frozen k6 0
            have hroom := HP2.out.room (y := y) H64.out (by rw [← HL1.out]; exact hr)
            rw [← HL1.out, Nat.mul_one, ← hV3] at hroom
            have hk3 : KeepsOthers V2 V3 := by rw [e3]; exact KeepsOthers.setCell _ _ _
            have hb3 : Below w.heap.size V2 V3 := by rw [e3]; exact (Below.refl _ _).setCell (p := ⟨tb3, to3 + L1, none⟩) H64.out.2.2.2.2.2.2 _
            have hx3 : ∀ k, k ≠ tb3 → V3.heap[k]? = V2.heap[k]? := fun k hk => by rw [e3]; exact Below.heap_setCell _ _ _ _ hk
            have HE := Lib.hid (HFIN.out V3 ⟨tb3, to3, none⟩ (L1 + 1) tc3 _ k6 hk3 hb3 (hx3 _ (Ne.symm HAW3.out.1)) (hx3 _ (Ne.symm HAW3.out.2)) HAW3.out hroom _ rfl)
            rw [← hV3]
            rw [← HL1.out] at c6
            clear hV3 e3 k6 hroom hk3 hb3 hx3 hr
            go_wp2
            exact HE.out
          · intro hr v' V3 hown hg
            have k6 : V3.heap[B6]? = _ := (hg.block B6 (blk_lt H64.out.1) (by simp)).trans H64.out.1
            have c6 : V3.cell? ⟨B6, 0, none⟩ = some (.slice (some ⟨tb3, to3, none⟩) td1.length tc3) := (blk_cell k6 0).trans rfl
            have f6 : V3.frozen? ⟨B6, 0, none⟩ = false := blk_frozen k6 0
            have hvs := HVS.out
            have hss := HSS.out
            have hown2 := hown
            rw [HL1.out] at hown2
            have hgrow := HP2.out.grow (y := y) (by have := HBV.out.size; omega) hown2 hg
            obtain ⟨_, ⟨_, h0⟩ | ⟨B, cap, cur, rfl, hB, _⟩⟩ := hown
            · omega
            have hk3 : KeepsOthers V2 V3 := KeepsOthers.of_grownBy hg (fun j o e => by cases e)
            have hb3 : Below w.heap.size V2 V3 := (Below.refl _ _).grown hg (by have := HBV.out.size; omega) (fun k e => by cases e)
            have HE := Lib.hid (HFIN.out V3 ⟨B, 0, none⟩ (L1 + 1) cap _ k6 hk3 hb3 (hg.block _ (by omega) (by simp)) (hg.block _ (by omega) (by simp)) ⟨by show B ≠ _; omega, by show B ≠ _; omega⟩ hgrow _ rfl)
            rw [← HL1.out] at c6
            clear k6 hgrow hk3 hb3 hr hown2 hg hB hvs hss
            go_wp2
            exact HE.out
        · have qb : decide (a = -1) = false := decide_eq_false hb
          have HB := Lib.hid hb
          gi_wp2
          refine ⟨KeepsOthers.refl V, ⟨Below.refl _ _, rfl, rfl⟩, ⟨⟨o1, td1, ?_, HLE.out, HHP.out⟩, HAW.out, HVS.out⟩, HBV.out, HMK.out⟩
          rw [List.map_append]
          exact HMID.out.skip (by rw [← HA.out]; exact HB.out)
      case done =>
        rintro D ys V hDD rfl ⟨⟨⟨o1, td1, hmid, hle, hhp1⟩, _, _⟩, hbv, hmk⟩ hK
        rw [outA_val] at hmid
        have hfin := hmid.finish
        have hcons : td1 = t :: td1.tail := by
          have := hmid.head
          cases td1 with
          | nil => simp at this
          | cons a b => simp at this; rw [this]; rfl
        obtain ⟨tb2, to2, tc2, C2, h62⟩ := hhp1.six
        have y6 := h62.cell6
        have hcap := h62.2.2.2.1
        obtain ⟨L1, hL1⟩ : ∃ L1, L1 = td1.length := ⟨_, rfl⟩
        rw [← hL1] at y6 hcap
        have hL0 : 0 < L1 := by rw [hL1]; exact List.length_pos_of_mem hmid.mem
        have hLt : L1 - 1 = td1.tail.length := by rw [hL1, List.length_tail]
        have hsl : ∀ W, (Instr.slice 37 (.slice (some ⟨tb2, to2, none⟩) L1 tc2) (some (.int .i64 1)) none none).run Try.prog W = .ok (.slice (some ⟨tb2, if tc2 = 1 then to2 else to2 + 1, none⟩) (L1 - 1) (tc2 - 1)) W := by
          intro W
          rw [run_slice_l (P := Try.prog) W 37 (some ⟨tb2, to2, none⟩) L1 tc2 Try.underlying37 .i64 1 (by omega) (by omega), size37]
          by_cases e : tc2 = 1
          · simp [sliced, Result.andThen, Addr.add, e]
          · have e1 : ¬ tc2 - 1 = 0 := by omega
            simp [sliced, Result.andThen, Addr.add, e, e1]
        have HFI := Lib.hid hfin
        have HCO := Lib.hid hcons
        have HLT := Lib.hid hLt
        have HLE := Lib.hid hle
        have HHP := Lib.hid hhp1
        have H62 := Lib.hid h62
        have HBV := Lib.hid hbv
        have HMK := Lib.hid (hmk.cons hm1 (by omega) hDD hK)
        have HL1 := Lib.hid hL1
        obtain ⟨tx, htx⟩ : ∃ tx, tx = if tc2 = 1 then to2 else to2 + 1 := ⟨_, rfl⟩
        rw [← htx] at hsl
        have HTX := Lib.hid htx
        clear hmid hle hhp1 hbv hmk hfin hcons hLt h62 hL1 htx hcap
        gi_wp2
        have hnew := HHP.out.popA HCO.out H62.out HTX.out HLT.out
        have hlen := hnew.len
        have hbar := bareW_eq hnew.row HFI.out.len
        refine ⟨⟨{ target := .collected D, args := #[] } :: ds, V.heap.size, o1, td1.tail, _, _, _, _, _, _, _, _, _, _, _, rfl, ⟨HFI.out, hnew, HBV.out.alloc HBV.out.size _⟩, HMK.out.keeps (KeepsOthers.alloc V _), ⟨by have q1 := HLE.out; have q2 := HLT.out; have q3 := HL1.out; have q4 := HM12.out; omega, HBV.out.size⟩⟩, ?_⟩
        show lenIn (V.alloc _) (.pointer (some ⟨V.heap.size, 0, none⟩)) + bareW n Bo (V.alloc _) < lenIn W (.pointer (some ⟨B6, 0, none⟩)) + bareW n Bo W
        rw [hlen, hbar, HMU.out]
        have q1 := HLE.out
        have q2 := HLT.out
        have q3 := HL1.out
        have q4 := HM0.out
        omega
      case stop =>
        rintro D c pre V _ _ h _
        exact h.elim
    · have hnil : todo = [] := List.length_eq_zero_iff.1 (by omega)
      subst hnil
      have HF : Hid (LevelsEnds w n es r (.returned (.slice (some ⟨Bo, 0, none⟩) n n)) W) := ⟨Bo, o, rfl, hL.out.2.1.row, hL.out.1.len, hL.out.1.finish HG.out HR.out, hL.out.2.2⟩
      have y5 := hL.out.2.1.five_cell
      have HL := Lib.hid hL.out
      clear hL hlt hmu H6
      gi_wp2_with (fail)
      refine leaves_marks ds W hM.out (fun W' hb hk => ⟨_, results_tmp rfl _ _ _, ⟨Bo, o, rfl, hk _ _ HL.out.2.1.row rfl, HL.out.1.len, HL.out.1.finish HG.out HR.out, HL.out.2.2.trans hb⟩⟩)
end Go.Proofs.Ytbldlmolbdkabaa.HP
