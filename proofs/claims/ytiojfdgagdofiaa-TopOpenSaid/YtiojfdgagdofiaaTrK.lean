/-
tree.Parse over the translation: it answers what parseP says.
-/
import Derived.Test.YtiojfdgagdofiaaTrI
import Derived.Test.YtiojfdgagdofiaaTrJ
set_option linter.unusedVariables false
set_option linter.unusedSimpArgs false
namespace Go.Proofs.Ytiojfdgagdofiaa.HP
open Go.RowKit Go.Proofs.Ytiojfdgagdofiaa.HB Go.Proofs.Ytiojfdgagdofiaa.HK Go.Proofs.YtiojfdgagdofiaaW.PrintWords Go.Proofs.YtiojfdgagdofiaaW.PrintLast Go.Proofs.YtiojfdgagdofiaaW.PrintMore
/-- A row of tokens in memory. -/
def TRow (w : World) (A : Option Addr) (ts : List S37) : Prop :=
  ∀ (j : Nat) (T : S37), ts[j]? = some T → ∃ g o : Nat, A = some ⟨g, o, none⟩ ∧ g < w.heap.size ∧ w.cell? ⟨g, o + j * 4, none⟩ = some (.int .u8 T.f0) ∧ w.cell? ⟨g, o + j * 4 + 1, none⟩ = some (.string T.f1) ∧ w.cell? ⟨g, o + j * 4 + 2, none⟩ = some (.int .i64 T.f2) ∧ w.cell? ⟨g, o + j * 4 + 3, none⟩ = some (.int .i64 T.f3)
theorem TRow.below {w w1 : World} {A : Option Addr} {ts : List S37} (h : TRow w A ts) (hb : Below w.heap.size w w1) : TRow w1 A ts := by
  intro j T hj
  obtain ⟨g, o, hA, hg, c0, c1, c2, c3⟩ := h j T hj
  have hc : ∀ i, w1.cell? ⟨g, i, none⟩ = w.cell? ⟨g, i, none⟩ := fun i => hb.cell (p := ⟨g, i, none⟩) hg
  exact ⟨g, o, hA, Nat.lt_of_lt_of_le hg hb.size, by rw [hc]; exact c0, by rw [hc]; exact c1, by rw [hc]; exact c2, by rw [hc]; exact c3⟩
/-- How the call ends. -/
def ParseEnds (w : World) (r : Except (Int × Int) (List FormP × (Nat → List Int))) (e : Ending) (w' : World) : Prop :=
  match r with
  | .ok (fs, ls) => ∃ fv vs, e = .returned (.tuple #[fv, vs 0, .int .i64 0, .int .i64 0]) ∧ w'.ownsRow (w.heap.size + 4) 40 5 fv fs.length (fcells fs 2 vs) ∧ RowsN w' (w.heap.size + 4) (fs.length + 2) vs ls ∧ Below w.heap.size w w'
  | .error (a, why) => e = .returned (.tuple #[.slice none 0 0, .slice none 0 0, .int .i64 a, .int .i64 why]) ∧ Below w.heap.size w w'
/-- What stands at each round's head. -/
def ParseRel (w0 wr : World) (ts : List S37) (j : Nat) : Prop :=
  j ≤ ts.length ∧ ∃ fs fv vs ls, IsParser w0 wr fs fv vs ls ∧ TInv fs ls ∧ runP [] (fun _ => []) ts = runP fs ls (ts.drop j)
theorem results14 {w : World} {g : Nat} {v0 v1 : Value} {a b : Int} (h : ResCells w g v0 v1 a b) (tmps : Array Value)
    (h2 : tmps[2]? = some (.pointer (some ⟨g, 0, none⟩))) (h3 : tmps[3]? = some (.pointer (some ⟨g + 1, 0, none⟩))) (h4 : tmps[4]? = some (.pointer (some ⟨g + 2, 0, none⟩))) (h5 : tmps[5]? = some (.pointer (some ⟨g + 3, 0, none⟩))) :
    (results Try.f14 tmps).run Try.prog w = .ok (.tuple #[v0, v1, .int .i64 a, .int .i64 b]) w := by
  obtain ⟨b0, b1, b2, b3⟩ := h
  have c0 : w.cell? ⟨g, 0, none⟩ = some v0 := by rw [blk_cell b0]; rfl
  have c1 : w.cell? ⟨g + 1, 0, none⟩ = some v1 := by rw [blk_cell b1]; rfl
  have c2 : w.cell? ⟨g + 2, 0, none⟩ = some (.int .i64 a) := by rw [blk_cell b2]; rfl
  have c3 : w.cell? ⟨g + 3, 0, none⟩ = some (.int .i64 b) := by rw [blk_cell b3]; rfl
  simp [results, Try.results14, go_sem, h2, h3, h4, h5, c0, c1, c2, c3]
theorem four_stores {wr : World} {g : Nat} {v0 v1 : Value} {x2 x3 : Int} (h : ResCells wr g v0 v1 x2 x3) (u0 u1 : Value) (a b : Int) :
    ResCells (((((wr.setCell ⟨g, 0, none⟩ u0).setCell ⟨g + 1, 0, none⟩ u1).setCell ⟨g + 2, 0, none⟩ (.int .i64 a)).setCell ⟨g + 3, 0, none⟩ (.int .i64 b)).drew) g u0 u1 a b ∧
    Below g wr (((((wr.setCell ⟨g, 0, none⟩ u0).setCell ⟨g + 1, 0, none⟩ u1).setCell ⟨g + 2, 0, none⟩ (.int .i64 a)).setCell ⟨g + 3, 0, none⟩ (.int .i64 b)).drew) ∧
    ∀ k, g + 3 < k → (((((wr.setCell ⟨g, 0, none⟩ u0).setCell ⟨g + 1, 0, none⟩ u1).setCell ⟨g + 2, 0, none⟩ (.int .i64 a)).setCell ⟨g + 3, 0, none⟩ (.int .i64 b)).drew).heap[k]? = wr.heap[k]? := by
  obtain ⟨R0, R1, R2, R3⟩ := h
  have hne : ∀ (W : World) (p : Addr) (x : Value) (k : Nat), k ≠ p.block → (W.setCell p x).heap[k]? = W.heap[k]? := fun W p x k h => Below.heap_setCell W p x k h
  refine ⟨⟨?_, ?_, ?_, ?_⟩, ?_, ?_⟩
  · show (((((wr.setCell ⟨g, 0, none⟩ u0).setCell ⟨g + 1, 0, none⟩ u1).setCell ⟨g + 2, 0, none⟩ (.int .i64 a)).setCell ⟨g + 3, 0, none⟩ (.int .i64 b))).heap[g]? = _
    rw [hne _ _ _ _ (by show g ≠ g + 3; omega), hne _ _ _ _ (by show g ≠ g + 2; omega), hne _ _ _ _ (by show g ≠ g + 1; omega)]
    exact blk_set R0 0 _
  · show (((((wr.setCell ⟨g, 0, none⟩ u0).setCell ⟨g + 1, 0, none⟩ u1).setCell ⟨g + 2, 0, none⟩ (.int .i64 a)).setCell ⟨g + 3, 0, none⟩ (.int .i64 b))).heap[g + 1]? = _
    rw [hne _ _ _ _ (by show g + 1 ≠ g + 3; omega), hne _ _ _ _ (by show g + 1 ≠ g + 2; omega)]
    exact blk_set ((hne _ _ _ _ (by show g + 1 ≠ g; omega)).trans R1) 0 _
  · show (((((wr.setCell ⟨g, 0, none⟩ u0).setCell ⟨g + 1, 0, none⟩ u1).setCell ⟨g + 2, 0, none⟩ (.int .i64 a)).setCell ⟨g + 3, 0, none⟩ (.int .i64 b))).heap[g + 2]? = _
    rw [hne _ _ _ _ (by show g + 2 ≠ g + 3; omega)]
    exact blk_set ((hne _ _ _ _ (by show g + 2 ≠ g + 1; omega)).trans ((hne _ _ _ _ (by show g + 2 ≠ g; omega)).trans R2)) 0 _
  · exact blk_set ((hne _ _ _ _ (by show g + 3 ≠ g + 2; omega)).trans ((hne _ _ _ _ (by show g + 3 ≠ g + 1; omega)).trans ((hne _ _ _ _ (by show g + 3 ≠ g; omega)).trans R3))) 0 _
  · exact below_drew (((((Below.refl g wr).setCell (p := ⟨g, 0, none⟩) (Nat.le_refl _) _).setCell (p := ⟨g + 1, 0, none⟩) (by show g ≤ g + 1; omega) _).setCell (p := ⟨g + 2, 0, none⟩) (by show g ≤ g + 2; omega) _).setCell (p := ⟨g + 3, 0, none⟩) (by show g ≤ g + 3; omega) _)
  · intro k hk
    show (((((wr.setCell ⟨g, 0, none⟩ u0).setCell ⟨g + 1, 0, none⟩ u1).setCell ⟨g + 2, 0, none⟩ (.int .i64 a)).setCell ⟨g + 3, 0, none⟩ (.int .i64 b))).heap[k]? = _
    rw [hne _ _ _ _ (by show k ≠ g + 3; omega), hne _ _ _ _ (by show k ≠ g + 2; omega), hne _ _ _ _ (by show k ≠ g + 1; omega), hne _ _ _ _ (by show k ≠ g; omega)]
theorem leaves_error (w w' : World) (ts : List S37) (a why x2 x3 : Int) (v0 v1 : Value) (tmps : Array Value) (hr : ResCells w' w.heap.size v0 v1 x2 x3) (hsz : w.heap.size + 3 < w'.heap.size) (hb : Below w.heap.size w w') (hp : parseP ts = .error (a, why))
    (h2 : tmps[2]? = some (.pointer (some ⟨w.heap.size, 0, none⟩))) (h3 : tmps[3]? = some (.pointer (some ⟨w.heap.size + 1, 0, none⟩))) (h4 : tmps[4]? = some (.pointer (some ⟨w.heap.size + 2, 0, none⟩))) (h5 : tmps[5]? = some (.pointer (some ⟨w.heap.size + 3, 0, none⟩))) :
    bodyPostD Try.prog Try.f14 (fun e w' => ParseEnds w (parseP ts) e w') (.panic [{ v := .iface 66 (.agg #[.int .i64 a, .int .i64 why]), recovered := false }]) { tmps := tmps, defers := [{ target := .fn (.func 41) #[.pointer (some ⟨w.heap.size, 0, none⟩), .pointer (some ⟨w.heap.size + 1, 0, none⟩), .pointer (some ⟨w.heap.size + 2, 0, none⟩), .pointer (some ⟨w.heap.size + 3, 0, none⟩)], args := #[] }] } w' := by
  show Leaves _ _ _ _ _ _ _
  refine leaves_cons (f := 41) (args := #[.pointer (some ⟨w.heap.size, 0, none⟩), .pointer (some ⟨w.heap.size + 1, 0, none⟩), .pointer (some ⟨w.heap.size + 2, 0, none⟩), .pointer (some ⟨w.heap.size + 3, 0, none⟩)]) (by simp) (by simp [go_sem]) ?_
  refine (catch_panicking w.heap.size a why x2 x3 v0 v1 w' hr hsz).mono ?_
  rintro e u' w'' ⟨rfl, rfl, hr', hb'⟩
  show Leaves _ _ _ _ _ .returning _
  refine ⟨_, results14 hr' tmps h2 h3 h4 h5, ?_⟩
  unfold ParseEnds
  rw [hp]
  exact ⟨rfl, hb.trans hb'⟩
theorem leaves_ok (w w' : World) (ts : List S37) (fs : List FormP) (ls : Nat → List Int) (fv : Value) (vs : Nat → Value) (tmps : Array Value) (hr : ResCells w' w.heap.size fv (vs 0) 0 0) (hp : parseP ts = .ok (fs, ls))
    (hF : w'.ownsRow (w.heap.size + 4) 40 5 fv fs.length (fcells fs 2 vs)) (hN : RowsN w' (w.heap.size + 4) (fs.length + 2) vs ls) (hb : Below w.heap.size w w')
    (h2 : tmps[2]? = some (.pointer (some ⟨w.heap.size, 0, none⟩))) (h3 : tmps[3]? = some (.pointer (some ⟨w.heap.size + 1, 0, none⟩))) (h4 : tmps[4]? = some (.pointer (some ⟨w.heap.size + 2, 0, none⟩))) (h5 : tmps[5]? = some (.pointer (some ⟨w.heap.size + 3, 0, none⟩))) :
    bodyPostD Try.prog Try.f14 (fun e w' => ParseEnds w (parseP ts) e w') .ret { tmps := tmps, defers := [{ target := .fn (.func 41) #[.pointer (some ⟨w.heap.size, 0, none⟩), .pointer (some ⟨w.heap.size + 1, 0, none⟩), .pointer (some ⟨w.heap.size + 2, 0, none⟩), .pointer (some ⟨w.heap.size + 3, 0, none⟩)], args := #[] }] } w' := by
  show Leaves _ _ _ _ _ _ _
  refine leaves_cons (f := 41) (args := #[.pointer (some ⟨w.heap.size, 0, none⟩), .pointer (some ⟨w.heap.size + 1, 0, none⟩), .pointer (some ⟨w.heap.size + 2, 0, none⟩), .pointer (some ⟨w.heap.size + 3, 0, none⟩)]) (by simp) (by simp [go_sem]) ?_
  refine (catch_idle _ _ _ _ w').mono ?_
  rintro e u' w'' ⟨rfl, rfl, rfl⟩
  show Leaves _ _ _ _ _ .returning _
  refine ⟨_, results14 hr tmps h2 h3 h4 h5, ?_⟩
  unfold ParseEnds
  rw [hp]
  exact ⟨fv, vs, rfl, hF, hN, hb⟩
set_option maxHeartbeats 8000000 in
set_option maxRecDepth 100000 in
theorem parse_calls (w : World) (A : Option Addr) (c : Nat) (ts : List S37) (hT : TRow w A ts) (hn : ts.length ≤ 1000000) :
    Calls Try.prog 14 #[.slice A ts.length c] w fun e w' => ParseEnds w (parseP ts) e w' := by
  have hmf : ∀ (fn : Fn) (first cap : Array Value) (w : World), (Instr.makeFunc fn first cap).run Try.prog w = .ok (.func fn first cap) w := fun _ _ _ _ => rfl
  have HT := Lib.hid hT
  have HNN := Lib.hid hn
  clear hT hn
  go_enter_defers Try.func14, Try.ntmps14
  go_wp2_with (fail)
  obtain ⟨w0, hw0⟩ : ∃ w0, w0 = (((w.alloc (.cells #[.slice none 0 0] 23)).alloc (.cells #[.slice none 0 0] 24)).alloc (.cells #[.int .i64 0] 3)).alloc (.cells #[.int .i64 0] 25) := ⟨_, rfl⟩
  rw [← hw0]
  have hsz : w0.heap.size = w.heap.size + 1 + 1 + 1 + 1 := by rw [hw0]; simp
  have HB0 : Hid (Below w.heap.size w w0) := by
    rw [hw0]
    exact ((((Below.refl _ w).alloc (Nat.le_refl _) _).alloc (by simp) _).alloc (by simp; omega) _).alloc (by simp; omega) _
  have HR0 : Hid (ResCells w0 w.heap.size (.slice none 0 0) (.slice none 0 0) 0 0) := by
    rw [hw0]
    have hn : ∀ (W : World) (o : Obj) (k : Nat), k < W.heap.size → (W.alloc o).heap[k]? = W.heap[k]? := fun W o k h => Below.heap_alloc W o k h
    refine ⟨?_, ?_, ?_, ?_⟩
    · rw [hn _ _ _ (by simp <;> omega), hn _ _ _ (by simp <;> omega), hn _ _ _ (by simp <;> omega)]; exact heap_alloc_new w _
    · rw [hn _ _ _ (by simp <;> omega), hn _ _ _ (by simp <;> omega)]
      have := heap_alloc_new (w.alloc (.cells #[.slice none 0 0] 23)) (.cells #[.slice none 0 0] 24)
      simpa using this
    · rw [hn _ _ _ (by simp <;> omega)]
      have := heap_alloc_new ((w.alloc (.cells #[.slice none 0 0] 23)).alloc (.cells #[.slice none 0 0] 24)) (.cells #[.int .i64 0] 3)
      simpa using this
    · have := heap_alloc_new (((w.alloc (.cells #[.slice none 0 0] 23)).alloc (.cells #[.slice none 0 0] 24)).alloc (.cells #[.int .i64 0] 3)) (.cells #[.int .i64 0] 25)
      simpa using this
  rw [← hsz, show w.heap.size + 1 + 1 + 1 = w.heap.size + 3 from rfl, show w.heap.size + 1 + 1 = w.heap.size + 2 from rfl]
  have HSZ := Lib.hid hsz
  clear hw0 hsz
  go_loopw [15] (fun i wr => ∃ j : Nat, i = .int .i64 (j : Int) ∧ Hid (ParseRel w0 wr ts j)) (fun i _ => ts.length - (intOf i).toNat)
  case atStart =>
    refine ⟨0, rfl, Nat.zero_le _, [], .slice none 0 0, fun _ => .slice none 0 0, fun _ => [], ⟨heap_alloc_new w0 _, own_nil _ _ _ _, ⟨fun _ _ => own_nil _ _ _ _, fun _ _ _ _ _ => .inl rfl⟩, (Below.refl _ w0).alloc (Nat.le_refl _) _⟩, TInv.start, by rw [List.drop_zero]⟩
  case round =>
    obtain ⟨j, rfl, hR⟩ := hrel
    have hle := hR.out.1
    have hL := HNN.out
    by_cases hlt : j < ts.length
    · obtain ⟨T, hj⟩ : ∃ T, ts[j]? = some T := ⟨_, List.getElem?_eq_getElem hlt⟩
      obtain ⟨_, fs, fv, vs, ls, hP, hI, hrun⟩ := hR.out
      have HP := Lib.hid hP
      have HI := Lib.hid hI
      have HRUN := Lib.hid hrun
      clear hP hI hrun
      have HBw : Hid (Below w.heap.size w wr) := by
        have := HSZ.out
        exact HB0.out.trans (HP.out.2.2.2.mono (by omega))
      obtain ⟨g, o, hA, hg, c0, c1, c2, c3⟩ := HT.out.below HBw.out j T hj
      have HJ := Lib.hid hj
      clear hj
      subst hA
      have q1 : (j : Int) < (ts.length : Int) := by omega
      have q0 : (0 : Int) ≤ (j : Int) := by omega
      have qd : decide ((j : Int) < (ts.length : Int)) = true := decide_eq_true q1
      go_wp2_with (fail)
      have hb1 : Below wr.heap.size wr (wr.alloc (.cells #[.int .u8 T.f0, .string T.f1, .int .i64 T.f2, .int .i64 T.f3] 37)) := (Below.refl _ wr).alloc (Nat.le_refl _) _
      refine (take_calls (HP.out.moved hb1) HI.out T).mono ?_
      rintro e w' hE
      have hstep : runP fs ls (ts.drop j) = (match takeP fs ls T with | .ok (fs', ls') => runP fs' ls' (ts.drop (j + 1)) | .error e => .error e) := by
        have hd : ts.drop j = T :: ts.drop (j + 1) := by
          have hj2 : ts[j] = T := by have := HJ.out; rw [List.getElem?_eq_getElem hlt] at this; exact Option.some.inj this
          rw [List.drop_eq_getElem_cons hlt, hj2]
        rw [hd, runP]
        cases takeP fs ls T <;> rfl
      rw [HRUN.out.symm] at hstep
      cases htk : takeP fs ls T with
      | error p =>
        obtain ⟨a, why⟩ := p
        rw [htk] at hE hstep
        obtain ⟨he, hbe⟩ := hE
        unfold gaveUp at he
        subst he
        go_wp2
        have hsz2 : w.heap.size + 3 < w'.heap.size := by have := HSZ.out; have := hbe.size; omega
        have hle2 : w.heap.size ≤ w0.heap.size := by have := HSZ.out; omega
        refine leaves_error w w' ts a why 0 0 (.slice none 0 0) (.slice none 0 0) _ ?_ hsz2 (HB0.out.trans (hbe.mono hle2)) ?_ rfl rfl rfl rfl
        · obtain ⟨r0, r1, r2, r3⟩ := HR0.out
          exact ⟨blk_below r0 hbe, blk_below r1 hbe, blk_below r2 hbe, blk_below r3 hbe⟩
        · unfold parseP; rw [hstep]
      | ok p =>
        obtain ⟨fs', ls'⟩ := p
        rw [htk] at hE hstep
        obtain ⟨rfl, fv', vs', hP'⟩ := hE
        go_wp2
        have hw : IntKind.i64.wrap ((j : Int) + 1) = ((j + 1 : Nat) : Int) := by rw [IntWalk.i64_in _ (by omega)]; omega
        go_roundw
        case measure => simp [intOf]; omega
        case rel => exact ⟨j + 1, by first | rfl | (rw [hw]) | simp, by omega, fs', fv', vs', ls', hP', HI.out.take htk, hstep⟩
    · have hj : j = ts.length := by omega
      subst hj
      obtain ⟨_, fs, fv, vs, ls, hP, hI, hrun⟩ := hR.out
      rw [List.drop_length] at hrun
      have HP := Lib.hid hP
      have HI := Lib.hid hI
      have HRUN := Lib.hid hrun
      clear hP hI hrun
      have HBw : Hid (Below w.heap.size w wr) := by
        have := HSZ.out
        exact HB0.out.trans (HP.out.2.2.2.mono (by omega))
      have qd : decide ((ts.length : Int) < (ts.length : Int)) = false := decide_eq_false (by omega)
      obtain ⟨A1, c1, hv1⟩ := HP.out.slice 1 (by omega)
      have d2 := HP.out.c2
      rw [hv1] at d2
      have HV1 := Lib.hid hv1
      clear hv1
      by_cases h0 : 0 < (ls 1).length
      · have q2 : decide ((0 : Int) < ((ls 1).length : Int)) = true := decide_eq_true (by omega)
        obtain ⟨m, hm⟩ : ∃ m, (ls 1).length = m + 1 := ⟨(ls 1).length - 1, by omega⟩
        obtain ⟨b, hb, hbn⟩ := HI.out.2.2 ((ls 1).getD m 0) (by rw [List.getD_eq_getElem?_getD, List.getElem?_eq_getElem (by omega)]; exact List.getElem_mem _)
        have hlo : Hid (lastOpen (ls 1) = b) := by show _ = _; unfold lastOpen; rw [hm, Nat.add_sub_cancel, hb]; rfl
        have hO1 := HP.out.2.2.1.1 1 (by omega)
        rw [HV1.out, hm] at hO1
        obtain ⟨O, cap1, hA1, _, _⟩ := hO1.form (Nat.succ_pos _)
        injection hA1 with hA1 _ hA2
        subst hA1 hA2
        have hel : wr.cell? ⟨O, m, none⟩ = some (.int .i64 (b : Int)) := by
          have := hO1.cellAt m (by omega)
          rw [this]
          have hml : m < (ls 1).length := by omega
          simp only [nums, List.getElem?_map, List.getElem?_eq_getElem hml, Option.map_some]
          rw [List.getD_eq_getElem?_getD, List.getElem?_eq_getElem hml] at hb
          have hb' : (ls 1)[m] = (b : Int) := hb
          rw [hb']
        have hF1 : 0 < fs.length := by omega
        obtain ⟨F, capF, hfv, _, _⟩ := HP.out.2.1.form hF1
        have d0 := HP.out.c0
        rw [hfv] at d0
        obtain ⟨fb, hfb⟩ : ∃ fb, fs[b]? = some fb := ⟨_, List.getElem?_eq_getElem hbn⟩
        have hcl : wr.cell? ⟨F, b * 5 + 4, none⟩ = some (.int .i64 fb.at_) := by
          have hOF := HP.out.2.1
          rw [hfv] at hOF
          rw [hOF.cellAt (b * 5 + 4) (by omega), fcells_get fs 2 vs b 4 fb hfb (by decide)]
          rfl
        have hbi : (b : Int) < (fs.length : Int) := by omega
        have hbi0 : (0 : Int) ≤ (b : Int) := Int.natCast_nonneg b
        have hmm : (m : Int) < (m : Int) + 1 := by omega
        have hm0 : (0 : Int) ≤ (m : Int) := Int.natCast_nonneg m
        have hls := HI.out.2.1 1
        have hfl := HI.out.1
        have hws : IntKind.i64.wrap ((m : Int) + 1 - 1) = (m : Int) := by rw [show (m : Int) + 1 - 1 = (m : Int) by omega]; exact IntWalk.i64_in _ (by omega)
        have hws2 : IntKind.i64.wrap (m : Int) = (m : Int) := IntWalk.i64_in _ (by omega)
        have hmm2 : (m : Int) < ((m + 1 : Nat) : Int) := by omega
        have hpe : Hid (parseP ts = .error (fb.at_, 8)) := by
          show _ = _
          unfold parseP
          rw [HRUN.out, runP]
          show (if 0 < (ls 1).length then _ else _) = _
          rw [if_pos h0, hlo.out, List.getD_eq_getElem?_getD, hfb]
          rfl
        have hle2 : w.heap.size ≤ w0.heap.size := by have := HSZ.out; omega
        have HM := Lib.hid hm
        rw [hm] at d2 q2
        have q3 : decide ((0 : Int) < (m : Int) + 1) = true := decide_eq_true (by omega)
        clear hb hO1 hls hfl hfb hm
        go_wp2_with (fail)
        go_still_tail 15, (by kernel_rfl)
        change wpList _ _ _ _ _ wr.drew
        obtain ⟨wd, hwd⟩ : ∃ wd, wd = wr.drew := ⟨_, rfl⟩
        rw [← hwd]
        have hbd : Below w0.heap.size w0 wd := by rw [hwd]; exact (HP.out.drewN 1).2.2.2
        clear hwd
        go_wp2_with (fail)
        go_at_call 43
        refine (need_no _ _ _).mono ?_
        rintro e w' ⟨rfl, rfl⟩
        go_wp2
        have hsz2 : w.heap.size + 3 < w'.heap.size := by have := HSZ.out; have := hbd.size; have := HP.out.1; have := blk_lt HP.out.1; omega
        refine leaves_error w w' ts fb.at_ 8 0 0 (.slice none 0 0) (.slice none 0 0) _ ?_ hsz2 (HB0.out.trans (hbd.mono hle2)) hpe.out rfl rfl rfl rfl
        obtain ⟨r0, r1, r2, r3⟩ := HR0.out
        exact ⟨blk_below r0 hbd, blk_below r1 hbd, blk_below r2 hbd, blk_below r3 hbd⟩
      · have q2 : decide ((0 : Int) < ((ls 1).length : Int)) = false := decide_eq_false (by omega)
        obtain ⟨G, hG⟩ : ∃ G, G = w.heap.size := ⟨_, rfl⟩
        have HH0 := Lib.hid h0
        have hle2 : w.heap.size ≤ w0.heap.size := by have := HSZ.out; omega
        have HRr : Hid (ResCells wr w.heap.size (.slice none 0 0) (.slice none 0 0) 0 0) := by
          obtain ⟨r0, r1, r2, r3⟩ := HR0.out
          exact ⟨blk_below r0 HP.out.2.2.2, blk_below r1 HP.out.2.2.2, blk_below r2 HP.out.2.2.2, blk_below r3 HP.out.2.2.2⟩
        obtain ⟨R0, R1, R2, R3⟩ := HRr.out
        obtain ⟨A0, k0, hfv⟩ := own_slice HP.out.2.1
        obtain ⟨A2, k2, hv0⟩ := HP.out.slice 0 (by omega)
        have d0 := HP.out.c0
        have d1 := HP.out.c1
        rw [hfv] at d0
        rw [hv0] at d1
        have HFV := Lib.hid hfv
        have HV0 := Lib.hid hv0
        clear hfv hv0
        have x0 : wr.cell? ⟨w.heap.size, 0, none⟩ = some (.slice none 0 0) := by rw [blk_cell R0]; rfl
        have x1 : wr.cell? ⟨w.heap.size + 1, 0, none⟩ = some (.slice none 0 0) := by rw [blk_cell R1]; rfl
        have x2 : wr.cell? ⟨w.heap.size + 2, 0, none⟩ = some (.int .i64 0) := by rw [blk_cell R2]; rfl
        have x3 : wr.cell? ⟨w.heap.size + 3, 0, none⟩ = some (.int .i64 0) := by rw [blk_cell R3]; rfl
        have f0 : wr.frozen? ⟨w.heap.size, 0, none⟩ = false := blk_frozen R0 0
        have f1 : wr.frozen? ⟨w.heap.size + 1, 0, none⟩ = false := blk_frozen R1 0
        have f2 : wr.frozen? ⟨w.heap.size + 2, 0, none⟩ = false := blk_frozen R2 0
        have f3 : wr.frozen? ⟨w.heap.size + 3, 0, none⟩ = false := blk_frozen R3 0
        obtain ⟨M, hM⟩ : ∃ M, M = w0.heap.size := ⟨_, rfl⟩
        have HM := Lib.hid hM
        have HGG := Lib.hid hG
        rw [← hM] at d0 d1 d2
        rw [← hG] at x0 x1 x2 x3 f0 f1 f2 f3
        rw [← hM, ← hG]
        have e0 : M ≠ G := by have := HSZ.out; omega
        have e1 : M ≠ G + 1 := by have := HSZ.out; omega
        have e2 : M ≠ G + 2 := by have := HSZ.out; omega
        have e3 : M ≠ G + 3 := by have := HSZ.out; omega
        have e0' : G ≠ M := e0.symm
        have e1' : G + 1 ≠ M := e1.symm
        have e2' : G + 2 ≠ M := e2.symm
        have e3' : G + 3 ≠ M := e3.symm
        clear R0 R1 R2 R3 hM hG
        go_wp2_with (fail)
        go_region
        rw [← HFV.out, ← HV0.out]
        obtain ⟨wz, hwz⟩ : ∃ wz, wz = ((((wr.setCell ⟨G, 0, none⟩ fv).setCell ⟨G + 1, 0, none⟩ (vs 0)).setCell ⟨G + 2, 0, none⟩ (.int .i64 0)).setCell ⟨G + 3, 0, none⟩ (.int .i64 0)).drew := ⟨_, rfl⟩
        rw [← hwz]
        have hfs := four_stores HRr.out fv (vs 0) 0 0
        rw [← HGG.out, ← hwz] at hfs
        clear hwz x0 x1 x2 x3 f0 f1 f2 f3 e0 e1 e2 e3 e0' e1' e2' e3' d0 d1 d2
        go_wp2
        obtain ⟨h1, h2, h3⟩ := hfs
        have hg := HGG.out
        subst hg
        have hsz3 : w0.heap.size = w.heap.size + 4 := HSZ.out
        refine leaves_ok w wz ts fs ls fv vs _ h1 ?_ ?_ ?_ (HBw.out.trans h2) rfl rfl rfl rfl
        · unfold parseP; rw [HRUN.out, runP]; exact if_neg HH0.out
        · rw [← hsz3]
          exact own_move HP.out.2.1 (fun k hk => h3 k (by have := own_base HP.out.2.1 k hk; omega))
        · rw [← hsz3]
          exact HP.out.2.2.1.move (fun i k hi hk => h3 k (by have := own_base (HP.out.2.2.1.1 i hi) k hk; omega))
end Go.Proofs.Ytiojfdgagdofiaa.HP
