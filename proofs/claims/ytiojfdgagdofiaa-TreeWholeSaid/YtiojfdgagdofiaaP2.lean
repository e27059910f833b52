/-
Texts joined: TrJ, TrK, TrL, TrN, TrO, TrP, TrQ.
-/
import Derived.Test.YtiojfdgagdofiaaP1
import Derived.WalkLawsBesides
import Derived.Defers
import Derived.Recover
import Derived.StillTailTactics
import Derived.BigRegion
/-
The deferred function of tree.Parse: what it does with a panic that it takes, and without.
-/
set_option linter.unusedVariables false
set_option linter.unusedSimpArgs false
namespace Go.Proofs.Ytiojfdgagdofiaa.HP
open Go.RowKit Go.Proofs.Ytiojfdgagdofiaa.HK Go.Proofs.YtiojfdgagdofiaaW.PrintWords Go.Proofs.YtiojfdgagdofiaaW.PrintLast Go.Proofs.YtiojfdgagdofiaaW.PrintMore
/-- The four result cells. -/
def ResCells (w : World) (g : Nat) (v0 v1 : Value) (a b : Int) : Prop :=
  w.heap[g]? = some (.cells #[v0] 23 (0, 0)) ∧ w.heap[g + 1]? = some (.cells #[v1] 24 (0, 0)) ∧ w.heap[g + 2]? = some (.cells #[.int .i64 a] 3 (0, 0)) ∧ w.heap[g + 3]? = some (.cells #[.int .i64 b] 25 (0, 0))
theorem catch_idle (p0 p1 p2 p3 : Addr) (w : World) :
    CallsD Try.prog 41 #[.pointer (some p0), .pointer (some p1), .pointer (some p2), .pointer (some p3)] .returning w fun e u' w' => e = .returned (.tuple #[]) ∧ u' = .returning ∧ w' = w := by
  refine callsD_of_wpS Try.func41 rfl fun c₀ cs hu => ?_
  apply wpS_seq
  apply wpS_region
  simp [wpOpsS, go_sem, recoverD, hu, Try.ntmps41, Exit.thenS]
  apply wpS_seq
  apply wpS_region
  simp [wpOpsS, go_sem, Exit.thenS]
  refine wpS_cond (t := false) (by simp [Act.eval, Array.replicate]) ?_
  simp only [Bool.false_eq_true, if_false]
  refine wpS_of_wp (wp_skip ?_)
  cases c₀
  simp_all [bodyPostS, results, Try.results41]
theorem assert66 (v : Value) (W : World) : (Instr.typeAssert (.iface 66 v) 20 66 true).run Try.prog W = .ok (.tuple #[v, .bool true]) W := by kernel_rfl
set_option maxHeartbeats 4000000 in
set_option maxRecDepth 100000 in
theorem catch_panicking (g : Nat) (a why x2 x3 : Int) (v0 v1 : Value) (w : World) (hg : ResCells w g v0 v1 x2 x3) (hs : g + 3 < w.heap.size) :
    CallsD Try.prog 41 #[.pointer (some ⟨g, 0, none⟩), .pointer (some ⟨g + 1, 0, none⟩), .pointer (some ⟨g + 2, 0, none⟩), .pointer (some ⟨g + 3, 0, none⟩)] (.panicking [{ v := .iface 66 (.agg #[.int .i64 a, .int .i64 why]), recovered := false }]) w fun e u' w' =>
      e = .returned (.tuple #[]) ∧ u' = .panicking [{ v := .iface 66 (.agg #[.int .i64 a, .int .i64 why]), recovered := true }] ∧ ResCells w' g (.slice none 0 0) (.slice none 0 0) a why ∧ Below g w w' := by
  refine callsD_of_wpS Try.func41 rfl fun c₀ cs hu => ?_
  apply wpS_seq
  apply wpS_region
  simp [wpOpsS, go_sem, recoverD, hu, Try.ntmps41, Exit.thenS]
  apply wpS_seq
  apply wpS_region
  simp [wpOpsS, go_sem, Exit.thenS]
  refine wpS_cond (t := true) (by simp [Act.eval, Array.replicate]) ?_
  simp only [if_true]
  refine wpS_of_wp ?_
  have hA : ∀ W, (Instr.typeAssert (Value.iface 66 (.agg #[.int .i64 a, .int .i64 why])) 20 66 true).run Try.prog W = .ok (.tuple #[.agg #[.int .i64 a, .int .i64 why], .bool true]) W := fun W => assert66 _ W
  refine Eq.mp (congrArg (fun tm => Code.wp Try.prog _ _ { tmps := tm, defers := [] } w) (?_ : #[Value.pointer (some ⟨g, 0, none⟩), .pointer (some ⟨g + 1, 0, none⟩), .pointer (some ⟨g + 2, 0, none⟩), .pointer (some ⟨g + 3, 0, none⟩), (Value.iface 66 (.agg #[.int .i64 a, .int .i64 why])), undef, undef, (Value.iface 66 (.agg #[.int .i64 a, .int .i64 why])), (Value.iface 66 (.agg #[.int .i64 a, .int .i64 why])), .bool true, undef, undef, undef, undef, undef, undef, undef, undef, undef, undef, undef, undef] = _)) ?_
  · rfl
  obtain ⟨g0, g1, g2, g3⟩ := hg
  have HG0 := Lib.hid g0
  have HG1 := Lib.hid g1
  have HG2 := Lib.hid g2
  have HG3 := Lib.hid g3
  have HS := Lib.hid hs
  clear g0 g1 g2 g3 hs
  go_wp2_with (fail)
  obtain ⟨wr, hwr⟩ : ∃ wr, wr = w.alloc (.cells #[.int .i64 a, .int .i64 why] 66) := ⟨_, rfl⟩
  rw [← hwr]
  have HBr : Hid (Below w.heap.size w wr) := by rw [hwr]; exact (Below.refl _ w).alloc (Nat.le_refl _) _
  have HN : Hid (wr.heap[w.heap.size]? = some (.cells #[.int .i64 a, .int .i64 why] 66 (0, 0))) := by rw [hwr]; exact heap_alloc_new w _
  clear hwr
  have R0 := Lib.hid (blk_below HG0.out HBr.out)
  have R1 := Lib.hid (blk_below HG1.out HBr.out)
  have R2 := Lib.hid (blk_below HG2.out HBr.out)
  have R3 := Lib.hid (blk_below HG3.out HBr.out)
  obtain ⟨m, hm⟩ : ∃ m, m = w.heap.size := ⟨_, rfl⟩
  have HM := Lib.hid hm
  rw [← hm] at HN ⊢
  clear hm
  have n0 : wr.cell? ⟨m, 0, none⟩ = some (.int .i64 a) := by rw [blk_cell HN.out]; rfl
  have n1 : wr.cell? ⟨m, 1, none⟩ = some (.int .i64 why) := by rw [blk_cell HN.out]; rfl
  have c0 : wr.cell? ⟨g, 0, none⟩ = some v0 := by rw [blk_cell R0.out]; rfl
  have c1 : wr.cell? ⟨g + 1, 0, none⟩ = some v1 := by rw [blk_cell R1.out]; rfl
  have c2 : wr.cell? ⟨g + 2, 0, none⟩ = some (.int .i64 x2) := by rw [blk_cell R2.out]; rfl
  have c3 : wr.cell? ⟨g + 3, 0, none⟩ = some (.int .i64 x3) := by rw [blk_cell R3.out]; rfl
  have f0 : wr.frozen? ⟨g, 0, none⟩ = false := blk_frozen R0.out 0
  have f1 : wr.frozen? ⟨g + 1, 0, none⟩ = false := blk_frozen R1.out 0
  have f2 : wr.frozen? ⟨g + 2, 0, none⟩ = false := blk_frozen R2.out 0
  have f3 : wr.frozen? ⟨g + 3, 0, none⟩ = false := blk_frozen R3.out 0
  have e0 : m ≠ g := by have := HS.out; have := HM.out; omega
  have e1 : m ≠ g + 1 := by have := HS.out; have := HM.out; omega
  have e2 : m ≠ g + 2 := by have := HS.out; have := HM.out; omega
  have e3 : m ≠ g + 3 := by have := HS.out; have := HM.out; omega
  have e0' : g ≠ m := e0.symm
  have e1' : g + 1 ≠ m := e1.symm
  have e2' : g + 2 ≠ m := e2.symm
  have e3' : g + 3 ≠ m := e3.symm
  go_region
  obtain ⟨wz, hwz⟩ : ∃ wz, wz = ((((wr.setCell ⟨g, 0, none⟩ (.slice none 0 0)).setCell ⟨g + 1, 0, none⟩ (.slice none 0 0)).setCell ⟨g + 2, 0, none⟩ (.int .i64 a)).setCell ⟨g + 3, 0, none⟩ (.int .i64 why)).drew := ⟨_, rfl⟩
  rw [← hwz]
  have hne : ∀ (W : World) (p : Addr) (x : Value) (k : Nat), k ≠ p.block → (W.setCell p x).heap[k]? = W.heap[k]? := fun W p x k h => Below.heap_setCell W p x k h
  have hz : ResCells wz g (.slice none 0 0) (.slice none 0 0) a why := by
    rw [hwz]
    refine ⟨?_, ?_, ?_, ?_⟩
    · show (((((wr.setCell ⟨g, 0, none⟩ (.slice none 0 0)).setCell ⟨g + 1, 0, none⟩ (.slice none 0 0)).setCell ⟨g + 2, 0, none⟩ (.int .i64 a)).setCell ⟨g + 3, 0, none⟩ (.int .i64 why))).heap[g]? = _
      rw [hne _ _ _ _ (by show g ≠ g + 3; omega), hne _ _ _ _ (by show g ≠ g + 2; omega), hne _ _ _ _ (by show g ≠ g + 1; omega)]
      exact blk_set R0.out 0 _
    · show (((((wr.setCell ⟨g, 0, none⟩ (.slice none 0 0)).setCell ⟨g + 1, 0, none⟩ (.slice none 0 0)).setCell ⟨g + 2, 0, none⟩ (.int .i64 a)).setCell ⟨g + 3, 0, none⟩ (.int .i64 why))).heap[g + 1]? = _
      rw [hne _ _ _ _ (by show g + 1 ≠ g + 3; omega), hne _ _ _ _ (by show g + 1 ≠ g + 2; omega)]
      exact blk_set ((hne _ _ _ _ (by show g + 1 ≠ g; omega)).trans R1.out) 0 _
    · show (((((wr.setCell ⟨g, 0, none⟩ (.slice none 0 0)).setCell ⟨g + 1, 0, none⟩ (.slice none 0 0)).setCell ⟨g + 2, 0, none⟩ (.int .i64 a)).setCell ⟨g + 3, 0, none⟩ (.int .i64 why))).heap[g + 2]? = _
      rw [hne _ _ _ _ (by show g + 2 ≠ g + 3; omega)]
      exact blk_set ((hne _ _ _ _ (by show g + 2 ≠ g + 1; omega)).trans ((hne _ _ _ _ (by show g + 2 ≠ g; omega)).trans R2.out)) 0 _
    · exact blk_set ((hne _ _ _ _ (by show g + 3 ≠ g + 2; omega)).trans ((hne _ _ _ _ (by show g + 3 ≠ g + 1; omega)).trans ((hne _ _ _ _ (by show g + 3 ≠ g; omega)).trans R3.out))) 0 _
  have hzb : Below g w wz := by
    rw [hwz]
    have h0 : Below g w wr := HBr.out.mono (by have := HS.out; omega)
    exact below_drew ((((h0.setCell (p := ⟨g, 0, none⟩) (Nat.le_refl _) _).setCell (p := ⟨g + 1, 0, none⟩) (by show g ≤ g + 1; omega) _).setCell (p := ⟨g + 2, 0, none⟩) (by show g ≤ g + 2; omega) _).setCell (p := ⟨g + 3, 0, none⟩) (by show g ≤ g + 3; omega) _)
  clear hwz n0 n1 c0 c1 c2 c3 f0 f1 f2 f3 e0 e1 e2 e3 e0' e1' e2' e3'
  go_wp2
  cases c₀
  simp [bodyPostS, results, Try.results41]
  exact ⟨hz, hzb⟩
end Go.Proofs.Ytiojfdgagdofiaa.HP
/-
tree.Parse over the translation: it answers what parseP says.
-/
set_option linter.unusedVariables false
set_option linter.unusedSimpArgs false
namespace Go.Proofs.Ytiojfdgagdofiaa.HP
open Go.RowKit Go.Proofs.Ytiojfdgagdofiaa.HB Go.Proofs.Ytiojfdgagdofiaa.HK Go.Proofs.YtiojfdgagdofiaaW.PrintWords Go.Proofs.YtiojfdgagdofiaaW.PrintLast Go.Proofs.YtiojfdgagdofiaaW.PrintMore
/-- A row of tokens in memory. -/
def TRow (w : World) (A : Option Addr) (ts : List S37) : Prop :=
  ∀ (j : Nat) (T : S37), ts[j]? = some T → ∃ g o : Nat, A = some ⟨g, o, none⟩ ∧ g < w.heap.size ∧ w.cell? ⟨g, o + j * 4, none⟩ = some (.int .u8 T.f0) ∧ w.cell? ⟨g, o + j * 4 + 1, none⟩ = some (.string T.f1) ∧ w.cell? ⟨g, o + j * 4 + 2, none⟩ = some (.int .i64 T.f2) ∧ w.cell? ⟨g, o + j * 4 + 3, none⟩ = some (.int .i64 T.f3)
theorem TRow.below {w w1 : World} {A : Option Addr} {ts : List S37} (h : TRow w A ts) (hb : Below w.heap.size w w1) : TRow w1 A ts := by
  intro j T hj
  obtain ⟨g, o, hA, hg, c0, c1, c2, c3⟩ := h j T hj
  have hc : ∀ i, w1.cell? ⟨g, i, none⟩ = w.cell? ⟨g, i, none⟩ := fun i => hb.cell (p := ⟨g, i, none⟩) hg
  exact ⟨g, o, hA, Nat.lt_of_lt_of_le hg hb.size, by rw [hc]; exact c0, by rw [hc]; exact c1, by rw [hc]; exact c2, by rw [hc]; exact c3⟩
/-- How the call ends. -/
def ParseEnds (w : World) (r : Except (Int × Int) (List FormP × (Nat → List Int))) (e : Ending) (w' : World) : Prop :=
  match r with
  | .ok (fs, ls) => ∃ fv vs, e = .returned (.tuple #[fv, vs 0, .int .i64 0, .int .i64 0]) ∧ w'.ownsRow (w.heap.size + 4) 40 5 fv fs.length (fcells fs 2 vs) ∧ RowsN w' (w.heap.size + 4) (fs.length + 2) vs ls ∧ Below w.heap.size w w'
  | .error (a, why) => e = .returned (.tuple #[.slice none 0 0, .slice none 0 0, .int .i64 a, .int .i64 why]) ∧ Below w.heap.size w w'
/-- What stands at each round's head. -/
def ParseRel (w0 wr : World) (ts : List S37) (j : Nat) : Prop :=
  j ≤ ts.length ∧ ∃ fs fv vs ls, IsParser w0 wr fs fv vs ls ∧ TInv fs ls ∧ runP [] (fun _ => []) ts = runP fs ls (ts.drop j)
theorem results14 {w : World} {g : Nat} {v0 v1 : Value} {a b : Int} (h : ResCells w g v0 v1 a b) (tmps : Array Value)
    (h2 : tmps[2]? = some (.pointer (some ⟨g, 0, none⟩))) (h3 : tmps[3]? = some (.pointer (some ⟨g + 1, 0, none⟩))) (h4 : tmps[4]? = some (.pointer (some ⟨g + 2, 0, none⟩))) (h5 : tmps[5]? = some (.pointer (some ⟨g + 3, 0, none⟩))) :
    (results Try.f14 tmps).run Try.prog w = .ok (.tuple #[v0, v1, .int .i64 a, .int .i64 b]) w := by
  obtain ⟨b0, b1, b2, b3⟩ := h
  have c0 : w.cell? ⟨g, 0, none⟩ = some v0 := by rw [blk_cell b0]; rfl
  have c1 : w.cell? ⟨g + 1, 0, none⟩ = some v1 := by rw [blk_cell b1]; rfl
  have c2 : w.cell? ⟨g + 2, 0, none⟩ = some (.int .i64 a) := by rw [blk_cell b2]; rfl
  have c3 : w.cell? ⟨g + 3, 0, none⟩ = some (.int .i64 b) := by rw [blk_cell b3]; rfl
  simp [results, Try.results14, go_sem, h2, h3, h4, h5, c0, c1, c2, c3]
theorem four_stores {wr : World} {g : Nat} {v0 v1 : Value} {x2 x3 : Int} (h : ResCells wr g v0 v1 x2 x3) (u0 u1 : Value) (a b : Int) :
    ResCells (((((wr.setCell ⟨g, 0, none⟩ u0).setCell ⟨g + 1, 0, none⟩ u1).setCell ⟨g + 2, 0, none⟩ (.int .i64 a)).setCell ⟨g + 3, 0, none⟩ (.int .i64 b)).drew) g u0 u1 a b ∧
    Below g wr (((((wr.setCell ⟨g, 0, none⟩ u0).setCell ⟨g + 1, 0, none⟩ u1).setCell ⟨g + 2, 0, none⟩ (.int .i64 a)).setCell ⟨g + 3, 0, none⟩ (.int .i64 b)).drew) ∧
    ∀ k, g + 3 < k → (((((wr.setCell ⟨g, 0, none⟩ u0).setCell ⟨g + 1, 0, none⟩ u1).setCell ⟨g + 2, 0, none⟩ (.int .i64 a)).setCell ⟨g + 3, 0, none⟩ (.int .i64 b)).drew).heap[k]? = wr.heap[k]? := by
  obtain ⟨R0, R1, R2, R3⟩ := h
  have hne : ∀ (W : World) (p : Addr) (x : Value) (k : Nat), k ≠ p.block → (W.setCell p x).heap[k]? = W.heap[k]? := fun W p x k h => Below.heap_setCell W p x k h
  refine ⟨⟨?_, ?_, ?_, ?_⟩, ?_, ?_⟩
  · show (((((wr.setCell ⟨g, 0, none⟩ u0).setCell ⟨g + 1, 0, none⟩ u1).setCell ⟨g + 2, 0, none⟩ (.int .i64 a)).setCell ⟨g + 3, 0, none⟩ (.int .i64 b))).heap[g]? = _
    rw [hne _ _ _ _ (by show g ≠ g + 3; omega), hne _ _ _ _ (by show g ≠ g + 2; omega), hne _ _ _ _ (by show g ≠ g + 1; omega)]
    exact blk_set R0 0 _
  · show (((((wr.setCell ⟨g, 0, none⟩ u0).setCell ⟨g + 1, 0, none⟩ u1).setCell ⟨g + 2, 0, none⟩ (.int .i64 a)).setCell ⟨g + 3, 0, none⟩ (.int .i64 b))).heap[g + 1]? = _
    rw [hne _ _ _ _ (by show g + 1 ≠ g + 3; omega), hne _ _ _ _ (by show g + 1 ≠ g + 2; omega)]
    exact blk_set ((hne _ _ _ _ (by show g + 1 ≠ g; omega)).trans R1) 0 _
  · show (((((wr.setCell ⟨g, 0, none⟩ u0).setCell ⟨g + 1, 0, none⟩ u1).setCell ⟨g + 2, 0, none⟩ (.int .i64 a)).setCell ⟨g + 3, 0, none⟩ (.int .i64 b))).heap[g + 2]? = _
    rw [hne _ _ _ _ (by show g + 2 ≠ g + 3; omega)]
    exact blk_set ((hne _ _ _ _ (by show g + 2 ≠ g + 1; omega)).trans ((hne _ _ _ _ (by show g + 2 ≠ g; omega)).trans R2)) 0 _
  · exact blk_set ((hne _ _ _ _ (by show g + 3 ≠ g + 2; omega)).trans ((hne _ _ _ _ (by show g + 3 ≠ g + 1; omega)).trans ((hne _ _ _ _ (by show g + 3 ≠ g; omega)).trans R3))) 0 _
  · exact below_drew (((((Below.refl g wr).setCell (p := ⟨g, 0, none⟩) (Nat.le_refl _) _).setCell (p := ⟨g + 1, 0, none⟩) (by show g ≤ g + 1; omega) _).setCell (p := ⟨g + 2, 0, none⟩) (by show g ≤ g + 2; omega) _).setCell (p := ⟨g + 3, 0, none⟩) (by show g ≤ g + 3; omega) _)
  · intro k hk
    show (((((wr.setCell ⟨g, 0, none⟩ u0).setCell ⟨g + 1, 0, none⟩ u1).setCell ⟨g + 2, 0, none⟩ (.int .i64 a)).setCell ⟨g + 3, 0, none⟩ (.int .i64 b))).heap[k]? = _
    rw [hne _ _ _ _ (by show k ≠ g + 3; omega), hne _ _ _ _ (by show k ≠ g + 2; omega), hne _ _ _ _ (by show k ≠ g + 1; omega), hne _ _ _ _ (by show k ≠ g; omega)]
theorem leaves_error (w w' : World) (ts : List S37) (a why x2 x3 : Int) (v0 v1 : Value) (tmps : Array Value) (hr : ResCells w' w.heap.size v0 v1 x2 x3) (hsz : w.heap.size + 3 < w'.heap.size) (hb : Below w.heap.size w w') (hp : parseP ts = .error (a, why))
    (h2 : tmps[2]? = some (.pointer (some ⟨w.heap.size, 0, none⟩))) (h3 : tmps[3]? = some (.pointer (some ⟨w.heap.size + 1, 0, none⟩))) (h4 : tmps[4]? = some (.pointer (some ⟨w.heap.size + 2, 0, none⟩))) (h5 : tmps[5]? = some (.pointer (some ⟨w.heap.size + 3, 0, none⟩))) :
    bodyPostD Try.prog Try.f14 (fun e w' => ParseEnds w (parseP ts) e w') (.panic [{ v := .iface 66 (.agg #[.int .i64 a, .int .i64 why]), recovered := false }]) { tmps := tmps, defers := [{ target := .fn (.func 41) #[.pointer (some ⟨w.heap.size, 0, none⟩), .pointer (some ⟨w.heap.size + 1, 0, none⟩), .pointer (some ⟨w.heap.size + 2, 0, none⟩), .pointer (some ⟨w.heap.size + 3, 0, none⟩)], args := #[] }] } w' := by
  show Leaves _ _ _ _ _ _ _
  refine leaves_cons (f := 41) (args := #[.pointer (some ⟨w.heap.size, 0, none⟩), .pointer (some ⟨w.heap.size + 1, 0, none⟩), .pointer (some ⟨w.heap.size + 2, 0, none⟩), .pointer (some ⟨w.heap.size + 3, 0, none⟩)]) (by simp) (by simp [go_sem]) ?_
  refine (catch_panicking w.heap.size a why x2 x3 v0 v1 w' hr hsz).mono ?_
  rintro e u' w'' ⟨rfl, rfl, hr', hb'⟩
  show Leaves _ _ _ _ _ .returning _
  refine ⟨_, results14 hr' tmps h2 h3 h4 h5, ?_⟩
  unfold ParseEnds
  rw [hp]
  exact ⟨rfl, hb.trans hb'⟩
theorem leaves_ok (w w' : World) (ts : List S37) (fs : List FormP) (ls : Nat → List Int) (fv : Value) (vs : Nat → Value) (tmps : Array Value) (hr : ResCells w' w.heap.size fv (vs 0) 0 0) (hp : parseP ts = .ok (fs, ls))
    (hF : w'.ownsRow (w.heap.size + 4) 40 5 fv fs.length (fcells fs 2 vs)) (hN : RowsN w' (w.heap.size + 4) (fs.length + 2) vs ls) (hb : Below w.heap.size w w')
    (h2 : tmps[2]? = some (.pointer (some ⟨w.heap.size, 0, none⟩))) (h3 : tmps[3]? = some (.pointer (some ⟨w.heap.size + 1, 0, none⟩))) (h4 : tmps[4]? = some (.pointer (some ⟨w.heap.size + 2, 0, none⟩))) (h5 : tmps[5]? = some (.pointer (some ⟨w.heap.size + 3, 0, none⟩))) :
    bodyPostD Try.prog Try.f14 (fun e w' => ParseEnds w (parseP ts) e w') .ret { tmps := tmps, defers := [{ target := .fn (.func 41) #[.pointer (some ⟨w.heap.size, 0, none⟩), .pointer (some ⟨w.heap.size + 1, 0, none⟩), .pointer (some ⟨w.heap.size + 2, 0, none⟩), .pointer (some ⟨w.heap.size + 3, 0, none⟩)], args := #[] }] } w' := by
  show Leaves _ _ _ _ _ _ _
  refine leaves_cons (f := 41) (args := #[.pointer (some ⟨w.heap.size, 0, none⟩), .pointer (some ⟨w.heap.size + 1, 0, none⟩), .pointer (some ⟨w.heap.size + 2, 0, none⟩), .pointer (some ⟨w.heap.size + 3, 0, none⟩)]) (by simp) (by simp [go_sem]) ?_
  refine (catch_idle _ _ _ _ w').mono ?_
  rintro e u' w'' ⟨rfl, rfl, rfl⟩
  show Leaves _ _ _ _ _ .returning _
  refine ⟨_, results14 hr tmps h2 h3 h4 h5, ?_⟩
  unfold ParseEnds
  rw [hp]
  exact ⟨fv, vs, rfl, hF, hN, hb⟩
set_option maxHeartbeats 8000000 in
set_option maxRecDepth 100000 in
theorem parse_calls (w : World) (A : Option Addr) (c : Nat) (ts : List S37) (hT : TRow w A ts) (hn : ts.length ≤ 1000000) :
    Calls Try.prog 14 #[.slice A ts.length c] w fun e w' => ParseEnds w (parseP ts) e w' := by
  have hmf : ∀ (fn : Fn) (first cap : Array Value) (w : World), (Instr.makeFunc fn first cap).run Try.prog w = .ok (.func fn first cap) w := fun _ _ _ _ => rfl
  have HT := Lib.hid hT
  have HNN := Lib.hid hn
  clear hT hn
  go_enter_defers Try.func14, Try.ntmps14
  go_wp2_with (fail)
  obtain ⟨w0, hw0⟩ : ∃ w0, w0 = (((w.alloc (.cells #[.slice none 0 0] 23)).alloc (.cells #[.slice none 0 0] 24)).alloc (.cells #[.int .i64 0] 3)).alloc (.cells #[.int .i64 0] 25) := ⟨_, rfl⟩
  rw [← hw0]
  have hsz : w0.heap.size = w.heap.size + 1 + 1 + 1 + 1 := by rw [hw0]; simp
  have HB0 : Hid (Below w.heap.size w w0) := by
    rw [hw0]
    exact ((((Below.refl _ w).alloc (Nat.le_refl _) _).alloc (by simp) _).alloc (by simp; omega) _).alloc (by simp; omega) _
  have HR0 : Hid (ResCells w0 w.heap.size (.slice none 0 0) (.slice none 0 0) 0 0) := by
    rw [hw0]
    have hn : ∀ (W : World) (o : Obj) (k : Nat), k < W.heap.size → (W.alloc o).heap[k]? = W.heap[k]? := fun W o k h => Below.heap_alloc W o k h
    refine ⟨?_, ?_, ?_, ?_⟩
    · rw [hn _ _ _ (by simp <;> omega), hn _ _ _ (by simp <;> omega), hn _ _ _ (by simp <;> omega)]; exact heap_alloc_new w _
    · rw [hn _ _ _ (by simp <;> omega), hn _ _ _ (by simp <;> omega)]
      have := heap_alloc_new (w.alloc (.cells #[.slice none 0 0] 23)) (.cells #[.slice none 0 0] 24)
      simpa using this
    · rw [hn _ _ _ (by simp <;> omega)]
      have := heap_alloc_new ((w.alloc (.cells #[.slice none 0 0] 23)).alloc (.cells #[.slice none 0 0] 24)) (.cells #[.int .i64 0] 3)
      simpa using this
    · have := heap_alloc_new (((w.alloc (.cells #[.slice none 0 0] 23)).alloc (.cells #[.slice none 0 0] 24)).alloc (.cells #[.int .i64 0] 3)) (.cells #[.int .i64 0] 25)
      simpa using this
  rw [← hsz, show w.heap.size + 1 + 1 + 1 = w.heap.size + 3 from rfl, show w.heap.size + 1 + 1 = w.heap.size + 2 from rfl]
  have HSZ := Lib.hid hsz
  clear hw0 hsz
  go_loopw [15] (fun i wr => ∃ j : Nat, i = .int .i64 (j : Int) ∧ Hid (ParseRel w0 wr ts j)) (fun i _ => ts.length - (intOf i).toNat)
  case atStart =>
    refine ⟨0, rfl, Nat.zero_le _, [], .slice none 0 0, fun _ => .slice none 0 0, fun _ => [], ⟨heap_alloc_new w0 _, own_nil _ _ _ _, ⟨fun _ _ => own_nil _ _ _ _, fun _ _ _ _ _ => .inl rfl⟩, (Below.refl _ w0).alloc (Nat.le_refl _) _⟩, TInv.start, by rw [List.drop_zero]⟩
  case round =>
    obtain ⟨j, rfl, hR⟩ := hrel
    have hle := hR.out.1
    have hL := HNN.out
    by_cases hlt : j < ts.length
    · obtain ⟨T, hj⟩ : ∃ T, ts[j]? = some T := ⟨_, List.getElem?_eq_getElem hlt⟩
      obtain ⟨_, fs, fv, vs, ls, hP, hI, hrun⟩ := hR.out
      have HP := Lib.hid hP
      have HI := Lib.hid hI
      have HRUN := Lib.hid hrun
      clear hP hI hrun
      have HBw : Hid (Below w.heap.size w wr) := by
        have := HSZ.out
        exact HB0.out.trans (HP.out.2.2.2.mono (by omega))
      obtain ⟨g, o, hA, hg, c0, c1, c2, c3⟩ := HT.out.below HBw.out j T hj
      have HJ := Lib.hid hj
      clear hj
      subst hA
      have q1 : (j : Int) < (ts.length : Int) := by omega
      have q0 : (0 : Int) ≤ (j : Int) := by omega
      have qd : decide ((j : Int) < (ts.length : Int)) = true := decide_eq_true q1
      go_wp2_with (fail)
      have hb1 : Below wr.heap.size wr (wr.alloc (.cells #[.int .u8 T.f0, .string T.f1, .int .i64 T.f2, .int .i64 T.f3] 37)) := (Below.refl _ wr).alloc (Nat.le_refl _) _
      refine (take_calls (HP.out.moved hb1) HI.out T).mono ?_
      rintro e w' hE
      have hstep : runP fs ls (ts.drop j) = (match takeP fs ls T with | .ok (fs', ls') => runP fs' ls' (ts.drop (j + 1)) | .error e => .error e) := by
        have hd : ts.drop j = T :: ts.drop (j + 1) := by
          have hj2 : ts[j] = T := by have := HJ.out; rw [List.getElem?_eq_getElem hlt] at this; exact Option.some.inj this
          rw [List.drop_eq_getElem_cons hlt, hj2]
        rw [hd, runP]
        cases takeP fs ls T <;> rfl
      rw [HRUN.out.symm] at hstep
      cases htk : takeP fs ls T with
      | error p =>
        obtain ⟨a, why⟩ := p
        rw [htk] at hE hstep
        obtain ⟨he, hbe⟩ := hE
        unfold gaveUp at he
        subst he
        go_wp2
        have hsz2 : w.heap.size + 3 < w'.heap.size := by have := HSZ.out; have := hbe.size; omega
        have hle2 : w.heap.size ≤ w0.heap.size := by have := HSZ.out; omega
        refine leaves_error w w' ts a why 0 0 (.slice none 0 0) (.slice none 0 0) _ ?_ hsz2 (HB0.out.trans (hbe.mono hle2)) ?_ rfl rfl rfl rfl
        · obtain ⟨r0, r1, r2, r3⟩ := HR0.out
          exact ⟨blk_below r0 hbe, blk_below r1 hbe, blk_below r2 hbe, blk_below r3 hbe⟩
        · unfold parseP; rw [hstep]
      | ok p =>
        obtain ⟨fs', ls'⟩ := p
        rw [htk] at hE hstep
        obtain ⟨rfl, fv', vs', hP'⟩ := hE
        go_wp2
        have hw : IntKind.i64.wrap ((j : Int) + 1) = ((j + 1 : Nat) : Int) := by rw [IntWalk.i64_in _ (by omega)]; omega
        go_roundw
        case measure => simp [intOf]; omega
        case rel => exact ⟨j + 1, by first | rfl | (rw [hw]) | simp, by omega, fs', fv', vs', ls', hP', HI.out.take htk, hstep⟩
    · have hj : j = ts.length := by omega
      subst hj
      obtain ⟨_, fs, fv, vs, ls, hP, hI, hrun⟩ := hR.out
      rw [List.drop_length] at hrun
      have HP := Lib.hid hP
      have HI := Lib.hid hI
      have HRUN := Lib.hid hrun
      clear hP hI hrun
      have HBw : Hid (Below w.heap.size w wr) := by
        have := HSZ.out
        exact HB0.out.trans (HP.out.2.2.2.mono (by omega))
      have qd : decide ((ts.length : Int) < (ts.length : Int)) = false := decide_eq_false (by omega)
      obtain ⟨A1, c1, hv1⟩ := HP.out.slice 1 (by omega)
      have d2 := HP.out.c2
      rw [hv1] at d2
      have HV1 := Lib.hid hv1
      clear hv1
      by_cases h0 : 0 < (ls 1).length
      · have q2 : decide ((0 : Int) < ((ls 1).length : Int)) = true := decide_eq_true (by omega)
        obtain ⟨m, hm⟩ : ∃ m, (ls 1).length = m + 1 := ⟨(ls 1).length - 1, by omega⟩
        obtain ⟨b, hb, hbn⟩ := HI.out.2.2 ((ls 1).getD m 0) (by rw [List.getD_eq_getElem?_getD, List.getElem?_eq_getElem (by omega)]; exact List.getElem_mem _)
        have hlo : Hid (lastOpen (ls 1) = b) := by show _ = _; unfold lastOpen; rw [hm, Nat.add_sub_cancel, hb]; rfl
        have hO1 := HP.out.2.2.1.1 1 (by omega)
        rw [HV1.out, hm] at hO1
        obtain ⟨O, cap1, hA1, _, _⟩ := hO1.form (Nat.succ_pos _)
        injection hA1 with hA1 _ hA2
        subst hA1 hA2
        have hel : wr.cell? ⟨O, m, none⟩ = some (.int .i64 (b : Int)) := by
          have := hO1.cellAt m (by omega)
          rw [this]
          have hml : m < (ls 1).length := by omega
          simp only [nums, List.getElem?_map, List.getElem?_eq_getElem hml, Option.map_some]
          rw [List.getD_eq_getElem?_getD, List.getElem?_eq_getElem hml] at hb
          have hb' : (ls 1)[m] = (b : Int) := hb
          rw [hb']
        have hF1 : 0 < fs.length := by omega
        obtain ⟨F, capF, hfv, _, _⟩ := HP.out.2.1.form hF1
        have d0 := HP.out.c0
        rw [hfv] at d0
        obtain ⟨fb, hfb⟩ : ∃ fb, fs[b]? = some fb := ⟨_, List.getElem?_eq_getElem hbn⟩
        have hcl : wr.cell? ⟨F, b * 5 + 4, none⟩ = some (.int .i64 fb.at_) := by
          have hOF := HP.out.2.1
          rw [hfv] at hOF
          rw [hOF.cellAt (b * 5 + 4) (by omega), fcells_get fs 2 vs b 4 fb hfb (by decide)]
          rfl
        have hbi : (b : Int) < (fs.length : Int) := by omega
        have hbi0 : (0 : Int) ≤ (b : Int) := Int.natCast_nonneg b
        have hmm : (m : Int) < (m : Int) + 1 := by omega
        have hm0 : (0 : Int) ≤ (m : Int) := Int.natCast_nonneg m
        have hls := HI.out.2.1 1
        have hfl := HI.out.1
        have hws : IntKind.i64.wrap ((m : Int) + 1 - 1) = (m : Int) := by rw [show (m : Int) + 1 - 1 = (m : Int) by omega]; exact IntWalk.i64_in _ (by omega)
        have hws2 : IntKind.i64.wrap (m : Int) = (m : Int) := IntWalk.i64_in _ (by omega)
        have hmm2 : (m : Int) < ((m + 1 : Nat) : Int) := by omega
        have hpe : Hid (parseP ts = .error (fb.at_, 8)) := by
          show _ = _
          unfold parseP
          rw [HRUN.out, runP]
          show (if 0 < (ls 1).length then _ else _) = _
          rw [if_pos h0, hlo.out, List.getD_eq_getElem?_getD, hfb]
          rfl
        have hle2 : w.heap.size ≤ w0.heap.size := by have := HSZ.out; omega
        have HM := Lib.hid hm
        rw [hm] at d2 q2
        have q3 : decide ((0 : Int) < (m : Int) + 1) = true := decide_eq_true (by omega)
        clear hb hO1 hls hfl hfb hm
        go_wp2_with (fail)
        go_still_tail 15, (by kernel_rfl)
        change wpList _ _ _ _ _ wr.drew
        obtain ⟨wd, hwd⟩ : ∃ wd, wd = wr.drew := ⟨_, rfl⟩
        rw [← hwd]
        have hbd : Below w0.heap.size w0 wd := by rw [hwd]; exact (HP.out.drewN 1).2.2.2
        clear hwd
        go_wp2_with (fail)
        go_at_call 43
        refine (need_no _ _ _).mono ?_
        rintro e w' ⟨rfl, rfl⟩
        go_wp2
        have hsz2 : w.heap.size + 3 < w'.heap.size := by have := HSZ.out; have := hbd.size; have := HP.out.1; have := blk_lt HP.out.1; omega
        refine leaves_error w w' ts fb.at_ 8 0 0 (.slice none 0 0) (.slice none 0 0) _ ?_ hsz2 (HB0.out.trans (hbd.mono hle2)) hpe.out rfl rfl rfl rfl
        obtain ⟨r0, r1, r2, r3⟩ := HR0.out
        exact ⟨blk_below r0 hbd, blk_below r1 hbd, blk_below r2 hbd, blk_below r3 hbd⟩
      · have q2 : decide ((0 : Int) < ((ls 1).length : Int)) = false := decide_eq_false (by omega)
        obtain ⟨G, hG⟩ : ∃ G, G = w.heap.size := ⟨_, rfl⟩
        have HH0 := Lib.hid h0
        have hle2 : w.heap.size ≤ w0.heap.size := by have := HSZ.out; omega
        have HRr : Hid (ResCells wr w.heap.size (.slice none 0 0) (.slice none 0 0) 0 0) := by
          obtain ⟨r0, r1, r2, r3⟩ := HR0.out
          exact ⟨blk_below r0 HP.out.2.2.2, blk_below r1 HP.out.2.2.2, blk_below r2 HP.out.2.2.2, blk_below r3 HP.out.2.2.2⟩
        obtain ⟨R0, R1, R2, R3⟩ := HRr.out
        obtain ⟨A0, k0, hfv⟩ := own_slice HP.out.2.1
        obtain ⟨A2, k2, hv0⟩ := HP.out.slice 0 (by omega)
        have d0 := HP.out.c0
        have d1 := HP.out.c1
        rw [hfv] at d0
        rw [hv0] at d1
        have HFV := Lib.hid hfv
        have HV0 := Lib.hid hv0
        clear hfv hv0
        have x0 : wr.cell? ⟨w.heap.size, 0, none⟩ = some (.slice none 0 0) := by rw [blk_cell R0]; rfl
        have x1 : wr.cell? ⟨w.heap.size + 1, 0, none⟩ = some (.slice none 0 0) := by rw [blk_cell R1]; rfl
        have x2 : wr.cell? ⟨w.heap.size + 2, 0, none⟩ = some (.int .i64 0) := by rw [blk_cell R2]; rfl
        have x3 : wr.cell? ⟨w.heap.size + 3, 0, none⟩ = some (.int .i64 0) := by rw [blk_cell R3]; rfl
        have f0 : wr.frozen? ⟨w.heap.size, 0, none⟩ = false := blk_frozen R0 0
        have f1 : wr.frozen? ⟨w.heap.size + 1, 0, none⟩ = false := blk_frozen R1 0
        have f2 : wr.frozen? ⟨w.heap.size + 2, 0, none⟩ = false := blk_frozen R2 0
        have f3 : wr.frozen? ⟨w.heap.size + 3, 0, none⟩ = false := blk_frozen R3 0
        obtain ⟨M, hM⟩ : ∃ M, M = w0.heap.size := ⟨_, rfl⟩
        have HM := Lib.hid hM
        have HGG := Lib.hid hG
        rw [← hM] at d0 d1 d2
        rw [← hG] at x0 x1 x2 x3 f0 f1 f2 f3
        rw [← hM, ← hG]
        have e0 : M ≠ G := by have := HSZ.out; omega
        have e1 : M ≠ G + 1 := by have := HSZ.out; omega
        have e2 : M ≠ G + 2 := by have := HSZ.out; omega
        have e3 : M ≠ G + 3 := by have := HSZ.out; omega
        have e0' : G ≠ M := e0.symm
        have e1' : G + 1 ≠ M := e1.symm
        have e2' : G + 2 ≠ M := e2.symm
        have e3' : G + 3 ≠ M := e3.symm
        clear R0 R1 R2 R3 hM hG
        go_wp2_with (fail)
        go_region
        rw [← HFV.out, ← HV0.out]
        obtain ⟨wz, hwz⟩ : ∃ wz, wz = ((((wr.setCell ⟨G, 0, none⟩ fv).setCell ⟨G + 1, 0, none⟩ (vs 0)).setCell ⟨G + 2, 0, none⟩ (.int .i64 0)).setCell ⟨G + 3, 0, none⟩ (.int .i64 0)).drew := ⟨_, rfl⟩
        rw [← hwz]
        have hfs := four_stores HRr.out fv (vs 0) 0 0
        rw [← HGG.out, ← hwz] at hfs
        clear hwz x0 x1 x2 x3 f0 f1 f2 f3 e0 e1 e2 e3 e0' e1' e2' e3' d0 d1 d2
        go_wp2
        obtain ⟨h1, h2, h3⟩ := hfs
        have hg := HGG.out
        subst hg
        have hsz3 : w0.heap.size = w.heap.size + 4 := HSZ.out
        refine leaves_ok w wz ts fs ls fv vs _ h1 ?_ ?_ ?_ (HBw.out.trans h2) rfl rfl rfl rfl
        · unfold parseP; rw [HRUN.out, runP]; exact if_neg HH0.out
        · rw [← hsz3]
          exact own_move HP.out.2.1 (fun k hk => h3 k (by have := own_base HP.out.2.1 k hk; omega))
        · rw [← hsz3]
          exact HP.out.2.2.1.move (fun i k hi hk => h3 k (by have := own_base (HP.out.2.2.1.1 i hi) k hk; omega))
end Go.Proofs.Ytiojfdgagdofiaa.HP
/-
TopOpen's plain part: what the texts with a bracket too many are read as; a row of tokens in memory, out of the form that the lexer's contract has.
-/
set_option linter.unusedVariables false
set_option linter.unusedSimpArgs false
namespace Go.Proofs.Ytiojfdgagdofiaa.HP
open Go.RowKit Go.Proofs.Ytiojfdgagdofiaa.HB Go.Proofs.Ytiojfdgagdofiaa.HK Go.Proofs.YtiojfdgagdofiaaW.PrintWords Go.Proofs.YtiojfdgagdofiaaW.PrintLast Go.Proofs.YtiojfdgagdofiaaW.PrintMore
theorem TRow.nil (w : World) : TRow w none [] := fun j T hj => by simp at hj
end Go.Proofs.Ytiojfdgagdofiaa.HP
/-
Forms and whole numbers that are read; few, SameInts, Same, each at what is the same.
-/
set_option linter.unusedVariables false
set_option linter.unusedSimpArgs false
namespace Go.Proofs.Ytiojfdgagdofiaa.HP
open Go.RowKit Go.Proofs.Ytiojfdgagdofiaa.HB Go.Proofs.Ytiojfdgagdofiaa.HK Go.Proofs.YtiojfdgagdofiaaW.PrintWords Go.Proofs.YtiojfdgagdofiaaW.PrintLast Go.Proofs.YtiojfdgagdofiaaW.PrintMore
/-- A row of whole numbers in memory. -/
def IRow (w : World) (A : Option Addr) (l : List Int) : Prop :=
  ∀ j, j < l.length → ∃ g o : Nat, A = some ⟨g, o, none⟩ ∧ g < w.heap.size ∧ w.cell? ⟨g, o + j, none⟩ = some (.int .i64 (l.getD j 0))
theorem IRow.below {w w1 : World} {A : Option Addr} {l : List Int} (h : IRow w A l) (hb : Below w.heap.size w w1) : IRow w1 A l := by
  intro j hj
  obtain ⟨g, o, hA, hg, c0⟩ := h j hj
  exact ⟨g, o, hA, Nat.lt_of_lt_of_le hg hb.size, by rw [hb.cell (p := ⟨g, o + j, none⟩) hg]; exact c0⟩
theorem IRow.nil (w : World) (A : Option Addr) : IRow w A [] := fun j hj => by simp at hj
theorem own_irow {w : World} {base : Nat} {v : Value} {l : List Int} (h : w.ownsRow base 3 1 v l.length (nums .i64 l)) : ∃ A c, v = .slice A l.length c ∧ l.length ≤ c ∧ IRow w A l := by
  rcases h.2 with ⟨rfl, h0⟩ | ⟨g, cap, cur, rfl, _, _, hle, _⟩
  · exact ⟨none, 0, by rw [h0], by omega, fun j hj => by omega⟩
  · refine ⟨some ⟨g, 0, none⟩, cap, rfl, hle, fun j hj => ⟨g, 0, rfl, own_lt h g rfl, ?_⟩⟩
    have := h.cellAt (0 + j) (by omega)
    rw [this, Nat.zero_add]
    simp [nums, List.getD_eq_getElem?_getD, List.getElem?_eq_getElem hj]
/-- A row of forms in memory, with the kids of each. -/
def FRow (w : World) (A : Option Addr) (fs : List FormP) (ks : Nat → List Int) : Prop :=
  ∀ (j : Nat) (f : FormP), fs[j]? = some f → ∃ (g o : Nat) (B : Option Addr) (c : Nat), A = some ⟨g, o, none⟩ ∧ g < w.heap.size ∧ w.cell? ⟨g, o + j * 5, none⟩ = some (.int .u8 f.k) ∧ w.cell? ⟨g, o + j * 5 + 1, none⟩ = some (.string f.t) ∧ w.cell? ⟨g, o + j * 5 + 2, none⟩ = some (.int .i64 f.n) ∧ w.cell? ⟨g, o + j * 5 + 3, none⟩ = some (.slice B (ks j).length c) ∧ w.cell? ⟨g, o + j * 5 + 4, none⟩ = some (.int .i64 f.at_) ∧ (ks j).length ≤ c ∧ IRow w B (ks j)
theorem FRow.below {w w1 : World} {A : Option Addr} {fs : List FormP} {ks : Nat → List Int} (h : FRow w A fs ks) (hb : Below w.heap.size w w1) : FRow w1 A fs ks := by
  intro j f hj
  obtain ⟨g, o, B, c, hA, hg, c0, c1, c2, c3, c4, hc, hB⟩ := h j f hj
  have hh : ∀ i, w1.cell? ⟨g, i, none⟩ = w.cell? ⟨g, i, none⟩ := fun i => hb.cell (p := ⟨g, i, none⟩) hg
  exact ⟨g, o, B, c, hA, Nat.lt_of_lt_of_le hg hb.size, by rw [hh]; exact c0, by rw [hh]; exact c1, by rw [hh]; exact c2, by rw [hh]; exact c3, by rw [hh]; exact c4, hc, hB.below hb⟩
theorem FRow.nil (w : World) (A : Option Addr) (ks : Nat → List Int) : FRow w A [] ks := fun j f hj => by simp at hj
/-- What Parse hands back, as it is read. -/
theorem own_frow {w : World} {base : Nat} {fv : Value} {fs : List FormP} {vs : Nat → Value} {ls : Nat → List Int} (h : w.ownsRow base 40 5 fv fs.length (fcells fs 2 vs)) (hr : RowsN w base (fs.length + 2) vs ls) :
    ∃ A c, fv = .slice A fs.length c ∧ fs.length ≤ c ∧ FRow w A fs (fun j => ls (j + 2)) := by
  rcases h.2 with ⟨rfl, h0⟩ | ⟨g, cap, cur, rfl, _, _, hle, _⟩
  · exact ⟨none, 0, by rw [h0], by omega, fun j f hj => by have := (List.getElem?_eq_some_iff.1 hj).1; omega⟩
  · refine ⟨some ⟨g, 0, none⟩, cap, rfl, hle, fun j f hj => ?_⟩
    have hlt := (List.getElem?_eq_some_iff.1 hj).1
    obtain ⟨B, c, hv, hc, hB⟩ := own_irow (hr.1 (j + 2) (by omega))
    have hat : ∀ i, i < 5 → w.cell? ⟨g, j * 5 + i, none⟩ = (fcell f (vs (j + 2)))[i]? := by
      intro i hi
      rw [h.cellAt (j * 5 + i) (by omega), fcells_get fs 2 vs j i f hj hi, Nat.add_comm 2 j]
    refine ⟨g, 0, B, c, rfl, own_lt h g rfl, ?_⟩
    rw [Nat.zero_add]
    exact ⟨hat 0 (by decide), hat 1 (by decide), hat 2 (by decide), by rw [hat 3 (by decide), hv]; rfl, hat 4 (by decide), hc, hB⟩
set_option maxHeartbeats 4000000 in
set_option maxRecDepth 100000 in
theorem few_calls (w : World) (A : Option Addr) (c : Nat) (ts : List S37) (hT : TRow w A ts) (hc : ts.length ≤ c) :
    Calls Try.prog 15 #[.slice A ts.length c] w fun e w' => (∃ A' c', e = .returned (.slice A' (ts.take 700).length c') ∧ TRow w A' (ts.take 700) ∧ (ts.take 700).length ≤ c') ∧ w' = w := by
  by_cases h : 700 < ts.length
  · obtain ⟨T, hj⟩ : ∃ T, ts[0]? = some T := ⟨_, List.getElem?_eq_getElem (by omega)⟩
    obtain ⟨g, o, hA, _⟩ := hT 0 T hj
    subst hA
    have hsl : ∀ W, (Instr.slice 22 (.slice (some ⟨g, o, none⟩) ts.length c) none (some (.int .i64 700)) none).run Try.prog W = .ok (.slice (some ⟨g, o, none⟩) 700 c) W := by
      intro W
      rw [run_slice_h (P := Try.prog) W 22 (some ⟨g, o, none⟩) ts.length c Try.underlying22 .i64 700 (by omega) (by omega)]
      rw [show (sizeOf (Try.prog.elem 22)).run Try.prog W = .ok 4 W by simp [go_sem]]
      simp [go_sem, sliced, Result.andThen, Addr.add]
    have q : decide ((700 : Int) < (ts.length : Int)) = true := decide_eq_true (by omega)
    have hl : (ts.take 700).length = 700 := by rw [List.length_take]; omega
    go_enter Try.func15, Try.ntmps15
    go_wp2
    go_ret
    refine ⟨⟨some ⟨g, o, none⟩, c, by rw [hl]; rfl, fun j T' hj' => hT j T' ?_, by omega⟩, rfl⟩
    rw [List.getElem?_take] at hj'
    split at hj'
    · exact hj'
    · cases hj'
  · have q : decide ((700 : Int) < (ts.length : Int)) = false := decide_eq_false (by omega)
    have hl : ts.take 700 = ts := List.take_of_length_le (by omega)
    go_enter Try.func15, Try.ntmps15
    go_wp2
    go_ret
    refine ⟨⟨A, c, by rw [hl]; rfl, by rw [hl]; exact hT, by rw [hl]; exact hc⟩, rfl⟩
set_option maxHeartbeats 4000000 in
set_option maxRecDepth 100000 in
theorem sameInts_calls (w : World) (A B : Option Addr) (c d : Nat) (l : List Int) (hA : IRow w A l) (hB : IRow w B l) (hl : l.length ≤ 1000000) :
    Calls Try.prog 19 #[.slice A l.length c, .slice B l.length d] w fun e w' => e = .returned (.bool true) ∧ ∃ n, w' = w.drewN n := by
  have HA := Lib.hid hA
  have HB := Lib.hid hB
  clear hA hB
  go_enter Try.func19, Try.ntmps19
  go_wp2_with (fail)
  go_loopw [5] (fun i wr => ∃ (j q : Nat), i = .int .i64 (j : Int) ∧ j ≤ l.length ∧ wr = w.drewN q) (fun i _ => l.length - (intOf i).toNat)
  case atStart => exact ⟨0, 0, rfl, Nat.zero_le _, rfl⟩
  case round =>
    obtain ⟨j, q, rfl, hj, hwr⟩ := hrel
    by_cases hlt : j < l.length
    · have hb : Below w.heap.size w wr := by rw [hwr]; exact pw_below_drewN (Below.refl _ w) q
      obtain ⟨g, o, e1, _, c0⟩ := HA.out.below hb j hlt
      obtain ⟨g', o', e2, _, c1⟩ := HB.out.below hb j hlt
      subst e1 e2
      have q1 : (j : Int) < (l.length : Int) := by omega
      have q0 : (0 : Int) ≤ (j : Int) := by omega
      have qd : decide ((j : Int) < (l.length : Int)) = true := decide_eq_true q1
      have hw : IntKind.i64.wrap ((j : Int) + 1) = ((j + 1 : Nat) : Int) := by rw [IntWalk.i64_in _ (by omega)]; omega
      have HW := Lib.hid hwr
      clear hwr hb
      go_wp2_with (fail)
      go_quiet (fail)
      go_wp2
      go_roundw
      case measure => simp [intOf]; omega
      case rel => exact ⟨j + 1, q + nq, by first | rfl | (rw [hw]) | simp, by omega, by rw [HW.out, World.drewN_drewN]⟩
    · have qd : decide ((j : Int) < (l.length : Int)) = false := decide_eq_false (by omega)
      have HW := Lib.hid hwr
      clear hwr
      go_wp2
      exact bodyPost_ret (v := .bool true) (by simp [results, Try.results19, go_sem]) rfl ⟨rfl, q, HW.out⟩
end Go.Proofs.Ytiojfdgagdofiaa.HP
/-
ref07.Same at what is the same.
-/
set_option linter.unusedVariables false
set_option linter.unusedSimpArgs false
namespace Go.Proofs.Ytiojfdgagdofiaa.HP
open Go.RowKit Go.Proofs.Ytiojfdgagdofiaa.HB Go.Proofs.Ytiojfdgagdofiaa.HK Go.Proofs.YtiojfdgagdofiaaW.PrintWords Go.Proofs.YtiojfdgagdofiaaW.PrintLast Go.Proofs.YtiojfdgagdofiaaW.PrintMore
set_option maxHeartbeats 8000000 in
set_option maxRecDepth 100000 in
theorem same_calls (w : World) (A B : Option Addr) (c d : Nat) (fs : List FormP) (ks : Nat → List Int) (hA : FRow w A fs ks) (hB : FRow w B fs ks) (hl : fs.length ≤ 1000000) (hk : ∀ i, (ks i).length ≤ 1000000) :
    Calls Try.prog 18 #[.slice A fs.length c, .slice B fs.length d] w fun e w' => e = .returned (.bool true) ∧ ∃ n, w' = w.drewN n := by
  have HA := Lib.hid hA
  have HB := Lib.hid hB
  have HK := Lib.hid hk
  clear hA hB hk
  go_enter Try.func18, Try.ntmps18
  go_wp2_with (fail)
  go_loopw [5] (fun i wr => ∃ (j q : Nat), i = .int .i64 (j : Int) ∧ j ≤ fs.length ∧ Hid (wr = w.drewN q)) (fun i _ => fs.length - (intOf i).toNat)
  case atStart => exact ⟨0, 0, rfl, Nat.zero_le _, rfl⟩
  case round =>
    obtain ⟨j, q, rfl, hj, HW⟩ := hrel
    by_cases hlt : j < fs.length
    · have hb : Below w.heap.size w wr := by rw [HW.out]; exact pw_below_drewN (Below.refl _ w) q
      obtain ⟨f, hf⟩ : ∃ f, fs[j]? = some f := ⟨_, List.getElem?_eq_getElem hlt⟩
      obtain ⟨g, o, B1, c1, e1, _, a0, a1, a2, a3, a4, _, hB1⟩ := HA.out.below hb j f hf
      obtain ⟨g', o', B2, c2, e2, _, b0, b1, b2, b3, b4, _, hB2⟩ := HB.out.below hb j f hf
      subst e1 e2
      have HS : Hid (∀ q', Calls Try.prog 19 #[.slice B1 (ks j).length c1, .slice B2 (ks j).length c2] (wr.drewN q') fun e w' => e = .returned (.bool true) ∧ ∃ m, w' = (wr.drewN q').drewN m) := fun q' =>
        sameInts_calls (wr.drewN q') B1 B2 c1 c2 (ks j) (hB1.below (pw_below_drewN (Below.refl _ _) q')) (hB2.below (pw_below_drewN (Below.refl _ _) q')) (HK.out j)
      have q1 : (j : Int) < (fs.length : Int) := by omega
      have q0 : (0 : Int) ≤ (j : Int) := by omega
      have qd : decide ((j : Int) < (fs.length : Int)) = true := decide_eq_true q1
      have hw : IntKind.i64.wrap ((j : Int) + 1) = ((j + 1 : Nat) : Int) := by rw [IntWalk.i64_in _ (by omega)]; omega
      clear hb hB1 hB2 hf
      go_wp2_with (fail)
      go_quiet ((go_at_call 19; with_reducible exact Calls.quiet_of (HS.out _)))
      go_wp2
      go_roundw
      case measure => simp [intOf]; omega
      case rel => exact ⟨j + 1, q + nq, by first | rfl | (rw [hw]) | simp, by omega, by show _ = _; rw [HW.out, World.drewN_drewN]⟩
    · have qd : decide ((j : Int) < (fs.length : Int)) = false := decide_eq_false (by omega)
      go_wp2
      exact bodyPost_ret (v := .bool true) (by simp [results, Try.results18, go_sem]) rfl ⟨rfl, q, HW.out⟩
end Go.Proofs.Ytiojfdgagdofiaa.HP
/-
The state of the document's Parse: forms, each with a row of its kids; the uppermost ones; those that are open.
-/
set_option linter.unusedVariables false
set_option linter.unusedSimpArgs false
namespace Go.Proofs.Ytiojfdgagdofiaa.HP
open Go.RowKit Go.Proofs.Ytiojfdgagdofiaa.HB Go.Proofs.Ytiojfdgagdofiaa.HK Go.Proofs.YtiojfdgagdofiaaW.PrintWords Go.Proofs.YtiojfdgagdofiaaW.PrintLast Go.Proofs.YtiojfdgagdofiaaW.PrintMore
variable {w0 w : World} {fs : List FormP} {fv : Value} {vs : Nat → Value} {ls : Nat → List Int}
def PState (w0 w : World) (fs : List FormP) (fv : Value) (vs : Nat → Value) (ls : Nat → List Int) : Prop :=
  w.ownsRow w0.heap.size 40 5 fv fs.length (fcells fs 2 vs) ∧ RowsN w w0.heap.size (fs.length + 2) vs ls ∧ Below w0.heap.size w0 w
theorem PState.moved {w1 : World} (h : PState w0 w fs fv vs ls) (hb : Below w.heap.size w w1) : PState w0 w1 fs fv vs ls :=
  ⟨own_move h.1 (fun k hk => hb.block k (own_lt h.1 k hk)), h.2.1.below hb, below_then h.2.2 h.2.2.size hb⟩
theorem PState.slice (h : PState w0 w fs fv vs ls) (i : Nat) (hi : i < fs.length + 2) : ∃ A c, vs i = .slice A (ls i).length c := own_slice (h.2.1.1 i hi)
theorem PState.addForm (h : PState w0 w fs fv vs ls) {w3 : World} {fv3 : Value} {f : FormP} (hown : w3.ownsRow w0.heap.size 40 5 fv3 (fs.length + 1) (fcells fs 2 vs ++ fcell f (.slice none 0 0))) (hg : w.grownBy w3 fv.ownBlock) (hb : Below w0.heap.size w0 w3) :
    PState w0 w3 (fs ++ [f]) fv3 (upd vs (fs.length + 2) (.slice none 0 0)) (upd ls (fs.length + 2) []) := by
  obtain ⟨h2, h3, h4⟩ := h
  refine ⟨?_, ?_, hb⟩
  · rw [fcells_snoc, List.length_append, List.length_singleton, show 2 + fs.length = fs.length + 2 by omega, upd_same, fcells_congr fs 2 (upd vs (fs.length + 2) (.slice none 0 0)) vs (fun j h1 h2 => upd_other _ _ (by omega))]
    exact hown
  · rw [List.length_append, List.length_singleton, show fs.length + 1 + 2 = fs.length + 2 + 1 by omega]
    exact (h3.grown h2 (by decide) hg).more
/-- A row in the place of row i, in new memory. -/
theorem RowsN.replaced {base n : Nat} {w1 : World} {i : Nat} {l : List Int} {v1 : Value} (h : RowsN w base n vs ls) (hb : Below w.heap.size w w1) (hown : w1.ownsRow base 3 1 v1 l.length (nums .i64 l))
    (hat : v1.ownBlock = none ∨ ∃ b, v1.ownBlock = some b ∧ w.heap.size ≤ b) : RowsN w1 base n (upd vs i v1) (upd ls i l) := by
  have hold : ∀ j, j < n → ∀ k, (vs j).ownBlock = some k → k < w.heap.size := fun j hj k hk => own_lt (h.1 j hj) k hk
  refine ⟨fun j hj => ?_, fun j m hj hm hne => ?_⟩
  · by_cases e : j = i
    · subst e; rw [upd_same, upd_same]; exact hown
    · rw [upd_other _ _ e, upd_other _ _ e]
      exact own_move (h.1 j hj) (fun k hk => hb.block k (hold j hj k hk))
  · by_cases ej : j = i
    · subst ej
      have em : m ≠ j := fun e => hne e.symm
      rw [upd_same, upd_other _ _ em]
      rcases hat with hat | ⟨b, hat, hle⟩
      · exact .inl hat
      · right
        rw [hat]
        intro e
        have := hold m hm b e.symm
        omega
    · by_cases em : m = i
      · subst em
        rw [upd_same, upd_other _ _ ej]
        cases hk : (vs j).ownBlock with
        | none => exact .inl rfl
        | some k =>
          right
          rcases hat with hat | ⟨b, hat, hle⟩
          · rw [hat]; intro e; cases e
          · rw [hat]
            intro e
            have := hold j hj k hk
            injection e with e
            omega
      · rw [upd_other _ _ ej, upd_other _ _ em]
        exact h.2 j m hj hm hne
theorem PState.kid (h : PState w0 w fs fv vs ls) {b F cap : Nat} (hbl : b < fs.length) (hfv : fv = .slice (some ⟨F, 0, none⟩) fs.length cap) {w1 : World} {v1 : Value} {l : List Int} (hb : Below w.heap.size w w1) (hown : w1.ownsRow w0.heap.size 3 1 v1 l.length (nums .i64 l))
    (hat : v1.ownBlock = none ∨ ∃ b, v1.ownBlock = some b ∧ w.heap.size ≤ b) : PState w0 (w1.setCell ⟨F, b * 5 + 3, none⟩ v1) fs fv (upd vs (b + 2) v1) (upd ls (b + 2) l) := by
  have hm := h.moved hb
  have hFb : fv.ownBlock = some F := by rw [hfv]; rfl
  obtain ⟨cells, hF⟩ := own_typed hm.1 F hFb
  have hFB := own_base hm.1 F hFb
  have hr := h.2.1.replaced (i := b + 2) hb hown hat
  refine ⟨?_, hr.far hF (by decide) _ _, hm.2.2.setCell (p := ⟨F, b * 5 + 3, none⟩) hFB _⟩
  have hs := fcells_set fs 2 vs b v1 hbl
  rw [show 2 + b = b + 2 by omega] at hs
  rw [← hs]
  have h2 := hm.1
  rw [hfv] at h2 ⊢
  exact (h2.stored (b * 5 + 3) v1).1
end Go.Proofs.Ytiojfdgagdofiaa.HP
/-
The document's Parse over the translation: it answers what parseP says.
-/
set_option linter.unusedVariables false
set_option linter.unusedSimpArgs false
namespace Go.Proofs.Ytiojfdgagdofiaa.HP
open Go.RowKit Go.Proofs.Ytiojfdgagdofiaa.HB Go.Proofs.Ytiojfdgagdofiaa.HK Go.Proofs.YtiojfdgagdofiaaW.PrintWords Go.Proofs.YtiojfdgagdofiaaW.PrintLast Go.Proofs.YtiojfdgagdofiaaW.PrintMore
/-- What stands at each round's head. -/
def RefRelP (w wr : World) (ts : List S37) (j : Nat) (fs : List FormP) (fv : Value) (vs : Nat → Value) (ls : Nat → List Int) : Prop :=
  PState w wr fs fv vs ls ∧ TInv fs ls ∧ runP [] (fun _ => []) ts = runP fs ls (ts.drop j)
theorem RefRelP.step {w wr w1 : World} {ts : List S37} {j : Nat} {fs fs' : List FormP} {fv fv' : Value} {vs vs' : Nat → Value} {ls ls' : Nat → List Int} {T : S37} (h : RefRelP w wr ts j fs fv vs ls) (hj : ts[j]? = some T) (ht : takeP fs ls T = .ok (fs', ls')) (hs : PState w w1 fs' fv' vs' ls') :
    RefRelP w w1 ts (j + 1) fs' fv' vs' ls' := by
  refine ⟨hs, h.2.1.take ht, ?_⟩
  have hlt := (List.getElem?_eq_some_iff.1 hj).1
  have hj2 : ts[j] = T := (List.getElem?_eq_some_iff.1 hj).2
  rw [h.2.2, List.drop_eq_getElem_cons hlt, hj2, runP, ht]
theorem RefRelP.stop {w wr : World} {ts : List S37} {j : Nat} {fs : List FormP} {fv : Value} {vs : Nat → Value} {ls : Nat → List Int} {T : S37} {a why : Int} (h : RefRelP w wr ts j fs fv vs ls) (hj : ts[j]? = some T) (ht : takeP fs ls T = .error (a, why)) :
    parseP ts = .error (a, why) := by
  have hlt := (List.getElem?_eq_some_iff.1 hj).1
  have hj2 : ts[j] = T := (List.getElem?_eq_some_iff.1 hj).2
  unfold parseP
  rw [h.2.2, List.drop_eq_getElem_cons hlt, hj2, runP, ht]
theorem fresh_at {wr : World} {v v1 : Value} {g N : Nat} (hv : v.ownBlock = some g) (hg0 : wr.heap.size ≤ g) (hN : wr.heap.size ≤ N) (hat : v1.ownBlock = v.ownBlock ∨ ∃ b, v1.ownBlock = some b ∧ N ≤ b) :
    v1.ownBlock = none ∨ ∃ b, v1.ownBlock = some b ∧ wr.heap.size ≤ b := by
  rcases hat with e | ⟨b, e, hle⟩
  · exact .inr ⟨g, by rw [e, hv], hg0⟩
  · exact .inr ⟨b, e, Nat.le_trans hN hle⟩
theorem fresh_below {wr wb w1 : World} {v : Value} {g : Nat} (hv : v.ownBlock = some g) (hg0 : wr.heap.size ≤ g) (hb : Below wr.heap.size wr wb) (hg : wb.grownBy w1 v.ownBlock) : Below wr.heap.size wr w1 :=
  hb.grown hg hb.size (fun k hk => by rw [hv] at hk; injection hk with hk; omega)
end Go.Proofs.Ytiojfdgagdofiaa.HP
