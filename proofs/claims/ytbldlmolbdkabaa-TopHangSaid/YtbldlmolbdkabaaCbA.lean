/-
graph.New, N, M, Out, Edge, slices.Clone of whole numbers and of words, over the translation.
-/
import Derived.Test.YtbldlmolbdkabaaCaD
set_option linter.unusedVariables false
set_option linter.unusedSimpArgs false
namespace Go.Proofs.Ytbldlmolbdkabaa.HP
open Go.RowKit Go.Proofs.YtbldlmolbdkabaaW.PrintWords Go.Proofs.YtbldlmolbdkabaaW.PrintLast Go.Proofs.YtbldlmolbdkabaaW.PrintMore
/-- How New ends. -/
def NewEnds (w : World) (n : Int) (es : List EdgeP) (e : Ending) (w' : World) : Prop :=
  (okG n es ∧ ∃ G, e = .returned (.pointer (some ⟨G, 0, none⟩)) ∧ IsGraph w' G n.toNat es ∧ Below w.heap.size w w') ∨ (¬ okG n es ∧ e = .returned (.pointer none) ∧ Below w.heap.size w w')
set_option maxHeartbeats 4000000 in
set_option maxRecDepth 100000 in
theorem new_calls (w : World) (A : Option Addr) (c : Nat) (n : Int) (es : List EdgeP) (hE : ERow w A es) (hl : es.length ≤ 1000000) : Calls Try.prog 15 #[.int .i64 n, .slice A es.length c] w fun e w' => NewEnds w n es e w' := by
  have HC := Lib.hid (check_calls w A c n es hE (by omega))
  have HE := Lib.hid hE
  clear hE
  go_enter Try.func15, Try.ntmps15
  go_wp2_with (fail)
  refine HC.out.mono ?_
  rintro e w1 ⟨x, rfl, hb1⟩
  have HB1 := Lib.hid hb1
  by_cases hg : okG n es
  · have he : errG n es = 0 := if_pos hg
    rw [he]
    obtain ⟨N, rfl⟩ : ∃ N : Nat, n = (N : Int) := ⟨n.toNat, by have := hg.1; omega⟩
    have HG := Lib.hid hg
    have HCL := Lib.hid (cloneEdges_calls w1 A c es (HE.out.below hb1) hl)
    clear hb1 he hg HC
    go_wp2_with (fail)
    refine HCL.out.mono ?_
    rintro e w2 ⟨v, rfl, ho, hb2⟩
    obtain ⟨A2, c2, rfl, _, hE2⟩ := own_erow ho
    have HB2 := Lib.hid (below_then HB1.out HB1.out.size hb2)
    have HM := Lib.hid (made_calls w2 A2 c2 N es hE2 HG.out)
    clear ho hb2 hE2 HCL
    go_wp2_with (fail)
    refine HM.out.mono ?_
    rintro e w3 ⟨G, rfl, hI, hb3⟩
    have HI := Lib.hid hI
    have HB3 := Lib.hid (below_then HB2.out HB2.out.size hb3)
    clear hI hb3
    go_wp2
    go_ret
    exact .inl ⟨HG.out, G, rfl, by rw [Int.toNat_natCast]; exact HI.out, HB3.out⟩
  · have he : errG n es = 11 := if_neg hg
    rw [he]
    have HG := Lib.hid hg
    clear hb1 he hg HC
    go_wp2
    go_ret
    exact .inr ⟨HG.out, rfl, HB1.out⟩
variable {w : World} {G n : Nat} {es : List EdgeP}
set_option maxHeartbeats 4000000 in
set_option maxRecDepth 100000 in
theorem n_calls (h : IsGraph w G n es) : Calls Try.prog 17 #[.pointer (some ⟨G, 0, none⟩)] w fun e w' => e = .returned (.int .i64 (n : Int)) ∧ w' = w := by
  obtain ⟨AE, cE, O, I, M, h1, _, _, _⟩ := h
  have c1 : w.cell? ⟨G, 1, none⟩ = some (.slice (some ⟨O, 0, none⟩) n n) := by rw [blk_cell h1]; rfl
  clear h1
  go_enter Try.func17, Try.ntmps17
  go_wp2
  go_ret
  exact ⟨rfl, rfl⟩
set_option maxHeartbeats 4000000 in
set_option maxRecDepth 100000 in
theorem m_calls (h : IsGraph w G n es) : Calls Try.prog 21 #[.pointer (some ⟨G, 0, none⟩)] w fun e w' => e = .returned (.int .i64 (es.length : Int)) ∧ w' = w := by
  obtain ⟨AE, cE, O, I, M, h1, _, _, _⟩ := h
  have c1 : w.cell? ⟨G, 0, none⟩ = some (.slice AE es.length cE) := by rw [blk_cell h1]; rfl
  clear h1
  go_enter Try.func21, Try.ntmps21
  go_wp2
  go_ret
  exact ⟨rfl, rfl⟩
/-- A row of its own is handed back. -/
def RowEnds (t : TypeId) (w : World) (l : List Int) (e : Ending) (w' : World) : Prop := ∃ v, e = .returned v ∧ w'.ownsRow w.heap.size t 1 v l.length (nums .i64 l) ∧ Below w.heap.size w w'
theorem info22 : (Try.prog.info? 22).map (fun i => (i.zero, i.size, i.bytes)) = some (some (.int .i64 0), 1, 8) := by kernel_rfl
theorem cell_lt {w : World} {g o : Nat} {v : Value} (h : w.cell? ⟨g, o, none⟩ = some v) : g < w.heap.size := by
  unfold World.cell? at h
  cases hb : w.heap[g]? with
  | none => rw [hb] at h; cases h
  | some ob => exact blk_lt hb
set_option maxHeartbeats 4000000 in
set_option maxRecDepth 100000 in
theorem clone3_calls (w : World) (A : Option Addr) (c : Nat) (l : List Int) (hE : IRow w A l) (hl : l.length ≤ 1000000) : Calls Try.prog 38 #[.slice A l.length c] w fun e w' => RowEnds 3 w l e w' := by
  have q : ∀ (w : World) (a : Option Addr) (n c n' c' : Nat), (binOp .eql 37 (.slice a n c) (.slice none n' c')).run Try.prog w = .ok (.bool a.isNone) w := fun w a n c n' c' => Lib.run_eql_slice_nil w _ _ a n c n' c' Try.underlying37
  obtain ⟨i0, hi, hz0, hz1, hz2⟩ := info_parts info3
  cases A with
  | none =>
    have h0 : l = [] := by
      cases l with
      | nil => rfl
      | cons x r => obtain ⟨g, o, e, _⟩ := hE 0 (by simp); cases e
    subst h0
    clear hE
    go_enter Try.func38, Try.ntmps38
    go_wp2
    go_ret
    exact ⟨_, rfl, own_nil _ _ _ _, Below.refl _ _⟩
  | some a =>
    have hc : ∀ (j : Nat) (u : Value), (nums .i64 l)[j]? = some u → w.cell? (a.add j) = some u := by
      intro j u hu
      have hlt := (List.getElem?_eq_some_iff.1 hu).1
      rw [nums_length] at hlt
      obtain ⟨g, o, e, _, hcc⟩ := hE j hlt
      injection e with e
      subst e
      rw [addr_add, hcc, ← hu]
      simp [nums, List.getD_eq_getElem?_getD, List.getElem?_eq_getElem hlt]
    have HC := Lib.hid hc
    clear hc hE
    go_enter Try.func38, Try.ntmps38
    go_wp2_with (at_builtin; refine wpList_append_own _ rfl _ _ 37 rfl w.heap.size 3 i0 (.int .i64 0) 1 8 Try.underlying37 hi hz0 hz1 hz2 rfl (by decide) _ _ _ rfl (World.ownsRow_made w #[] 0 (Nat.le_refl _) (Nat.zero_le _) rfl) a l.length c (nums .i64 l) rfl ?qc1 ?qc2 ?qc3 ?qc4 ?qc5 ?qc6 ?_)
    case qc1 => rw [nums_length, Nat.mul_one]
    case qc2 => intro j u hu; exact Lib.cell?_alloc_some _ (HC.out j u hu)
    case qc3 => intro u hu; obtain ⟨x, _, rfl⟩ := List.mem_map.1 hu; rfl
    case qc4 => unfold maxLen; omega
    case qc5 => omega
    case qc6 => simp
    intro v' w1 hown hgrow hnil
    go_wp2
    go_ret
    exact ⟨v', rfl, by simpa using hown, ((Below.refl _ w).alloc (Nat.le_refl _) _).grown hgrow (by simp) (by intro k hk; simp [Value.ownBlock] at hk; omega)⟩
set_option maxHeartbeats 4000000 in
set_option maxRecDepth 100000 in
theorem clone22_calls (w : World) (A : Option Addr) (c : Nat) (l : List Int) (hE : IRow w A l) (hl : l.length ≤ 1000000) : Calls Try.prog 41 #[.slice A l.length c] w fun e w' => RowEnds 22 w l e w' := by
  have q : ∀ (w : World) (a : Option Addr) (n c n' c' : Nat), (binOp .eql 55 (.slice a n c) (.slice none n' c')).run Try.prog w = .ok (.bool a.isNone) w := fun w a n c n' c' => Lib.run_eql_slice_nil w _ _ a n c n' c' Try.underlying55
  obtain ⟨i0, hi, hz0, hz1, hz2⟩ := info_parts info22
  cases A with
  | none =>
    have h0 : l = [] := by
      cases l with
      | nil => rfl
      | cons x r => obtain ⟨g, o, e, _⟩ := hE 0 (by simp); cases e
    subst h0
    clear hE
    go_enter Try.func41, Try.ntmps41
    go_wp2
    go_ret
    exact ⟨_, rfl, own_nil _ _ _ _, Below.refl _ _⟩
  | some a =>
    have hc : ∀ (j : Nat) (u : Value), (nums .i64 l)[j]? = some u → w.cell? (a.add j) = some u := by
      intro j u hu
      have hlt := (List.getElem?_eq_some_iff.1 hu).1
      rw [nums_length] at hlt
      obtain ⟨g, o, e, _, hcc⟩ := hE j hlt
      injection e with e
      subst e
      rw [addr_add, hcc, ← hu]
      simp [nums, List.getD_eq_getElem?_getD, List.getElem?_eq_getElem hlt]
    have HC := Lib.hid hc
    clear hc hE
    go_enter Try.func41, Try.ntmps41
    go_wp2_with (at_builtin; refine wpList_append_own _ rfl _ _ 55 rfl w.heap.size 22 i0 (.int .i64 0) 1 8 Try.underlying55 hi hz0 hz1 hz2 rfl (by decide) _ _ _ rfl (World.ownsRow_made w #[] 0 (Nat.le_refl _) (Nat.zero_le _) rfl) a l.length c (nums .i64 l) rfl ?qc1 ?qc2 ?qc3 ?qc4 ?qc5 ?qc6 ?_)
    case qc1 => rw [nums_length, Nat.mul_one]
    case qc2 => intro j u hu; exact Lib.cell?_alloc_some _ (HC.out j u hu)
    case qc3 => intro u hu; obtain ⟨x, _, rfl⟩ := List.mem_map.1 hu; rfl
    case qc4 => unfold maxLen; omega
    case qc5 => omega
    case qc6 => simp
    intro v' w1 hown hgrow hnil
    go_wp2
    go_ret
    exact ⟨v', rfl, by simpa using hown, ((Below.refl _ w).alloc (Nat.le_refl _) _).grown hgrow (by simp) (by intro k hk; simp [Value.ownBlock] at hk; omega)⟩
set_option maxHeartbeats 4000000 in
set_option maxRecDepth 100000 in
theorem out_calls (h : IsGraph w G n es) (v : Nat) (hv : v < n) (hl : es.length ≤ 1000000) : Calls Try.prog 24 #[.pointer (some ⟨G, 0, none⟩), .int .i64 (v : Int)] w fun e w' => RowEnds 3 w (pick (fromB es v) es.length) e w' := by
  obtain ⟨AE, cE, O, I, M, h1, _, hO, _⟩ := h
  obtain ⟨B, c, hc, _, hI⟩ := hO.2 v hv
  dsimp only at hc hI
  have hS : Hid (Calls Try.prog 40 #[.pointer (some ⟨G, 0, none⟩), .bool false] w fun e w' => e = .returned (.slice (some ⟨O, 0, none⟩) n n) ∧ w' = w) := by
    have c1 : w.cell? ⟨G, 1, none⟩ = some (.slice (some ⟨O, 0, none⟩) n n) := by rw [blk_cell h1]; rfl
    clear h1 hc hI hO
    show Calls _ _ _ _ _
    go_enter Try.func40, Try.ntmps40
    go_wp2
    go_ret
    exact ⟨rfl, rfl⟩
  obtain ⟨l, hlst⟩ : ∃ l, l = pick (fromB es v) es.length := ⟨_, rfl⟩
  have hll : l.length ≤ 1000000 := by rw [hlst]; exact Nat.le_trans (pick_len _ _) hl
  rw [← hlst] at hc hI ⊢
  have hA : Hid (Calls Try.prog 39 #[.slice (some ⟨O, 0, none⟩) n n, .int .i64 (v : Int)] w fun e w' => e = .returned (.slice B l.length c) ∧ w' = w) := by
    have q1 : decide ((v : Int) < 0) = false := decide_eq_false (by omega)
    have q2 : decide ((n : Int) ≤ (v : Int)) = false := decide_eq_false (by omega)
    have q2' : decide ((v : Int) ≥ (n : Int)) = false := decide_eq_false (by omega)
    have z1 : (v : Int) < (n : Int) := by omega
    have z0 : (0 : Int) ≤ (v : Int) := by omega
    clear h1 hI hO hS hlst
    show Calls _ _ _ _ _
    go_enter Try.func39, Try.ntmps39
    go_wp2
    go_ret
    exact ⟨rfl, rfl⟩
  have HC := Lib.hid (clone3_calls w B c l hI hll)
  clear h1 hO hc hI hlst hll hl
  go_enter Try.func24, Try.ntmps24
  go_wp2_with (fail)
  refine hS.out.mono ?_
  rintro e w' ⟨rfl, rfl⟩
  go_wp2_with (fail)
  refine hA.out.mono ?_
  rintro e w' ⟨rfl, rfl⟩
  go_wp2_with (fail)
  refine HC.out.mono ?_
  rintro e w' ⟨v, rfl, h1, h2⟩
  have H1 := Lib.hid h1
  have H2 := Lib.hid h2
  clear h1 h2
  go_wp2
  go_ret
  exact ⟨v, rfl, H1.out, H2.out⟩
set_option maxHeartbeats 4000000 in
set_option maxRecDepth 100000 in
theorem edge_calls (h : IsGraph w G n es) (i : Nat) (p : EdgeP) (hi : es[i]? = some p) (hl : es.length ≤ 1000000) : Calls Try.prog 26 #[.pointer (some ⟨G, 0, none⟩), .int .i64 (i : Int)] w fun e w' => e = .returned (.tuple #[.agg #[.int .i64 p.1, .int .i64 p.2], .bool true]) ∧ Below w.heap.size w w' := by
  have hlt := (List.getElem?_eq_some_iff.1 hi).1
  have HG := Lib.hid h
  obtain ⟨AE, cE, O, I, M, h1, hE, _, _⟩ := h
  obtain ⟨g, o, hA, _, c0, c1⟩ := hE i p hi
  subst hA
  obtain ⟨p1, p2⟩ := p
  dsimp only at c0 c1 ⊢
  obtain ⟨wa, hwa⟩ : ∃ wa, wa = w.alloc (.cells #[.int .i64 0, .int .i64 0] 36) := ⟨_, rfl⟩
  have hba : Below w.heap.size w wa := by rw [hwa]; exact (Below.refl _ w).alloc (Nat.le_refl _) _
  have HM := Lib.hid (m_calls (HG.out.below hba))
  have hga : wa.cell? ⟨G, 0, none⟩ = some (.slice (some ⟨g, o, none⟩) es.length cE) := by rw [blk_cell (blk_below h1 hba)]; rfl
  have e0 : wa.cell? ⟨g, o + i * 2, none⟩ = some (.int .i64 p1) := by rw [hba.cell (p := ⟨g, o + i * 2, none⟩) (cell_lt c0)]; exact c0
  have e1 : wa.cell? ⟨g, o + i * 2 + 1, none⟩ = some (.int .i64 p2) := by rw [hba.cell (p := ⟨g, o + i * 2 + 1, none⟩) (cell_lt c1)]; exact c1
  have hxa : wa.heap[w.heap.size]? = some (.cells #[.int .i64 0, .int .i64 0] 36 (0, 0)) := by rw [hwa]; exact blk_new w _
  have q1 : decide ((i : Int) < 0) = false := decide_eq_false (by omega)
  have q2 : decide ((es.length : Int) ≤ (i : Int)) = false := decide_eq_false (by omega)
  have q2' : decide ((i : Int) ≥ (es.length : Int)) = false := decide_eq_false (by omega)
  have z1 : (i : Int) < (es.length : Int) := by omega
  have z0 : (0 : Int) ≤ (i : Int) := by omega
  have x0 : wa.cell? ⟨w.heap.size, 0, none⟩ = some (.int .i64 0) := by rw [blk_cell hxa]; rfl
  have x1 : wa.cell? ⟨w.heap.size, 1, none⟩ = some (.int .i64 0) := by rw [blk_cell hxa]; rfl
  have f0 : wa.frozen? ⟨w.heap.size, 0, none⟩ = false := blk_frozen hxa 0
  have f1 : wa.frozen? ⟨w.heap.size, 1, none⟩ = false := blk_frozen hxa 1
  have HBA := Lib.hid hba
  have HWA := Lib.hid hwa
  clear h1 hE c0 c1 hi hba hwa
  go_enter Try.func26, Try.ntmps26
  go_upto_region 1 with (fail)
  rw [← HWA.out]
  go_wp2_with (fail)
  refine HM.out.mono ?_
  rintro e w' ⟨rfl, rfl⟩
  have HXA := Lib.hid hxa
  clear hxa
  go_wp2_with (fail)
  obtain ⟨w2, hw2⟩ : ∃ w2, w2 = (w'.setCell ⟨w.heap.size, 0, none⟩ (.int .i64 p1)).setCell ⟨w.heap.size, 1, none⟩ (.int .i64 p2) := ⟨_, rfl⟩
  have hx2 : w2.heap[w.heap.size]? = some (.cells #[.int .i64 p1, .int .i64 p2] 36 (0, 0)) := by rw [hw2]; exact blk_set (blk_set HXA.out 0 _) 1 _
  have hb2 : Below w.heap.size w w2 := by rw [hw2]; exact (HBA.out.setCell (p := ⟨w.heap.size, 0, none⟩) (Nat.le_refl _) _).setCell (p := ⟨w.heap.size, 1, none⟩) (Nat.le_refl _) _
  have y0 : w2.cell? ⟨w.heap.size, 0, none⟩ = some (.int .i64 p1) := by rw [blk_cell hx2]; rfl
  have y1 : w2.cell? ⟨w.heap.size, 1, none⟩ = some (.int .i64 p2) := by rw [blk_cell hx2]; rfl
  rw [← hw2]
  exact bodyPost_ret (v := .tuple #[.agg #[.int .i64 p1, .int .i64 p2], .bool true]) (by simp [results, Try.results26, go_sem, y0, y1]) rfl ⟨rfl, hb2⟩
end Go.Proofs.Ytbldlmolbdkabaa.HP
