/-
column.Table's Declare, Set, Get, List over the translation, of one column.
-/
import Derived.Test.YtbldlmolbdkabaaCbB
set_option linter.unusedVariables false
set_option linter.unusedSimpArgs false
namespace Go.Proofs.Ytbldlmolbdkabaa.HP
open Go.RowKit Go.Proofs.YtbldlmolbdkabaaW.PrintWords Go.Proofs.YtbldlmolbdkabaaW.PrintLast Go.Proofs.YtbldlmolbdkabaaW.PrintMore
open Go.ChangeMaps (setBlock heap_setBlock_same heap_setBlock_other)
section
variable {P : Program} {ops : Array Oper} {a : Act} {o : Oper} {K : Act → World → Prop} {Q : Exit → Act → World → Prop}
theorem step_mapUpdate {W w1 : World} (hw : Region.wanted o (yielded ops a.tmps) = true) (m x u : Operand) (t : TypeId) (ho : o.op = .mapUpdate t m x u) (mv key uv : Value) (hm : a.eval m = mv) (hx : a.eval x = key) (hu : a.eval u = uv) (hrun : (Instr.mapUpdate t mv key uv).run P W = .ok () w1) (h : K (a.put o.dst undef) w1) :
    if Region.wanted o (yielded ops a.tmps) = true then Oper.wp P o a W K Q else K (a.put o.dst undef) W := by
  rw [if_pos hw]
  unfold Oper.wp
  simp [execOp, ho, hm, hx, hu, hrun, Result.andThen]
  exact h
end
theorem hmk55 (n : Nat) (hn : n ≤ 1000000) (W : World) : (Instr.makeSlice 55 (.int .i64 (n : Int)) (.int .i64 (n : Int))).run Try.prog W = .ok (.slice (some ⟨W.heap.size, 0, none⟩) n n) (W.alloc (.cells (nums .i64 (List.replicate n 0)).toArray 22)) := by
  obtain ⟨i0, hi, hz0, hz1, hz2⟩ := info_parts info22
  have h := run_make (P := Try.prog) (w := W) 55 22 i0 _ Try.underlying55 hi hz0 .i64 .i64 (n : Int) (n : Int) (by omega) (Int.le_refl _) (by rw [hz2]; omega) (by omega)
  have e : madeCells (Value.int .i64 0).cells ((n : Int).toNat * i0.size) = (nums .i64 (List.replicate n 0)).toArray := by
    rw [Int.toNat_natCast, hz1, Nat.mul_one]
    unfold madeCells nums
    apply Array.ext_getElem?
    intro j
    by_cases hj : j < n
    · simp [hj, Value.cells, Nat.mod_one]
    · simp [hj]
  rw [h, e, Int.toNat_natCast]
set_option maxHeartbeats 8000000 in
set_option maxRecDepth 100000 in
theorem declare_calls (w : World) (base T n m M : Nat) (h : IsTab0 w T n m M) (hm : m ≤ 30) (hM : base ≤ M) (hbase : base ≤ w.heap.size) : Calls Try.prog 22 #[.pointer (some ⟨T, 0, none⟩), wkey, .int .u8 1] w fun e w' => e = .returned (.int .i64 0) ∧ (∃ C V, IsTab w' T n m M C V (List.replicate m 0) ∧ w.heap.size ≤ V) ∧ Below base w w' ∧ ∀ q, q < w.heap.size → q ≠ M → w'.heap[q]? = w.heap[q]? := by
  obtain ⟨wa, hwa⟩ : ∃ wa, wa = w.alloc (.cells #[.string ⟨#[119]⟩, .int .u8 3] 48) := ⟨_, rfl⟩
  have hba : Below w.heap.size w wa := by rw [hwa]; exact (Below.refl _ w).alloc (Nat.le_refl _) _
  have hxa : wa.heap[w.heap.size]? = some (.cells #[.string ⟨#[119]⟩, .int .u8 3] 48 (0, 0)) := by rw [hwa]; exact blk_new w _
  have x0 : wa.cell? ⟨w.heap.size, 0, none⟩ = some (.string ⟨#[119]⟩) := by rw [blk_cell hxa]; rfl
  have HN := Lib.hid (name_calls wa)
  have HWA := Lib.hid hwa
  have HBA := Lib.hid hba
  have HXA := Lib.hid hxa
  have HT := Lib.hid h
  clear h hba hxa hwa
  go_enter Try.func22, Try.ntmps22
  go_upto_region 1 with (fail)
  rw [← HWA.out]
  go_wp2_with (fail)
  refine HN.out.mono ?_
  rintro e wb ⟨rfl, hbb⟩
  have hbw : Below w.heap.size w wb := below_then HBA.out HBA.out.size hbb
  have hxb := blk_below HXA.out hbb
  have ho := blk_below HT.out.1 hbw
  have hmb := blk_below HT.out.2 hbw
  have hlook : (Instr.lookup 74 (.map (some M)) (.agg #[.string ⟨#[119]⟩, .int .u8 3]) true).run Try.prog wb.drew = .ok (.tuple #[.pointer none, .bool false]) wb.drew := look_none (w := wb.drew) hmb
  have c2 : wb.cell? ⟨T, 2, none⟩ = some (.map (some M)) := by rw [blk_cell ho]; rfl
  have y0 : wb.cell? ⟨w.heap.size, 0, none⟩ = some (.string ⟨#[119]⟩) := by rw [blk_cell hxb]; rfl
  have y1 : wb.cell? ⟨w.heap.size, 1, none⟩ = some (.int .u8 3) := by rw [blk_cell hxb]; rfl
  have HBW := Lib.hid hbw
  have HXB := Lib.hid hxb
  have HO := Lib.hid ho
  have HMB := Lib.hid hmb
  clear hbw hxb ho hmb x0 hbb
  go_upto_region 7 with (fail)
  go_cut [8] (fun v8 wx => v8 = .bool false ∧ Hid (wx = wb.drew))
  case first =>
    go_region_with (fail)
    all_goals
      go_wp2_with (fail)
      go_meet
      case rel => exact ⟨rfl, rfl⟩
  case rest =>
    obtain ⟨rfl, hwx⟩ := hcut
    obtain ⟨wd, hwd⟩ : ∃ wd, wd = wc := ⟨_, rfl⟩
    subst hwd
    have hod : wd.heap[T]? = some (.cells #[.int .i64 (n : Int), .int .i64 (m : Int), .map (some M)] 76 (0, 0)) := by rw [hwx.out]; exact HO.out
    have hmd : wd.heap[M]? = some (.map #[] 0) := by rw [hwx.out]; exact HMB.out
    have hxd : wd.heap[w.heap.size]? = some (.cells #[.string ⟨#[119]⟩, .int .u8 3] 48 (0, 0)) := by rw [hwx.out]; exact HXB.out
    have hbd : Below w.heap.size w wd := by rw [hwx.out]; exact below_drew HBW.out
    have d2 : wd.cell? ⟨T, 2, none⟩ = some (.map (some M)) := by rw [blk_cell hod]; rfl
    clear c2 y0 y1 hlook
    have hlen : (Builtin.len_ #[74] 3 #[Value.map (some M)]).run Try.prog wd = .ok (.int .i64 0) wd := by simp [Builtin.len_, run_underlying Try.underlying74, MapKept.run_getObj_map hmd, goInt, Result.andThen]
    obtain ⟨W2, hW2⟩ : ∃ W2, W2 = (wd.alloc (.cells (nums .i64 (List.replicate m 0)).toArray 22)).drew := ⟨_, rfl⟩
    have hb2 : Below wd.heap.size wd W2 := by rw [hW2]; exact below_drew ((Below.refl _ _).alloc (Nat.le_refl _) _)
    have hv2 : W2.heap[wd.heap.size]? = some (.cells (nums .i64 (List.replicate m 0)).toArray 22 (0, 0)) := by rw [hW2]; exact blk_new wd _
    have s2 : W2.heap.size = wd.heap.size + 1 := by rw [hW2]; exact World.size_alloc wd _
    obtain ⟨W3, hW3⟩ : ∃ W3, W3 = W2.alloc (.cells #[.int .u8 1, .slice (some ⟨wd.heap.size, 0, none⟩) m m] 82) := ⟨_, rfl⟩
    have hb3 : Below wd.heap.size wd W3 := by rw [hW3]; exact hb2.alloc hb2.size _
    have hv3 : W3.heap[wd.heap.size]? = some (.cells (nums .i64 (List.replicate m 0)).toArray 22 (0, 0)) := by rw [hW3]; exact blk_alloc hv2 _
    have hc3 : W3.heap[wd.heap.size + 1]? = some (.cells #[.int .u8 1, .slice (some ⟨wd.heap.size, 0, none⟩) m m] 82 (0, 0)) := by rw [hW3, ← s2]; exact blk_new W2 _
    have hm3 := blk_below hmd hb3
    obtain ⟨es, clock, hput, htm⟩ := put_one hm3 (wd.heap.size + 1)
    have hother : ∀ q, q ≠ M → (setBlock W3 M (.map es clock)).heap[q]? = W3.heap[q]? := fun q hq => heap_setBlock_other hm3 _ hq
    have hne : ∀ {q t : Nat} {cs : Array Value}, W3.heap[q]? = some (.cells cs t (0, 0)) → q ≠ M := fun h e => by rw [e, hm3] at h; cases h
    have hgx : W3.grownBy (setBlock W3 M (.map es clock)) (some M) := ⟨rfl, rfl, rfl, by simp [setBlock], fun i _ hi => heap_setBlock_other hm3 _ (fun e1 => hi (by rw [e1]))⟩
    have ho3 := blk_below hod hb3
    have hx3 := blk_below hxd hb3
    have hsd := hbd.size
    have hs3 := hb3.size
    have hfin : IsTab (setBlock W3 M (.map es clock)) T n m M (wd.heap.size + 1) wd.heap.size (List.replicate m 0) := ⟨(hother T (hne ho3)).trans ho3, htm, (hother _ (hne hc3)).trans hc3, (hother _ (hne hv3)).trans hv3, by simp⟩
    have hbw3 : Below w.heap.size w W3 := below_then hbd hbd.size hb3
    have hbB : Below base w W3 := hbw3.mono hbase
    have hbx : Below base w (setBlock W3 M (.map es clock)) := hbB.grown hgx (by omega) (fun k hk => by injection hk with hk; rw [← hk]; exact hM)
    have HOTH : Hid (∀ q, q < w.heap.size → q ≠ M → (setBlock W3 M (.map es clock)).heap[q]? = w.heap[q]?) := fun q h1 h2 => (hother q h2).trans (hbw3.block q h1)
    have HFIN := Lib.hid hfin
    have HBX := Lib.hid hbx
    have HPUT := Lib.hid hput
    have HS0 : Hid (wd.drew.cell? ⟨T, 2, none⟩ = some (.map (some M)) ∧ wd.drew.cell? ⟨w.heap.size, 0, none⟩ = some (.string ⟨#[119]⟩) ∧ wd.drew.cell? ⟨w.heap.size, 1, none⟩ = some (.int .u8 3)) := ⟨d2, by show wd.cell? _ = _; rw [blk_cell hxd]; rfl, by show wd.cell? _ = _; rw [blk_cell hxd]; rfl⟩
    have HS2 : Hid (W2.cell? ⟨T, 2, none⟩ = some (.map (some M)) ∧ W2.cell? ⟨w.heap.size, 0, none⟩ = some (.string ⟨#[119]⟩) ∧ W2.cell? ⟨w.heap.size, 1, none⟩ = some (.int .u8 3)) := ⟨by rw [blk_cell (blk_below hod hb2)]; rfl, by rw [blk_cell (blk_below hxd hb2)]; rfl, by rw [blk_cell (blk_below hxd hb2)]; rfl⟩
    have HS3 : Hid (W3.cell? ⟨T, 2, none⟩ = some (.map (some M)) ∧ W3.cell? ⟨w.heap.size, 0, none⟩ = some (.string ⟨#[119]⟩) ∧ W3.cell? ⟨w.heap.size, 1, none⟩ = some (.int .u8 3)) := ⟨by rw [blk_cell ho3]; rfl, by rw [blk_cell hx3]; rfl, by rw [blk_cell hx3]; rfl⟩
    have HS4 : Hid ((setBlock W3 M (.map es clock)).cell? ⟨T, 2, none⟩ = some (.map (some M)) ∧ (setBlock W3 M (.map es clock)).cell? ⟨w.heap.size, 0, none⟩ = some (.string ⟨#[119]⟩) ∧ (setBlock W3 M (.map es clock)).cell? ⟨w.heap.size, 1, none⟩ = some (.int .u8 3)) := ⟨by rw [blk_cell hfin.obj]; rfl, by rw [blk_cell ((hother _ (hne hx3)).trans hx3)]; rfl, by rw [blk_cell ((hother _ (hne hx3)).trans hx3)]; rfl⟩
    have HLEN := Lib.hid (tlen_calls wd.drew T n m M hod)
    have HV : Hid (w.heap.size ≤ wd.heap.size) := hsd
    have HW2 := Lib.hid hW2
    have HW3 := Lib.hid hW3
    have hmk := hmk55 m (by omega)
    clear hod hmd hxd hbd hb2 hv2 hb3 hv3 hc3 hm3 hput htm hother hne hgx ho3 hx3 hfin hbw3 hbB hbx hs3 hsd hW2 hW3
    go_upto_region 12 with (fail)
    clear hlen
    refine wp_region_any (by kernel_rfl) ?_
    change wpAny _ _ _ _ _ _ _ (World.drew wd)
    have hHeld : (fun w' : World => w'.cell? ⟨T, 2, none⟩ = some (.map (some M)) ∧ w'.cell? ⟨w.heap.size, 0, none⟩ = some (.string ⟨#[119]⟩) ∧ w'.cell? ⟨w.heap.size, 1, none⟩ = some (.int .u8 3)) wd.drew := HS0.out
    refine wpAny_of_held (S := fun w' : World => w'.cell? ⟨T, 2, none⟩ = some (.map (some M)) ∧ w'.cell? ⟨w.heap.size, 0, none⟩ = some (.string ⟨#[119]⟩) ∧ w'.cell? ⟨w.heap.size, 1, none⟩ = some (.int .u8 3)) _ _ _ _ ?_
    refine take_at (i := 0) (d := 50) (v := ?_) rfl rfl (by kernel_rfl) (by kernel_rfl) (by kernel_rfl) (fun _ _ _ h => h) (Or.inl ⟨by rfl, ?hy0z⟩) (by assumption) ?rest0z
    case hy0z => intro w' hSw; (try dsimp only at hSw); obtain ⟨s1, s2, s3⟩ := hSw; go_simp; try with_reducible rfl
    simp only [List.setIfInBounds_toArray, List.set_cons_zero, List.set_cons_succ]
    refine take_at (i := 1) (d := 51) (v := ?_) rfl rfl (by kernel_rfl) (by kernel_rfl) (by kernel_rfl) (fun _ _ _ h => h) (Or.inl ⟨by rfl, ?hy1z⟩) (by assumption) ?rest1z
    case hy1z => intro w' hSw; (try dsimp only at hSw); obtain ⟨s1, s2, s3⟩ := hSw; go_simp; try with_reducible rfl
    simp only [List.setIfInBounds_toArray, List.set_cons_zero, List.set_cons_succ]
    refine take_at (i := 2) (d := 52) (v := ?_) rfl rfl (by kernel_rfl) (by kernel_rfl) (by kernel_rfl) (fun _ _ _ h => h) (Or.inl ⟨by rfl, ?hy2z⟩) (by assumption) ?rest2z
    case hy2z => intro w' hSw; (try dsimp only at hSw); obtain ⟨s1, s2, s3⟩ := hSw; go_simp; try with_reducible rfl
    simp only [List.setIfInBounds_toArray, List.set_cons_zero, List.set_cons_succ]
    refine take_at (i := 3) (d := 53) (v := ?_) rfl rfl (by kernel_rfl) (by kernel_rfl) (by kernel_rfl) (fun _ _ _ h => h) (Or.inl ⟨by rfl, ?hy3z⟩) (by assumption) ?rest3z
    case hy3z => intro w' hSw; (try dsimp only at hSw); obtain ⟨s1, s2, s3⟩ := hSw; go_simp; try with_reducible rfl
    simp only [List.setIfInBounds_toArray, List.set_cons_zero, List.set_cons_succ]
    refine take_at (i := 4) (d := 54) (v := ?_) rfl rfl (by kernel_rfl) (by kernel_rfl) (by kernel_rfl) (fun _ _ _ h => h) (Or.inl ⟨by rfl, ?hy4z⟩) (by assumption) ?rest4z
    case hy4z => intro w' hSw; (try dsimp only at hSw); obtain ⟨s1, s2, s3⟩ := hSw; go_simp; try with_reducible rfl
    simp only [List.setIfInBounds_toArray, List.set_cons_zero, List.set_cons_succ]
    refine take_at (i := 5) (d := 55) (v := ?_) rfl rfl (by kernel_rfl) (by kernel_rfl) (by kernel_rfl) (fun _ _ _ h => h) (Or.inl ⟨by rfl, ?hy5z⟩) (by assumption) ?rest5z
    case hy5z => intro w' hSw; (try dsimp only at hSw); obtain ⟨s1, s2, s3⟩ := hSw; go_simp; try with_reducible rfl
    simp only [List.setIfInBounds_toArray, List.set_cons_zero, List.set_cons_succ]
    refine take_at (i := 6) (d := 56) (v := ?_) rfl rfl (by kernel_rfl) (by kernel_rfl) (by kernel_rfl) (fun _ _ _ h => h) (Or.inl ⟨by rfl, ?hy6z⟩) (by assumption) ?rest6z
    case hy6z => intro w' hSw; (try dsimp only at hSw); obtain ⟨s1, s2, s3⟩ := hSw; go_simp; try with_reducible rfl
    simp only [List.setIfInBounds_toArray, List.set_cons_zero, List.set_cons_succ]
    refine take_at (i := 7) (d := 57) (v := ?_) rfl rfl (by kernel_rfl) (by kernel_rfl) (by kernel_rfl) (fun _ _ _ h => h) (Or.inl ⟨by rfl, ?hy7z⟩) (by assumption) ?rest7z
    case hy7z => intro w' hSw; (try dsimp only at hSw); obtain ⟨s1, s2, s3⟩ := hSw; go_simp; try with_reducible rfl
    simp only [List.setIfInBounds_toArray, List.set_cons_zero, List.set_cons_succ]
    refine take_at (i := 8) (d := 58) (v := ?_) rfl rfl (by kernel_rfl) (by kernel_rfl) (by kernel_rfl) (fun _ _ _ h => h) (Or.inl ⟨by rfl, ?hy8z⟩) (by assumption) ?rest8z
    case hy8z => intro w' hSw; (try dsimp only at hSw); obtain ⟨s1, s2, s3⟩ := hSw; go_simp; try with_reducible rfl
    simp only [List.setIfInBounds_toArray, List.set_cons_zero, List.set_cons_succ]
    refine wpAnyH_ready (rs := [9]) (by kernel_rfl) (by simp) ?_
    refine AllReadyH.cons rfl (fun K hK => ?_) AllReadyH.nil
    go_simp
    refine HLEN.out.mono ?_
    rintro e w' ⟨rfl, rfl⟩
    refine hK.out _ _ HS0.out (fun hHeld => ?_)
    clear hK K
    try simp only [Act.put, List.setIfInBounds_toArray, List.set_cons_zero, List.set_cons_succ]
    refine wpAnyH_ready (rs := [10]) (by kernel_rfl) (by simp) ?_
    refine AllReadyH.cons rfl (fun K hK => ?_) AllReadyH.nil
    go_simp
    rw [← HW2.out]
    refine hK.out _ _ HS2.out (fun hHeld => ?_)
    clear hK K
    try simp only [Act.put, List.setIfInBounds_toArray, List.set_cons_zero, List.set_cons_succ]
    refine take_at (i := 11) (d := 61) (v := ?_) rfl rfl (by kernel_rfl) (by kernel_rfl) (by kernel_rfl) (fun _ _ _ h => h) (Or.inl ⟨by rfl, ?hy11z⟩) (by assumption) ?rest11z
    case hy11z => intro w' hSw; (try dsimp only at hSw); obtain ⟨s1, s2, s3⟩ := hSw; go_simp; try with_reducible rfl
    simp only [List.setIfInBounds_toArray, List.set_cons_zero, List.set_cons_succ]
    refine wpAnyH_ready (rs := [12]) (by kernel_rfl) (by simp) ?_
    refine AllReadyH.cons rfl (fun K hK => ?_) AllReadyH.nil
    go_simp
    rw [← HW3.out]
    refine hK.out _ _ HS3.out (fun hHeld => ?_)
    clear hK K
    try simp only [Act.put, List.setIfInBounds_toArray, List.set_cons_zero, List.set_cons_succ]
    refine wpAnyH_ready (rs := [13]) (by kernel_rfl) (by simp) ?_
    refine AllReadyH.cons rfl (fun K hK => ?_) AllReadyH.nil
    refine step_mapUpdate rfl (.tmp 53) (.tmp 54) (.tmp 62) 74 rfl (.map (some M)) wkey (.pointer (some ⟨wd.heap.size + 1, 0, none⟩)) rfl rfl rfl HPUT.out ?_
    refine hK.out _ _ HS4.out (fun hHeld => ?_)
    clear hK K
    refine wpAnyH_done (by kernel_rfl) ?_ _
    go_wp2
    go_ret
    exact ⟨rfl, ⟨_, _, HFIN.out, HV.out⟩, HBX.out, HOTH.out⟩
--END DECLARE
theorem nums_set (ws : List Int) (i : Nat) (x : Int) : (nums .i64 ws).toArray.setIfInBounds i (.int .i64 x) = (nums .i64 (ws.set i x)).toArray := by
  unfold nums
  apply Array.ext'
  rw [Array.toList_setIfInBounds, List.map_set]
theorem IsTab.put {w : World} {T n m M C V : Nat} {ws : List Int} (h : IsTab w T n m M C V ws) (i : Nat) (x : Int) : IsTab (w.setCell ⟨V, i, none⟩ (.int .i64 x)) T n m M C V (ws.set i x) := by
  obtain ⟨me, clock, hm, _⟩ := h.map
  have hMV : M ≠ V := fun e => by rw [e, h.row] at hm; cases hm
  refine ⟨blk_far h.obj (blk_ne h.obj h.row (by decide)) _, h.map.move (Below.heap_setCell w ⟨V, i, none⟩ _ M hMV), blk_far h.col (blk_ne h.col h.row (by decide)) _, ?_, by rw [List.length_set]; exact h.len⟩
  rw [← nums_set]
  exact blk_set h.row i _
set_option maxHeartbeats 8000000 in
set_option maxRecDepth 100000 in
theorem set_calls (w : World) (T n m M C V : Nat) (ws : List Int) (h : IsTab w T n m M C V ws) (i : Nat) (hi : i < m) (hm : m ≤ 30) (x : Int) : Calls Try.prog 23 #[.pointer (some ⟨T, 0, none⟩), wkey, .int .i64 (i : Int), .int .i64 x] w fun e w' => e = .returned (.int .i64 0) ∧ IsTab w' T n m M C V (ws.set i x) ∧ Below V w w' := by
  have hVlt := blk_lt h.row
  obtain ⟨wa, hwa⟩ : ∃ wa, wa = w.alloc (.cells #[.string ⟨#[119]⟩, .int .u8 3] 48) := ⟨_, rfl⟩
  have hba : Below w.heap.size w wa := by rw [hwa]; exact (Below.refl _ w).alloc (Nat.le_refl _) _
  have hxa : wa.heap[w.heap.size]? = some (.cells #[.string ⟨#[119]⟩, .int .u8 3] 48 (0, 0)) := by rw [hwa]; exact blk_new w _
  have x0 : wa.cell? ⟨w.heap.size, 0, none⟩ = some (.string ⟨#[119]⟩) := by rw [blk_cell hxa]; rfl
  have x1 : wa.cell? ⟨w.heap.size, 1, none⟩ = some (.int .u8 3) := by rw [blk_cell hxa]; rfl
  have HG := Lib.hid (get_calls wa T n m M C V ws (h.below hba))
  have HWA := Lib.hid hwa
  have HBA := Lib.hid hba
  have HT := Lib.hid h
  clear h hba hxa hwa
  go_enter Try.func23, Try.ntmps23
  go_upto_region 1 with (fail)
  rw [← HWA.out]
  go_wp2_with (fail)
  refine HG.out.mono ?_
  rintro e wb ⟨rfl, hbb⟩
  have hbw : Below w.heap.size w wb := below_then HBA.out HBA.out.size hbb
  have hb := HT.out.below hbw
  have c1 : wb.cell? ⟨C, 1, none⟩ = some (.slice (some ⟨V, 0, none⟩) m m) := by rw [blk_cell hb.col]; rfl
  have q1 : decide ((i : Int) < 0) = false := decide_eq_false (by omega)
  have q2 : decide ((m : Int) ≤ (i : Int)) = false := decide_eq_false (by omega)
  have q2' : decide ((i : Int) ≥ (m : Int)) = false := decide_eq_false (by omega)
  have z1 : (i : Int) < (m : Int) := by omega
  have z0 : (0 : Int) ≤ (i : Int) := by omega
  obtain ⟨wd, hwd⟩ : ∃ wd, wd = wb.alloc (.cells #[.int .i64 x] 22) := ⟨_, rfl⟩
  have hbd : Below wb.heap.size wb wd := by rw [hwd]; exact (Below.refl _ wb).alloc (Nat.le_refl _) _
  have hd := hb.below hbd
  have hxd : wd.heap[wb.heap.size]? = some (.cells #[.int .i64 x] 22 (0, 0)) := by rw [hwd]; exact blk_new wb _
  have HF := Lib.hid (fits_calls wd C wb.heap.size (.slice (some ⟨V, 0, none⟩) m m) x hd.col hxd)
  have d1 : wd.cell? ⟨C, 1, none⟩ = some (.slice (some ⟨V, 0, none⟩) m m) := by rw [blk_cell hd.col]; rfl
  have e1 := hd.cell hi
  have f1 : wd.frozen? ⟨V, i, none⟩ = false := blk_frozen hd.row i
  have HFIN : Hid (IsTab (wd.setCell ⟨V, i, none⟩ (.int .i64 x)) T n m M C V (ws.set i x) ∧ Below V w (wd.setCell ⟨V, i, none⟩ (.int .i64 x))) := by
    refine ⟨hd.put i x, ?_⟩
    have h1 : Below w.heap.size w wd := below_then hbw hbw.size hbd
    exact (h1.mono (B' := V) (Nat.le_of_lt hVlt)).setCell (p := ⟨V, i, none⟩) (Nat.le_refl _) _
  have HWD := Lib.hid hwd
  clear hbw hb hbd hd hxd hwd hbb x0 x1
  go_upto_region 6 with (fail)
  go_wp2_with (fail)
  rw [← HWD.out]
  refine HF.out.mono ?_
  rintro e w' ⟨rfl, rfl⟩
  clear c1
  go_wp2
  go_ret
  exact ⟨rfl, HFIN.out.1, HFIN.out.2⟩
set_option maxHeartbeats 8000000 in
set_option maxRecDepth 100000 in
theorem tget_calls (w : World) (T n m M C V : Nat) (ws : List Int) (h : IsTab w T n m M C V ws) (i : Nat) (hi : i < m) (hm : m ≤ 30) : Calls Try.prog 25 #[.pointer (some ⟨T, 0, none⟩), wkey, .int .i64 (i : Int)] w fun e w' => e = .returned (.tuple #[.int .i64 (ws.getD i 0), .int .i64 0]) ∧ Below w.heap.size w w' := by
  obtain ⟨y, hy⟩ : ∃ y, y = ws.getD i 0 := ⟨_, rfl⟩
  rw [← hy]
  have HY := Lib.hid hy
  clear hy
  obtain ⟨wa, hwa⟩ : ∃ wa, wa = w.alloc (.cells #[.string ⟨#[119]⟩, .int .u8 3] 48) := ⟨_, rfl⟩
  have hba : Below w.heap.size w wa := by rw [hwa]; exact (Below.refl _ w).alloc (Nat.le_refl _) _
  have hxa : wa.heap[w.heap.size]? = some (.cells #[.string ⟨#[119]⟩, .int .u8 3] 48 (0, 0)) := by rw [hwa]; exact blk_new w _
  have x0 : wa.cell? ⟨w.heap.size, 0, none⟩ = some (.string ⟨#[119]⟩) := by rw [blk_cell hxa]; rfl
  have x1 : wa.cell? ⟨w.heap.size, 1, none⟩ = some (.int .u8 3) := by rw [blk_cell hxa]; rfl
  have HG := Lib.hid (get_calls wa T n m M C V ws (h.below hba))
  have HWA := Lib.hid hwa
  have HBA := Lib.hid hba
  have HT := Lib.hid h
  clear h hba hxa hwa
  go_enter Try.func25, Try.ntmps25
  go_upto_region 1 with (fail)
  rw [← HWA.out]
  go_wp2_with (fail)
  refine HG.out.mono ?_
  rintro e wb ⟨rfl, hbb⟩
  have hbw : Below w.heap.size w wb := below_then HBA.out HBA.out.size hbb
  have hb := HT.out.below hbw
  have c1 : wb.cell? ⟨C, 1, none⟩ = some (.slice (some ⟨V, 0, none⟩) m m) := by rw [blk_cell hb.col]; rfl
  have e1 := hb.cell hi
  have q1 : decide ((i : Int) < 0) = false := decide_eq_false (by omega)
  have q2 : decide ((m : Int) ≤ (i : Int)) = false := decide_eq_false (by omega)
  have q2' : decide ((i : Int) ≥ (m : Int)) = false := decide_eq_false (by omega)
  have z1 : (i : Int) < (m : Int) := by omega
  have z0 : (0 : Int) ≤ (i : Int) := by omega
  rw [← HY.out] at e1
  have HBW := Lib.hid hbw
  clear hbw hb hbb x0 x1
  go_wp2
  exact bodyPost_ret (v := .tuple #[.int .i64 y, .int .i64 0]) (by simp [results, Try.results25, go_sem]) rfl ⟨rfl, HBW.out⟩
theorem row_irow {w : World} {V : Nat} {t : TypeId} {ws : List Int} (h : w.heap[V]? = some (.cells (nums .i64 ws).toArray t (0, 0))) : IRow w (some ⟨V, 0, none⟩) ws := by
  intro j hj
  refine ⟨V, 0, rfl, blk_lt h, ?_⟩
  rw [blk_cell h, Nat.zero_add]
  simp [nums, List.getD_eq_getElem?_getD, List.getElem?_eq_getElem hj]
set_option maxHeartbeats 8000000 in
set_option maxRecDepth 100000 in
theorem list_calls (w : World) (T n m M C V : Nat) (ws : List Int) (h : IsTab w T n m M C V ws) (hm : m ≤ 30) : Calls Try.prog 27 #[.pointer (some ⟨T, 0, none⟩), wkey] w fun e w' => ∃ A c, e = .returned (.slice A m c) ∧ Below w.heap.size w w' := by
  obtain ⟨wa, hwa⟩ : ∃ wa, wa = w.alloc (.cells #[.string ⟨#[119]⟩, .int .u8 3] 48) := ⟨_, rfl⟩
  have hba : Below w.heap.size w wa := by rw [hwa]; exact (Below.refl _ w).alloc (Nat.le_refl _) _
  have hxa : wa.heap[w.heap.size]? = some (.cells #[.string ⟨#[119]⟩, .int .u8 3] 48 (0, 0)) := by rw [hwa]; exact blk_new w _
  have x0 : wa.cell? ⟨w.heap.size, 0, none⟩ = some (.string ⟨#[119]⟩) := by rw [blk_cell hxa]; rfl
  have x1 : wa.cell? ⟨w.heap.size, 1, none⟩ = some (.int .u8 3) := by rw [blk_cell hxa]; rfl
  have HG := Lib.hid (get_calls wa T n m M C V ws (h.below hba))
  have HWA := Lib.hid hwa
  have HBA := Lib.hid hba
  have HT := Lib.hid h
  clear h hba hxa hwa
  go_enter Try.func27, Try.ntmps27
  go_upto_region 1 with (fail)
  rw [← HWA.out]
  go_wp2_with (fail)
  refine HG.out.mono ?_
  rintro e wb ⟨rfl, hbb⟩
  have hbw : Below w.heap.size w wb := below_then HBA.out HBA.out.size hbb
  have hb := HT.out.below hbw
  have c1 : wb.cell? ⟨C, 1, none⟩ = some (.slice (some ⟨V, 0, none⟩) m m) := by rw [blk_cell hb.col]; rfl
  have hcl := clone22_calls wb (some ⟨V, 0, none⟩) m ws (row_irow hb.row) (by have := hb.len; omega)
  rw [hb.len] at hcl
  have HCL := Lib.hid hcl
  have HLEN := Lib.hid hb.len
  have HBW := Lib.hid hbw
  clear hbw hb hbb x0 x1 hcl
  go_wp2_with (fail)
  refine HCL.out.mono ?_
  rintro e w2 ⟨v, rfl, ho, hb2⟩
  obtain ⟨A, c, rfl⟩ := own_slice ho
  have HB2 := Lib.hid (below_then HBW.out HBW.out.size hb2)
  clear ho hb2
  rw [HLEN.out]
  go_wp2
  go_ret
  exact ⟨A, c, rfl, HB2.out⟩
end Go.Proofs.Ytbldlmolbdkabaa.HP
