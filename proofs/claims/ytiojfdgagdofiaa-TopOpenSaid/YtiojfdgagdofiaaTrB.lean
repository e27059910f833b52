/-
The contract of parser.add, over the translation: it adds a form where it stands.
-/
import Derived.Test.YtiojfdgagdofiaaTrA
import Derived.Test.YtiojfdgagdofiaaHk3
set_option linter.unusedVariables false
set_option linter.unusedSimpArgs false
namespace Go.Proofs.Ytiojfdgagdofiaa.HP
open Go.RowKit Go.Proofs.Ytiojfdgagdofiaa.HK Go.Proofs.YtiojfdgagdofiaaW.PrintWords Go.Proofs.YtiojfdgagdofiaaW.PrintLast Go.Proofs.YtiojfdgagdofiaaW.PrintMore

theorem info40 : (Try.prog.info? 40).map (fun i => (i.zero, i.size, i.bytes)) = some (some (.agg #[.int .u8 0, .string ⟨#[]⟩, .int .i64 0, .slice none 0 0, .int .i64 0]), 5, 64) := by kernel_rfl
theorem info3 : (Try.prog.info? 3).map (fun i => (i.zero, i.size, i.bytes)) = some (some (.int .i64 0), 1, 8) := by kernel_rfl
variable {w0 w : World} {fs : List FormP} {fv : Value} {vs : Nat → Value} {ls : Nat → List Int}
theorem IsParser.addForm (h : IsParser w0 w fs fv vs ls) {w3 : World} {fv3 : Value} {f : FormP} (hown : w3.ownsRow w0.heap.size 40 5 fv3 (fs.length + 1) (fcells fs 2 vs ++ fcell f (.slice none 0 0))) (hg : w.grownBy w3 fv.ownBlock) (hb : Below w0.heap.size w0 w3) :
    IsParser w0 (w3.setCell ⟨w0.heap.size, 0, none⟩ fv3) (fs ++ [f]) fv3 (upd vs (fs.length + 2) (.slice none 0 0)) (upd ls (fs.length + 2) []) := by
  obtain ⟨h1, h2, h3, h4⟩ := h
  have hg3 : w3.heap[w0.heap.size]? = some (.cells #[fv, vs 0, vs 1] 70 (0, 0)) := blk_grown h1 hg (own_ne h2 h1 (by decide))
  refine ⟨?_, ?_, ?_, hb.setCell (p := ⟨w0.heap.size, 0, none⟩) (Nat.le_refl _) _⟩
  · rw [upd_other _ _ (by omega), upd_other _ _ (by omega)]
    exact blk_set hg3 0 _
  · rw [fcells_snoc, List.length_append, List.length_singleton, show 2 + fs.length = fs.length + 2 by omega, upd_same, fcells_congr fs 2 (upd vs (fs.length + 2) (.slice none 0 0)) vs (fun j h1 h2 => upd_other _ _ (by omega))]
    exact own_setCell hown (own_ne hown hg3 (by decide)) _
  · rw [List.length_append, List.length_singleton, show fs.length + 1 + 2 = fs.length + 2 + 1 by omega]
    exact ((h3.grown h2 (by decide) hg).more).far hg3 (by decide) 0 _
theorem IsParser.pushRow (h : IsParser w0 w fs fv vs ls) {i : Nat} (hi : i < 2) {w1 : World} {v1 : Value} {x : Int} (hown : w1.ownsRow w0.heap.size 3 1 v1 ((ls i).length + 1) (nums .i64 (ls i) ++ [.int .i64 x])) (hg : w.grownBy w1 (vs i).ownBlock)
    (hat : v1.ownBlock = (vs i).ownBlock ∨ ∃ b, v1.ownBlock = some b ∧ w.heap.size ≤ b) (hb : Below w0.heap.size w0 w1) : IsParser w0 (w1.setCell ⟨w0.heap.size, 1 + i, none⟩ v1) fs fv (upd vs i v1) (upd ls i (ls i ++ [x])) := by
  obtain ⟨h1, h2, h3, h4⟩ := h
  have hr := h3.1 i (by omega)
  have hg3 : w1.heap[w0.heap.size]? = some (.cells #[fv, vs 0, vs 1] 70 (0, 0)) := blk_grown h1 hg (own_ne hr h1 (by decide))
  have h2' : w1.ownsRow w0.heap.size 40 5 fv fs.length (fcells fs 2 vs) := own_other h2 hg (own_type_ne h2 hr (by decide))
  refine ⟨?_, ?_, ?_, hb.setCell (p := ⟨w0.heap.size, 1 + i, none⟩) (Nat.le_refl _) _⟩
  · have := blk_set hg3 (1 + i) v1
    rw [this]
    match i, hi with
    | 0, _ => rfl
    | 1, _ => rfl
  · rw [fcells_congr fs 2 (upd vs i v1) vs (fun j h1 h2 => upd_other _ _ (by omega))]
    exact own_setCell h2' (own_ne h2' hg3 (by decide)) _
  · exact (h3.appended (by omega) hown hg hat).far hg3 (by decide) (1 + i) _
theorem IsParser.pushKid (h : IsParser w0 w fs fv vs ls) {b F cap : Nat} (hbl : b < fs.length) (hfv : fv = .slice (some ⟨F, 0, none⟩) fs.length cap) {w1 : World} {v1 : Value} {x : Int} (hown : w1.ownsRow w0.heap.size 3 1 v1 ((ls (b + 2)).length + 1) (nums .i64 (ls (b + 2)) ++ [.int .i64 x])) (hg : w.grownBy w1 (vs (b + 2)).ownBlock)
    (hat : v1.ownBlock = (vs (b + 2)).ownBlock ∨ ∃ k, v1.ownBlock = some k ∧ w.heap.size ≤ k) (hb : Below w0.heap.size w0 w1) : IsParser w0 (w1.setCell ⟨F, b * 5 + 3, none⟩ v1) fs fv (upd vs (b + 2) v1) (upd ls (b + 2) (ls (b + 2) ++ [x])) := by
  obtain ⟨h1, h2, h3, h4⟩ := h
  have hr := h3.1 (b + 2) (by omega)
  have hg3 : w1.heap[w0.heap.size]? = some (.cells #[fv, vs 0, vs 1] 70 (0, 0)) := blk_grown h1 hg (own_ne hr h1 (by decide))
  have h2' : w1.ownsRow w0.heap.size 40 5 fv fs.length (fcells fs 2 vs) := own_other h2 hg (own_type_ne h2 hr (by decide))
  have hFb : fv.ownBlock = some F := by rw [hfv]; rfl
  obtain ⟨cells, hF⟩ := own_typed h2' F hFb
  have hFB := own_base h2' F hFb
  refine ⟨?_, ?_, ?_, hb.setCell (p := ⟨F, b * 5 + 3, none⟩) hFB _⟩
  · rw [upd_other _ _ (by omega), upd_other _ _ (by omega), Below.heap_setCell w1 _ _ _ (fun e => blk_ne hF hg3 (by decide) (by have e' : w0.heap.size = F := e; exact e'.symm))]
    exact hg3
  · have hs := fcells_set fs 2 vs b v1 hbl
    rw [show 2 + b = b + 2 by omega] at hs
    rw [← hs]
    rw [hfv] at h2' ⊢
    exact (h2'.stored (b * 5 + 3) v1).1
  · exact (h3.appended (by omega) hown hg hat).far hF (by decide) _ _
/-- Where the open one stands. -/
def lastOpen (l : List Int) : Nat := (l.getD (l.length - 1) 0).toNat
def addLs (n : Nat) (k : Int) (ls : Nat → List Int) : Nat → List Int :=
  let l1 := upd ls (n + 2) []
  let l2 := if (ls 1).length = 0 then upd l1 0 (l1 0 ++ [(n : Int)]) else upd l1 (lastOpen (ls 1) + 2) (l1 (lastOpen (ls 1) + 2) ++ [(n : Int)])
  if k = 1 then upd l2 1 (l2 1 ++ [(n : Int)]) else l2
theorem form_one (f : FormP) : ∀ u ∈ fcell f (.slice none 0 0), u.oneCell' = true := by
  intro u hu
  simp [fcell] at hu
  rcases hu with rfl | rfl | rfl | rfl | rfl <;> rfl
theorem form_apart {w w1 : World} {g t base n : Nat} {cs : Array Value} {v : Value} {xs : List Value} (hg : w.heap[g]? = some (.cells cs t (0, 0))) (ho : w.drew.ownsRow base 40 5 v n xs) (ht : 40 ≠ t) (hgr : w.drew.grownBy w1 v.ownBlock) : w1.heap[g]? = some (.cells cs t (0, 0)) :=
  blk_grown (w := w.drew) hg hgr (own_ne (w := w.drew) ho hg ht)
/-- A form in a block of its own. -/
theorem form_cells {w : World} {g : Nat} {k : Int} {t : ByteArray} {n a : Int} {v : Value} (h : w.heap[g]? = some (.cells #[.int .u8 k, .string t, .int .i64 n, v, .int .i64 a] 40 (0, 0))) :
    w.cell? ⟨g, 0, none⟩ = some (.int .u8 k) ∧ w.cell? ⟨g, 1, none⟩ = some (.string t) ∧ w.cell? ⟨g, 2, none⟩ = some (.int .i64 n) ∧ w.cell? ⟨g, 3, none⟩ = some v ∧ w.cell? ⟨g, 4, none⟩ = some (.int .i64 a) ∧
    w.frozen? ⟨g, 0, none⟩ = false ∧ w.frozen? ⟨g, 1, none⟩ = false ∧ w.frozen? ⟨g, 2, none⟩ = false ∧ w.frozen? ⟨g, 3, none⟩ = false ∧ w.frozen? ⟨g, 4, none⟩ = false :=
  ⟨by rw [blk_cell h]; rfl, by rw [blk_cell h]; rfl, by rw [blk_cell h]; rfl, by rw [blk_cell h]; rfl, by rw [blk_cell h]; rfl, blk_frozen h 0, blk_frozen h 1, blk_frozen h 2, blk_frozen h 3, blk_frozen h 4⟩
set_option maxHeartbeats 8000000 in
set_option maxRecDepth 100000 in
theorem add_calls (h : IsParser w0 w fs fv vs ls) (f : FormP) (hn : fs.length ≤ 399) (hlen : ∀ i, (ls i).length ≤ 400) (hopen : ∀ x ∈ ls 1, ∃ b : Nat, x = (b : Int) ∧ b < fs.length) :
    Calls Try.prog 69 #[.pointer (some ⟨w0.heap.size, 0, none⟩), .agg #[.int .u8 f.k, .string f.t, .int .i64 f.n, .slice none 0 0, .int .i64 f.at_]] w fun e w' => e = .returned (.tuple #[]) ∧ ∃ fv' vs', IsParser w0 w' (fs ++ [f]) fv' vs' (addLs fs.length f.k ls) := by
  obtain ⟨fk, ft, fn, fat⟩ := f
  have HH := Lib.hid h
  have HLEN := Lib.hid hlen
  have HOP := Lib.hid hopen
  clear h hlen hopen
  go_enter Try.func69, Try.ntmps69
  go_upto_region 1 with (fail)
  obtain ⟨wa, hwa⟩ : ∃ wa, wa = w.alloc (.cells #[.int .u8 fk, .string ft, .int .i64 fn, .slice none 0 0, .int .i64 fat] 40) := ⟨_, rfl⟩
  rw [← hwa]
  have hP : Hid (IsParser w0 wa fs fv vs ls) := by rw [hwa]; exact HH.out.moved ((Below.refl _ w).alloc (Nat.le_refl _) _)
  have hF : Hid (wa.heap[w.heap.size]? = some (.cells #[.int .u8 fk, .string ft, .int .i64 fn, .slice none 0 0, .int .i64 fat] 40 (0, 0))) := by rw [hwa]; exact heap_alloc_new w _
  clear hwa
  obtain ⟨A, cap, rfl⟩ := own_slice hP.out.2.1
  have c0 := hP.out.c0
  have f0 : wa.frozen? ⟨w0.heap.size, 0, none⟩ = false := blk_frozen hP.out.1 0
  obtain ⟨a0, a1, a2, a3, a4, af0, af1, af2, af3, af4⟩ := form_cells hF.out
  go_wp2_with (fail)
  go_cut [] (fun wc => ∃ fv3, Hid (IsParser w0 wc (fs ++ [⟨fk, ft, fn, fat⟩]) fv3 (upd vs (fs.length + 2) (.slice none 0 0)) (upd ls (fs.length + 2) [])) ∧ Hid (wc.heap[w.heap.size]? = some (.cells #[.int .u8 fk, .string ft, .int .i64 fn, .slice none 0 0, .int .i64 fat] 40 (0, 0))) ∧ Hid (some w.heap.size ≠ fv3.ownBlock))
  case first =>
    have hO : wa.drew.ownsRow w0.heap.size 40 5 (.slice A fs.length cap) fs.length (fcells fs 2 vs) := hP.out.2.1
    have HO := Lib.hid hO
    have hBd : Hid (Below w0.heap.size w0 wa.drew) := below_drew hP.out.2.2.2
    have hne : Hid (some w.heap.size ≠ (Value.slice A fs.length cap).ownBlock) := fun e => by
      have := own_lt HH.out.2.1 w.heap.size e.symm
      omega
    have hlong : (fs.length + 1) * 64 ≤ 140737488355328 := by omega
    have hal1 : (wa.alloc (.cells #[.int .u8 fk, .string ft, .int .i64 fn, .slice none 0 0, .int .i64 fat] 40)).cell? ⟨w0.heap.size, 0, none⟩ = some (.slice A fs.length cap) := (World.cell?_alloc_some _ _ _ (by rw [c0]; rfl)).trans c0
    clear hO
    go_region_law (refine step_append_cells (W := wa.drew) (w0 := w0) w0.heap.size rfl (.tmp 15) (.tmp 17) 23 40 (.agg #[.int .u8 0, .string ⟨#[]⟩, .int .i64 0, .slice none 0 0, .int .i64 0]) 5 64 rfl Try.underlying23 info40 rfl (by decide) (by decide) (.slice A fs.length cap) fs.length (fcells fs 2 vs) [.int .u8 fk, .string ft, .int .i64 fn, .slice none 0 0, .int .i64 fat] rfl rfl rfl (form_one ⟨fk, ft, fn, fat⟩) HO.out hBd.out hBd.out.size hlong ?_; intro v3 w3 hown3 hb3 hg3 hat3; obtain ⟨g3, cap3, rfl, _, _⟩ := hown3.form (Nat.succ_pos _); have hL3 := Lib.hid (form_apart hP.out.1 HO.out (by decide) hg3); have c3 : w3.cell? ⟨w0.heap.size, 0, none⟩ = some (.slice A fs.length cap) := (by rw [blk_cell hL3.out]; rfl); have f3 := blk_frozen hL3.out 0; have HO3 := Lib.hid hown3; clear hown3)
    all_goals
      go_wp2
      go_meet
      case rel =>
        have hF3 : w3.heap[w.heap.size]? = some (.cells #[.int .u8 fk, .string ft, .int .i64 fn, .slice none 0 0, .int .i64 fat] 40 (0, 0)) := blk_grown (w := wa.drew) hF.out hg3 hne.out
        exact ⟨_, IsParser.addForm (f := ⟨fk, ft, fn, fat⟩) (hP.out.drewN 1) HO3.out hg3 hb3, (Below.heap_setCell w3 _ _ _ (fun e => blk_ne hF3 hL3.out (by decide) e)).trans hF3, by
          rcases hat3 with e | ⟨x, e, hx⟩
          · rw [e]; exact hne.out
          · rw [e]
            intro e2
            have hlt := blk_lt hF.out
            have hx' : wa.heap.size ≤ x := hx
            injection e2 with e2
            omega⟩
  case rest =>
    obtain ⟨fv3, hP3, hF3, hNE⟩ := hcut
    clear hP hF c0 f0 a0 a1 a2 a3 a4 af0 af1 af2 af3 af4
    have hfl : (fs ++ [(⟨fk, ft, fn, fat⟩ : FormP)]).length = fs.length + 1 := by simp
    have HFL := Lib.hid hfl
    obtain ⟨fs3, hfs3⟩ : ∃ x, x = fs ++ [(⟨fk, ft, fn, fat⟩ : FormP)] := ⟨_, rfl⟩
    obtain ⟨vs3, hvs3⟩ : ∃ x, x = upd vs (fs.length + 2) (Value.slice none 0 0) := ⟨_, rfl⟩
    obtain ⟨ls3, hls3⟩ : ∃ x, x = upd ls (fs.length + 2) [] := ⟨_, rfl⟩
    rw [← hfs3] at HFL
    rw [← hfs3, ← hvs3, ← hls3] at hP3
    have hl0 : Hid (ls3 0 = ls 0) := by rw [hls3]; exact upd_other _ _ (by omega)
    have hl1 : Hid (ls3 1 = ls 1) := by rw [hls3]; exact upd_other _ _ (by omega)
    have HFS := Lib.hid hfs3
    have HLS := Lib.hid hls3
    clear hfl hfs3 hvs3 hls3
    obtain ⟨A1, c1, hv1⟩ := hP3.out.slice 1 (by rw [HFL.out]; omega)
    rw [hl1.out] at hv1
    have d2 := hP3.out.c2
    obtain ⟨L, hL⟩ : ∃ L, L = (ls 1).length := ⟨_, rfl⟩
    rw [← hL] at hv1
    rw [hv1] at d2
    have HV1 := Lib.hid hv1
    have HL := Lib.hid hL
    clear hv1 hL
    obtain ⟨F, cap3, rfl, _, _⟩ := hP3.out.2.1.form (by rw [HFL.out]; omega)
    go_upto_if 26 with (fail)
    go_cut [] (fun wd => ∃ vs4, Hid (IsParser w0 wd fs3 (.slice (some ⟨F, 0, none⟩) fs3.length cap3) vs4 (if (ls 1).length = 0 then upd ls3 0 (ls3 0 ++ [(fs.length : Int)]) else upd ls3 (lastOpen (ls 1) + 2) (ls3 (lastOpen (ls 1) + 2) ++ [(fs.length : Int)]))) ∧ Hid (wd.heap[w.heap.size]? = some (.cells #[.int .u8 fk, .string ft, .int .i64 fn, .slice none 0 0, .int .i64 fat] 40 (0, 0))))
    case first =>
      by_cases h0 : L = 0
      · subst h0
        have h0 : (ls 1).length = 0 := HL.out.symm
        obtain ⟨A0, c0, hv0⟩ := hP3.out.slice 0 (by rw [HFL.out]; omega)
        have d1 := hP3.out.c1
        have df1 : wc.frozen? ⟨w0.heap.size, 1, none⟩ = false := blk_frozen hP3.out.1 1
        rw [hv0] at d1
        have hO := hP3.out.2.2.1.1 0 (by rw [HFL.out]; omega)
        rw [hv0] at hO
        have HO := Lib.hid hO
        have HB3 := Lib.hid hP3.out.2.2.2
        have hlen0 := HLEN.out 0
        rw [← hl0.out] at hlen0
        have HV0 := Lib.hid hv0
        clear hv0 hO h0
        go_wp2_with (at_builtin; refine print_append_num (w0 := w0) w0.heap.size rfl (.tmp 31) (.tmp 33) 24 3 .i64 8 rfl Try.underlying24 info3 (Nat.succ_pos 7) _ (ls3 0) (fs.length : Int) rfl rfl HO.out HB3.out HB3.out.size ?qa ?_)
        case qa => omega
        intro v1 w1 hown1 hb1 hg1 hat1
        have hw1 : w1.heap[w0.heap.size]? = some (.cells #[.slice (some ⟨F, 0, none⟩) fs3.length cap3, vs3 0, vs3 1] 70 (0, 0)) := blk_grown hP3.out.1 hg1 (own_ne HO.out hP3.out.1 (by decide))
        obtain ⟨g4, cap4, rfl, _, _⟩ := hown1.form (Nat.succ_pos _)
        have x1 : w1.cell? ⟨w0.heap.size, 1, none⟩ = some (vs3 0) := by rw [blk_cell hw1]; rfl
        have xf1 : w1.frozen? ⟨w0.heap.size, 1, none⟩ = false := blk_frozen hw1 1
        have hF4 : Hid (w1.heap[w.heap.size]? = some (.cells #[.int .u8 fk, .string ft, .int .i64 fn, .slice none 0 0, .int .i64 fat] 40 (0, 0))) := blk_grown hF3.out hg1 (own_ne HO.out hF3.out (by decide))
        have hnew : Hid (IsParser w0 (w1.setCell ⟨w0.heap.size, 1, none⟩ (.slice (some ⟨g4, 0, none⟩) ((ls3 0).length + 1) cap4)) fs3 (.slice (some ⟨F, 0, none⟩) fs3.length cap3) (upd vs3 0 (.slice (some ⟨g4, 0, none⟩) ((ls3 0).length + 1) cap4)) (upd ls3 0 (ls3 0 ++ [(fs.length : Int)]))) :=
          IsParser.pushRow hP3.out (i := 0) (by omega) (by simpa [nums] using hown1) (by rw [HV0.out]; exact hg1) (by rw [HV0.out]; exact hat1) hb1
        have hF5 : Hid ((w1.setCell ⟨w0.heap.size, 1, none⟩ (.slice (some ⟨g4, 0, none⟩) ((ls3 0).length + 1) cap4)).heap[w.heap.size]? = some (.cells #[.int .u8 fk, .string ft, .int .i64 fn, .slice none 0 0, .int .i64 fat] 40 (0, 0))) :=
          (Below.heap_setCell w1 _ _ _ (fun e => blk_ne hF4.out hw1 (by decide) e)).trans hF4.out
        have H0 : Hid ((ls 1).length = 0) := HL.out.symm
        clear hown1 hb1 hg1 hat1 hw1
        go_wp2
        go_meet
        case rel => exact ⟨_, by rw [if_pos H0.out]; exact hnew, hF5⟩
      · obtain ⟨m, rfl⟩ : ∃ m, L = m + 1 := ⟨L - 1, by omega⟩
        have e0 : ((m : Int) + 1 == 0) = false := by rw [beq_eq_false_iff_ne]; omega
        have e0' : (((m + 1 : Nat) : Int) == 0) = false := by rw [beq_eq_false_iff_ne]; omega
        obtain ⟨b, hb, hbn⟩ := HOP.out ((ls 1).getD m 0) (by rw [List.getD_eq_getElem?_getD, List.getElem?_eq_getElem (by have := HL.out; omega)]; exact List.getElem_mem _)
        have hlo : Hid (lastOpen (ls 1) = b) := by show _ = _; unfold lastOpen; rw [← HL.out, Nat.add_sub_cancel, hb]; rfl
        have hO1 := hP3.out.2.2.1.1 1 (by rw [HFL.out]; omega)
        rw [HV1.out, hl1.out, ← HL.out] at hO1
        obtain ⟨O, cap1, hA1, _, _⟩ := hO1.form (Nat.succ_pos _)
        injection hA1 with hA1 _ hA2
        subst hA1 hA2
        have hel : wc.cell? ⟨O, m, none⟩ = some (.int .i64 (b : Int)) := by
          have := hO1.cellAt m (by omega)
          rw [this]
          have hml : m < (ls 1).length := by have := HL.out; omega
          simp only [nums, List.getElem?_map, List.getElem?_eq_getElem hml, Option.map_some]
          rw [List.getD_eq_getElem?_getD, List.getElem?_eq_getElem hml] at hb
          have hb' : (ls 1)[m] = (b : Int) := hb
          rw [hb']
        have d0 := hP3.out.c0
        have hbi : (b : Int) < (fs3.length : Int) := by have := HFL.out; omega
        have hbi0 : (0 : Int) ≤ (b : Int) := Int.natCast_nonneg b
        have hmm : (m : Int) < (m : Int) + 1 := by omega
        have hm0 : (0 : Int) ≤ (m : Int) := Int.natCast_nonneg m
        have hws : IntKind.i64.wrap ((m : Int) + 1 - 1) = (m : Int) := by rw [show (m : Int) + 1 - 1 = (m : Int) by omega]; exact IntWalk.i64_in _ (by have := HLEN.out 1; have := HL.out; omega)
        have hws2 : IntKind.i64.wrap (m : Int) = (m : Int) := IntWalk.i64_in _ (by have := HLEN.out 1; have := HL.out; omega)
        have hmm2 : (m : Int) < ((m + 1 : Nat) : Int) := by omega
        have HO1 := Lib.hid hO1
        clear hb hO1
        go_wp2_with (fail)
        go_quiet (fail)
        obtain ⟨we, hwe⟩ : ∃ we, we = wc.drewN nq := ⟨_, rfl⟩
        rw [← hwe]
        have hPe : Hid (IsParser w0 we fs3 (.slice (some ⟨F, 0, none⟩) fs3.length cap3) vs3 ls3) := by rw [hwe]; exact hP3.out.drewN nq
        have hFe : Hid (we.heap[w.heap.size]? = some (.cells #[.int .u8 fk, .string ft, .int .i64 fn, .slice none 0 0, .int .i64 fat] 40 (0, 0))) := by rw [hwe]; exact hF3.out
        clear hwe e0 e0' d0 d2 hel hbi hbi0 hmm hmm2 hm0 hws hws2
        have hb3 : b < fs3.length := by rw [HFL.out]; omega
        obtain ⟨A5, c5, hv5⟩ := hPe.out.slice (b + 2) (by omega)
        have hO5 := hPe.out.2.2.1.1 (b + 2) (by omega)
        obtain ⟨fb, hfb⟩ : ∃ fb, fs3[b]? = some fb := ⟨_, List.getElem?_eq_getElem hb3⟩
        have hcl : we.cell? ⟨F, b * 5 + 3, none⟩ = some (vs3 (b + 2)) := by
          rw [hPe.out.2.1.cellAt (b * 5 + 3) (by omega), fcells_get fs3 2 vs3 b 3 fb hfb (by decide), show 2 + b = b + 2 by omega]
          rfl
        have hcf : we.frozen? ⟨F, b * 5 + 3, none⟩ = false := hPe.out.2.1.frozenAt _
        rw [hv5] at hcl hO5
        have HV5 := Lib.hid hv5
        have HO5 := Lib.hid hO5
        have HBe := Lib.hid hPe.out.2.2.2
        have hlen5 : (ls3 (b + 2)).length ≤ 400 := by
          rw [HLS.out]; unfold upd; split
          · simp
          · exact HLEN.out _
        clear hv5 hO5 hfb
        go_wp2_with (at_builtin; refine print_append_num (w0 := w0) w0.heap.size rfl (.tmp 58) (.tmp 60) 24 3 .i64 8 rfl Try.underlying24 info3 (Nat.succ_pos 7) _ (ls3 (b + 2)) (fs.length : Int) rfl rfl HO5.out HBe.out HBe.out.size ?qa ?_)
        case qa => omega
        intro v1 w1 hown1 hb1 hg1 hat1
        obtain ⟨g4, cap4, rfl, _, _⟩ := hown1.form (Nat.succ_pos _)
        have hrne := own_type_ne hPe.out.2.1 HO5.out (by decide)
        have h2' := own_other hPe.out.2.1 hg1 hrne
        have x1 : w1.cell? ⟨F, b * 5 + 3, none⟩ = some (vs3 (b + 2)) := by
          obtain ⟨fb, hfb⟩ : ∃ fb, fs3[b]? = some fb := ⟨_, List.getElem?_eq_getElem hb3⟩
          rw [h2'.cellAt (b * 5 + 3) (by omega), fcells_get fs3 2 vs3 b 3 fb hfb (by decide), show 2 + b = b + 2 by omega]
          rfl
        have xf1 : w1.frozen? ⟨F, b * 5 + 3, none⟩ = false := h2'.frozenAt _
        have hnew : Hid (IsParser w0 (w1.setCell ⟨F, b * 5 + 3, none⟩ (.slice (some ⟨g4, 0, none⟩) ((ls3 (b + 2)).length + 1) cap4)) fs3 (.slice (some ⟨F, 0, none⟩) fs3.length cap3) (upd vs3 (b + 2) (.slice (some ⟨g4, 0, none⟩) ((ls3 (b + 2)).length + 1) cap4)) (upd ls3 (b + 2) (ls3 (b + 2) ++ [(fs.length : Int)]))) :=
          IsParser.pushKid hPe.out hb3 rfl (by simpa [nums] using hown1) (by rw [HV5.out]; exact hg1) (by rw [HV5.out]; exact hat1) hb1
        have hF4 : w1.heap[w.heap.size]? = some (.cells #[.int .u8 fk, .string ft, .int .i64 fn, .slice none 0 0, .int .i64 fat] 40 (0, 0)) := blk_grown hFe.out hg1 (own_ne HO5.out hFe.out (by decide))
        have hF5 : Hid ((w1.setCell ⟨F, b * 5 + 3, none⟩ (.slice (some ⟨g4, 0, none⟩) ((ls3 (b + 2)).length + 1) cap4)).heap[w.heap.size]? = some (.cells #[.int .u8 fk, .string ft, .int .i64 fn, .slice none 0 0, .int .i64 fat] 40 (0, 0))) := by
          refine (Below.heap_setCell w1 _ _ _ (fun e => ?_)).trans hF4
          have e' : w.heap.size = F := e
          exact hNE.out (by rw [e']; rfl)
        clear hown1 hb1 hg1 hat1 h2' hrne hF4
        go_wp2
        go_meet
        case rel => exact ⟨_, by rw [if_neg (by have := HL.out; omega), hlo.out]; exact hnew, hF5⟩
    case rest =>
      obtain ⟨vs4, hP4, hF4⟩ := hcut
      clear hP3 hF3 d2
      obtain ⟨a0, _, _, _, _, _, _, _, _, _⟩ := form_cells hF4.out
      have hfin : Hid (addLs fs.length fk ls = (if fk = 1 then upd (if (ls 1).length = 0 then upd ls3 0 (ls3 0 ++ [(fs.length : Int)]) else upd ls3 (lastOpen (ls 1) + 2) (ls3 (lastOpen (ls 1) + 2) ++ [(fs.length : Int)])) 1 ((if (ls 1).length = 0 then upd ls3 0 (ls3 0 ++ [(fs.length : Int)]) else upd ls3 (lastOpen (ls 1) + 2) (ls3 (lastOpen (ls 1) + 2) ++ [(fs.length : Int)])) 1 ++ [(fs.length : Int)]) else (if (ls 1).length = 0 then upd ls3 0 (ls3 0 ++ [(fs.length : Int)]) else upd ls3 (lastOpen (ls 1) + 2) (ls3 (lastOpen (ls 1) + 2) ++ [(fs.length : Int)])))) := by
        show _ = _
        rw [HLS.out]; rfl
      have hl41 : Hid ((if (ls 1).length = 0 then upd ls3 0 (ls3 0 ++ [(fs.length : Int)]) else upd ls3 (lastOpen (ls 1) + 2) (ls3 (lastOpen (ls 1) + 2) ++ [(fs.length : Int)])) 1 = ls 1) := by
        show _ = _
        split
        · rw [upd_other _ _ (by omega), hl1.out]
        · rw [upd_other _ _ (by omega), hl1.out]
      obtain ⟨ls4, hls4⟩ : ∃ x, x = (if (ls 1).length = 0 then upd ls3 0 (ls3 0 ++ [(fs.length : Int)]) else upd ls3 (lastOpen (ls 1) + 2) (ls3 (lastOpen (ls 1) + 2) ++ [(fs.length : Int)])) := ⟨_, rfl⟩
      rw [← hls4] at hP4 hfin hl41
      clear hls4
      by_cases hk : fk = 1
      · have e1 : (fk == 1) = true := by simpa using hk
        have HK := Lib.hid hk
        clear hk
        obtain ⟨A6, c6, hv6⟩ := hP4.out.slice 1 (by rw [HFL.out]; omega)
        have d2 := hP4.out.c2
        have df2 := blk_frozen hP4.out.1 2
        rw [hv6] at d2
        have hO6 := hP4.out.2.2.1.1 1 (by rw [HFL.out]; omega)
        rw [hv6] at hO6
        have HO6 := Lib.hid hO6
        have HB4 := Lib.hid hP4.out.2.2.2
        have hlen6 : (ls4 1).length ≤ 400 := by rw [hl41.out]; exact HLEN.out 1
        have HV6 := Lib.hid hv6
        clear hv6 hO6
        go_wp2_with (at_builtin; refine print_append_num (w0 := w0) w0.heap.size rfl (.tmp 71) (.tmp 73) 24 3 .i64 8 rfl Try.underlying24 info3 (Nat.succ_pos 7) _ (ls4 1) (fs.length : Int) rfl rfl HO6.out HB4.out HB4.out.size ?qa ?_)
        case qa => omega
        intro v1 w1 hown1 hb1 hg1 hat1
        have hw1 : w1.heap[w0.heap.size]? = some (.cells #[.slice (some ⟨F, 0, none⟩) fs3.length cap3, vs4 0, vs4 1] 70 (0, 0)) := blk_grown hP4.out.1 hg1 (own_ne HO6.out hP4.out.1 (by decide))
        obtain ⟨g4, cap4, rfl, _, _⟩ := hown1.form (Nat.succ_pos _)
        have x1 : w1.cell? ⟨w0.heap.size, 2, none⟩ = some (vs4 1) := by rw [blk_cell hw1]; rfl
        have xf1 : w1.frozen? ⟨w0.heap.size, 2, none⟩ = false := blk_frozen hw1 2
        have hnew : Hid (IsParser w0 (w1.setCell ⟨w0.heap.size, 2, none⟩ (.slice (some ⟨g4, 0, none⟩) ((ls4 1).length + 1) cap4)) fs3 (.slice (some ⟨F, 0, none⟩) fs3.length cap3) (upd vs4 1 (.slice (some ⟨g4, 0, none⟩) ((ls4 1).length + 1) cap4)) (upd ls4 1 (ls4 1 ++ [(fs.length : Int)]))) :=
          IsParser.pushRow hP4.out (i := 1) (by omega) (by simpa [nums] using hown1) (by rw [HV6.out]; exact hg1) (by rw [HV6.out]; exact hat1) hb1
        clear hown1 hb1 hg1 hat1 hw1
        go_wp2
        first
          | go_end0
          | skip
        exact ⟨rfl, _, _, by rw [hfin.out, if_pos HK.out, ← HFS.out]; exact hnew.out⟩
      · have e1 : (fk == 1) = false := by simpa using hk
        have HK := Lib.hid hk
        clear hk
        go_wp2
        first
          | go_end0
          | skip
        exact ⟨rfl, _, _, by rw [hfin.out, if_neg HK.out, ← HFS.out]; exact hP4.out⟩
end Go.Proofs.Ytiojfdgagdofiaa.HP
