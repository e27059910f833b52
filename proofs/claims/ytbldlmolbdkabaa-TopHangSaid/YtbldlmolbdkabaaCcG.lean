/-
TopHang over the translation.
-/
import Derived.Test.YtbldlmolbdkabaaCcF
import Derived.Test.YtbldlmolbdkabaaCbD
set_option linter.unusedVariables false
set_option linter.unusedSimpArgs false
namespace Go.Proofs.Ytbldlmolbdkabaa.HP
open Go.RowKit Go.Proofs.YtbldlmolbdkabaaW.PrintWords Go.Proofs.YtbldlmolbdkabaaW.PrintLast Go.Proofs.YtbldlmolbdkabaaW.PrintMore
/-! ### plain: each edge, both ways -/
def swapE (p : EdgeP) : EdgeP := (p.2, p.1)
def bothE (es : List EdgeP) : List EdgeP := es ++ es.map swapE
theorem both_ok {n : Int} {es : List EdgeP} (h : okG n es) (hl : es.length ≤ 15) : okG n (bothE es) := by
  refine ⟨h.1, by simp [bothE]; omega, fun p hp => ?_⟩
  rcases List.mem_append.1 hp with hp | hp
  · exact h.2.2 p hp
  · obtain ⟨q, hq, rfl⟩ := List.mem_map.1 hp
    have := h.2.2 q hq
    exact ⟨this.2, this.1⟩
theorem mem_outL {es : List EdgeP} {v y : Nat} : y ∈ outL es v ↔ ∃ p ∈ es, p.1 = (v : Int) ∧ p.2.toNat = y := by
  constructor
  · intro h
    obtain ⟨i, hi, rfl⟩ := List.mem_map.1 h
    obtain ⟨j, rfl, hj, hq⟩ := mem_pick hi
    have he : es[j]? = some es[j] := List.getElem?_eq_getElem hj
    have hd : es.getD j noEdge = es[j] := by rw [List.getD_eq_getElem?_getD, he]; rfl
    have h1 := of_decide_eq_true hq
    rw [hd] at h1
    refine ⟨es[j], List.getElem_mem hj, h1, ?_⟩
    unfold toN
    rw [Int.toNat_natCast, hd]
  · rintro ⟨p, hp, h1, rfl⟩
    obtain ⟨j, hj, rfl⟩ := List.getElem_of_mem hp
    have he : es[j]? = some es[j] := List.getElem?_eq_getElem hj
    have hd : es.getD j noEdge = es[j] := by rw [List.getD_eq_getElem?_getD, he]; rfl
    refine List.mem_map.2 ⟨(j : Int), pick_mem hj ?_, ?_⟩
    · unfold fromB
      rw [hd]
      exact decide_eq_true h1
    · unfold toN
      rw [Int.toNat_natCast, hd]
theorem out_adj {n : Int} {es : List EdgeP} (h : okG n es) {x y : Nat} : y ∈ outL (bothE es) x ↔ AdjG es x y := by
  rw [mem_outL]
  constructor
  · rintro ⟨p, hp, h1, h2⟩
    rcases List.mem_append.1 hp with hp | hp
    · have := h.2.2 p hp
      exact ⟨p, hp, .inl ⟨h1, by omega⟩⟩
    · obtain ⟨q, hq, rfl⟩ := List.mem_map.1 hp
      have := h.2.2 q hq
      refine ⟨q, hq, .inr ⟨h1, ?_⟩⟩
      unfold swapE at h2
      dsimp only at h2
      omega
  · rintro ⟨p, hp, ⟨h1, h2⟩ | ⟨h1, h2⟩⟩
    · exact ⟨p, List.mem_append_left _ hp, h1, by omega⟩
    · refine ⟨swapE p, List.mem_append_right _ (List.mem_map.2 ⟨p, hp, rfl⟩), h1, ?_⟩
      unfold swapE
      dsimp only
      omega
theorem reach_conn {n : Int} {es : List EdgeP} (h : okG n es) {x y : Nat} : Reach (bothE es) x y ↔ Conn es x y := by
  constructor
  · intro k
    induction k with
    | refl => exact .refl _
    | step _ e ih => exact .step ih ((out_adj h).1 e)
  · intro k
    induction k with
    | refl => exact .refl _
    | step _ e ih => exact .step ih ((out_adj h).2 e)
theorem both_take (es : List EdgeP) {i : Nat} {p : EdgeP} (h : es[i]? = some p) : es ++ (es.take (i + 1)).map swapE = (es ++ (es.take i).map swapE) ++ [swapE p] := by
  rw [List.take_add_one, h, List.map_append, List.append_assoc]
  rfl
set_option maxHeartbeats 16000000 in
set_option maxRecDepth 100000 in
theorem hang_walk (w : World) (A : Option Addr) (c : Nat) (n : Int) (es0 : List EdgeP) (hE0 : ERow w A es0) (hc : es0.length ≤ c) : Calls Try.prog 4 #[.int .i64 n, .slice A es0.length c] w fun e w' => TrueEnds w e w' := by
  obtain ⟨es, hes⟩ : ∃ es, es = es0.take 15 := ⟨_, rfl⟩
  have h15 : es.length ≤ 15 := by rw [hes]; exact List.length_take_le _ _
  have HE : Hid (ERow w A es) := by show ERow w A es; rw [hes]; exact hE0.take 15
  have HE0 := Lib.hid hE0
  have HES := Lib.hid hes
  clear hE0 hes
  go_enter Try.func4, Try.ntmps4
  go_upto_if 15 with (fail)
  go_cut [1] (fun v1 wc => v1 = .slice A es.length c ∧ Hid (wc = w))
  case first =>
    by_cases hl : 15 < es0.length
    · have e30 : es.length = 15 := by rw [HES.out, List.length_take]; omega
      have q : decide ((es0.length : Int) > 15) = true := decide_eq_true (by omega)
      have q' : decide ((15 : Int) < (es0.length : Int)) = true := decide_eq_true (by omega)
      obtain ⟨g, o, hA, _⟩ := HE0.out 0 es0[0] (List.getElem?_eq_getElem (by omega))
      subst hA
      have hsl : ∀ W, (Instr.slice 32 (.slice (some ⟨g, o, none⟩) es0.length c) none (some (.int .i64 15)) none).run Try.prog W = .ok (.slice (some ⟨g, o, none⟩) 15 c) W := by
        intro W
        rw [run_slice_h (P := Try.prog) W 32 (some ⟨g, o, none⟩) es0.length c Try.underlying32 .i64 15 (by omega) (by omega)]
        rw [show (sizeOf (Try.prog.elem 32)).run Try.prog W = .ok 2 W by simp [go_sem]]
        simp [go_sem, sliced, Result.andThen, Addr.add]
      go_wp2_with (fail)
      go_meet
      case rel => exact ⟨by rw [e30], rfl⟩
    · have e : es = es0 := by rw [HES.out]; exact List.take_of_length_le (by omega)
      have q : decide ((es0.length : Int) > 15) = false := decide_eq_false (by omega)
      have q' : decide ((15 : Int) < (es0.length : Int)) = false := decide_eq_false (by omega)
      have HEE := Lib.hid e
      clear e
      go_wp2_with (fail)
      go_meet
      case rel => exact ⟨by rw [HEE.out], rfl⟩
  case rest =>
    obtain ⟨rfl, hwc⟩ := hcut
    obtain ⟨w0, hw0⟩ : ∃ w0, w0 = wc := ⟨_, rfl⟩
    subst hw0
    obtain rfl := hwc.out
    clear hwc HE0 HES
    have HNW := Lib.hid (new_calls w0 A c n es HE.out (by omega))
    go_wp2_with (fail)
    refine HNW.out.mono ?_
    rintro e w1 (⟨hg, G, rfl, hI, hb1⟩ | ⟨hg, rfl, hb1⟩)
    · obtain ⟨N, rfl⟩ : ∃ N : Nat, n = (N : Int) := ⟨n.toNat, by have := hg.1; omega⟩
      rw [Int.toNat_natCast] at hI
      have hN1 : 1 ≤ N := by have := hg.1; omega
      have hN12 : N ≤ 12 := by have := hg.1; omega
      have HG := Lib.hid hg
      have HI := Lib.hid hI
      have HB1 := Lib.hid hb1
      have HE1 := Lib.hid (HE.out.below hb1)
      clear hg hI hb1 HNW
      go_upto_region 6 with (fail)
      go_cut [6] (fun v wc => Hid (wc.ownsRow w1.heap.size 36 2 v es.length (ecells es) ∧ Below w1.heap.size w1 wc))
      case first =>
        cases A with
        | none =>
          have h0 : es = [] := by
            cases es with
            | nil => rfl
            | cons x r => obtain ⟨g, o, e, _⟩ := HE1.out 0 x rfl; cases e
          subst h0
          go_wp2_with (fail)
          go_meet
          case rel => exact ⟨World.ownsRow_made w1 #[] 0 (Nat.le_refl _) (Nat.zero_le _) rfl, (Below.refl _ _).alloc (Nat.le_refl _) _⟩
        | some a =>
          obtain ⟨i0, hi, hz0, hz1, hz2⟩ := info_parts info36
          have hcl : ∀ (j : Nat) (u : Value), (ecells es)[j]? = some u → w1.cell? (a.add j) = some u := by
            intro j u hu
            have hlt := (List.getElem?_eq_some_iff.1 hu).1
            rw [ecells_length] at hlt
            obtain ⟨g, o, e, _⟩ := HE1.out 0 es[0] (List.getElem?_eq_getElem (by omega))
            injection e with e
            subst e
            exact erow_cells HE1.out j u hu
          have HC := Lib.hid hcl
          clear hcl
          go_wp2_with (at_builtin; refine wpList_append_own _ rfl _ _ 32 rfl w1.heap.size 36 i0 (.agg #[.int .i64 0, .int .i64 0]) 2 16 Try.underlying32 hi hz0 hz1 hz2 rfl (by decide) _ _ _ rfl (World.ownsRow_made w1 #[] 0 (Nat.le_refl _) (Nat.zero_le _) rfl) a es.length c (ecells es) rfl ?qc1 ?qc2 ?qc3 ?qc4 ?qc5 ?qc6 ?_)
          case qc1 => rw [ecells_length]
          case qc2 => intro j u hu; exact Lib.cell?_alloc_some _ (HC.out j u hu)
          case qc3 => exact ecells_one es
          case qc4 => unfold maxLen; omega
          case qc5 => omega
          case qc6 => simp
          intro v' w2 hown hgrow hnil
          have hown' : w2.ownsRow w1.heap.size 36 2 v' es.length (ecells es) := by simpa using hown
          have hb' : Below w1.heap.size w1 w2 := ((Below.refl _ w1).alloc (Nat.le_refl _) (.cells #[] 36)).grown hgrow (by simp) (fun k e => by
            first
              | (have := (World.ownsRow.lt hnil k e); omega)
              | (simp [Value.ownBlock] at e; omega))
          have HW := Lib.hid (And.intro hown' hb')
          clear hown hgrow hnil hown' hb' hi hz0 hz1 hz2
          go_wp2_with (fail)
          go_meet
          case rel => exact HW
      case rest =>
        obtain ⟨v6, hcut⟩ := hcut
        have HS0 := Lib.hid (And.intro v6 hcut)
        clear v6 hcut
        go_wp2_with (fail)
        go_loopw [6, 7] (fun v x wr => ∃ (i : Nat) (v6 : Value), x = .int .i64 (i : Int) ∧ v6 = v ∧ i ≤ es.length ∧ Hid (wr.ownsRow w1.heap.size 36 2 v6 (es.length + i) (ecells (es ++ (es.take i).map swapE)) ∧ Below w1.heap.size w1 wr)) (fun _ x _ => es.length - (intOf x).toNat)
        case atStart => exact ⟨0, _, rfl, rfl, Nat.zero_le _, by simpa using HS0.out.1, HS0.out.2⟩
        case round =>
          clear HS0
          obtain ⟨i, v6, rfl, rfl, hi, hR⟩ := hrel
          by_cases hlt : i < es.length
          · have hep : es[i]? = some es[i] := List.getElem?_eq_getElem hlt
            have HBT := Lib.hid (both_take es hep)
            obtain ⟨g, o, hA, hg, c0, c1⟩ := HE1.out i _ hep
            subst hA
            obtain ⟨p1, hp1⟩ : ∃ p1, p1 = es[i].1 := ⟨_, rfl⟩
            obtain ⟨p2, hp2⟩ : ∃ p2, p2 = es[i].2 := ⟨_, rfl⟩
            rw [← hp1] at c0
            rw [← hp2] at c1
            have HP12 := Lib.hid (And.intro hp2 hp1)
            have HSS : Hid (∀ w' : World, Below w1.heap.size w1 w' → w'.cell? ⟨g, o + i * 2, none⟩ = some (.int .i64 p1) ∧ w'.cell? ⟨g, o + i * 2 + 1, none⟩ = some (.int .i64 p2)) := fun w' hb =>
              ⟨by rw [hb.cell (p := ⟨g, o + i * 2, none⟩) hg]; exact c0, by rw [hb.cell (p := ⟨g, o + i * 2 + 1, none⟩) hg]; exact c1⟩
            have HBD : Hid (Below w1.heap.size w1 wr.drew) := below_drew hR.out.2
            have HOD : Hid (wr.drew.ownsRow w1.heap.size 36 2 v6 (es.length + i) (ecells (es ++ (es.take i).map swapE))) := hR.out.1
            have HAL : Hid (Below w1.heap.size w1 (wr.drew.alloc (.cells #[.int .i64 p2, .int .i64 p1] 36))) := HBD.out.alloc HBD.out.size _
            have hlong : (es.length + i + 1) * 16 ≤ 140737488355328 := by omega
            have q1 : (i : Int) < (es.length : Int) := by omega
            have q0 : (0 : Int) ≤ (i : Int) := by omega
            have qd : decide ((i : Int) < (es.length : Int)) = true := decide_eq_true q1
            have hw : IntKind.i64.wrap ((i : Int) + 1) = ((i + 1 : Nat) : Int) := by rw [IntWalk.i64_in _ (by omega)]; omega
            clear hep c0 c1 hp1 hp2 hg hR
            go_upto_region 10 with (fail)
            refine wp_region_any (by kernel_rfl) ?_
            change wpAny _ _ _ _ _ _ _ (World.drew wr)
            have hHeld : (fun w' : World => w'.cell? ⟨g, o + i * 2, none⟩ = some (.int .i64 p1) ∧ w'.cell? ⟨g, o + i * 2 + 1, none⟩ = some (.int .i64 p2)) wr.drew := HSS.out _ HBD.out
            refine wpAny_of_held (S := fun w' : World => w'.cell? ⟨g, o + i * 2, none⟩ = some (.int .i64 p1) ∧ w'.cell? ⟨g, o + i * 2 + 1, none⟩ = some (.int .i64 p2)) _ _ _ _ ?_
            refine take_at (i := 0) (d := 34) (v := ?_) rfl rfl (by kernel_rfl) (by kernel_rfl) (by kernel_rfl) (fun _ _ _ h => h) (Or.inl ⟨by rfl, ?hy0⟩) (by assumption) ?rest0
            case hy0 => intro w' hSw; (try dsimp only at hSw); obtain ⟨s1, s2⟩ := hSw; go_simp; try with_reducible rfl
            simp only [List.setIfInBounds_toArray, List.set_cons_zero, List.set_cons_succ]
            refine take_at (i := 1) (d := 35) (v := ?_) rfl rfl (by kernel_rfl) (by kernel_rfl) (by kernel_rfl) (fun _ _ _ h => h) (Or.inl ⟨by rfl, ?hy1⟩) (by assumption) ?rest1
            case hy1 => intro w' hSw; (try dsimp only at hSw); obtain ⟨s1, s2⟩ := hSw; go_simp; try with_reducible rfl
            simp only [List.setIfInBounds_toArray, List.set_cons_zero, List.set_cons_succ]
            refine take_at (i := 2) (d := 36) (v := ?_) rfl rfl (by kernel_rfl) (by kernel_rfl) (by kernel_rfl) (fun _ _ _ h => h) (Or.inl ⟨by rfl, ?hy2⟩) (by assumption) ?rest2
            case hy2 => intro w' hSw; (try dsimp only at hSw); obtain ⟨s1, s2⟩ := hSw; go_simp; try with_reducible rfl
            simp only [List.setIfInBounds_toArray, List.set_cons_zero, List.set_cons_succ]
            refine take_at (i := 3) (d := 37) (v := ?_) rfl rfl (by kernel_rfl) (by kernel_rfl) (by kernel_rfl) (fun _ _ _ h => h) (Or.inl ⟨by rfl, ?hy3⟩) (by assumption) ?rest3
            case hy3 => intro w' hSw; (try dsimp only at hSw); obtain ⟨s1, s2⟩ := hSw; go_simp; try with_reducible rfl
            simp only [List.setIfInBounds_toArray, List.set_cons_zero, List.set_cons_succ]
            refine take_at (i := 4) (d := 38) (v := ?_) rfl rfl (by kernel_rfl) (by kernel_rfl) (by kernel_rfl) (fun _ _ _ h => h) (Or.inl ⟨by rfl, ?hy4⟩) (by assumption) ?rest4
            case hy4 => intro w' hSw; (try dsimp only at hSw); obtain ⟨s1, s2⟩ := hSw; go_simp; try with_reducible rfl
            simp only [List.setIfInBounds_toArray, List.set_cons_zero, List.set_cons_succ]
            refine take_at (i := 5) (d := 39) (v := ?_) rfl rfl (by kernel_rfl) (by kernel_rfl) (by kernel_rfl) (fun _ _ _ h => h) (Or.inl ⟨by rfl, ?hy5⟩) (by assumption) ?rest5
            case hy5 => intro w' hSw; (try dsimp only at hSw); obtain ⟨s1, s2⟩ := hSw; go_simp; try with_reducible rfl
            simp only [List.setIfInBounds_toArray, List.set_cons_zero, List.set_cons_succ]
            refine take_at (i := 6) (d := 40) (v := ?_) rfl rfl (by kernel_rfl) (by kernel_rfl) (by kernel_rfl) (fun _ _ _ h => h) (Or.inl ⟨by rfl, ?hy6⟩) (by assumption) ?rest6
            case hy6 => intro w' hSw; (try dsimp only at hSw); obtain ⟨s1, s2⟩ := hSw; go_simp; try with_reducible rfl
            simp only [List.setIfInBounds_toArray, List.set_cons_zero, List.set_cons_succ]
            refine take_at (i := 7) (d := 41) (v := ?_) rfl rfl (by kernel_rfl) (by kernel_rfl) (by kernel_rfl) (fun _ _ _ h => h) (Or.inl ⟨by rfl, ?hy7⟩) (by assumption) ?rest7
            case hy7 => intro w' hSw; (try dsimp only at hSw); obtain ⟨s1, s2⟩ := hSw; go_simp; try with_reducible rfl
            simp only [List.setIfInBounds_toArray, List.set_cons_zero, List.set_cons_succ]
            refine take_at (i := 8) (d := 42) (v := ?_) rfl rfl (by kernel_rfl) (by kernel_rfl) (by kernel_rfl) (fun _ _ _ h => h) (Or.inl ⟨by rfl, ?hy8⟩) (by assumption) ?rest8
            case hy8 => intro w' hSw; (try dsimp only at hSw); obtain ⟨s1, s2⟩ := hSw; go_simp; try with_reducible rfl
            simp only [List.setIfInBounds_toArray, List.set_cons_zero, List.set_cons_succ]
            refine take_at (i := 9) (d := 43) (v := ?_) rfl rfl (by kernel_rfl) (by kernel_rfl) (by kernel_rfl) (fun _ _ _ h => h) (Or.inl ⟨by rfl, ?hy9⟩) (by assumption) ?rest9
            case hy9 => intro w' hSw; (try dsimp only at hSw); obtain ⟨s1, s2⟩ := hSw; go_simp; try with_reducible rfl
            simp only [List.setIfInBounds_toArray, List.set_cons_zero, List.set_cons_succ]
            refine take_at (i := 10) (d := 44) (v := ?_) rfl rfl (by kernel_rfl) (by kernel_rfl) (by kernel_rfl) (fun _ _ _ h => h) (Or.inl ⟨by rfl, ?hy10⟩) (by assumption) ?rest10
            case hy10 => intro w' hSw; (try dsimp only at hSw); obtain ⟨s1, s2⟩ := hSw; go_simp; try with_reducible rfl
            simp only [List.setIfInBounds_toArray, List.set_cons_zero, List.set_cons_succ]
            refine take_at (i := 11) (d := 45) (v := ?_) rfl rfl (by kernel_rfl) (by kernel_rfl) (by kernel_rfl) (fun _ _ _ h => h) (Or.inl ⟨by rfl, ?hy11⟩) (by assumption) ?rest11
            case hy11 => intro w' hSw; (try dsimp only at hSw); obtain ⟨s1, s2⟩ := hSw; go_simp; try with_reducible rfl
            simp only [List.setIfInBounds_toArray, List.set_cons_zero, List.set_cons_succ]
            refine wpAnyH_ready (rs := [12]) (by kernel_rfl) (by simp) ?_
            refine AllReadyH.cons rfl (fun K hK => ?_) AllReadyH.nil
            go_simp
            refine hK.out _ _ (HSS.out _ HAL.out) (fun hHeld => ?_)
            clear hK K
            try simp only [Act.put, List.setIfInBounds_toArray, List.set_cons_zero, List.set_cons_succ]
            refine wpAnyH_ready (rs := [13]) (by kernel_rfl) (by simp) ?_
            refine AllReadyH.cons rfl (fun K hK => ?_) AllReadyH.nil
            refine step_append_cells (W := wr.drew) (w0 := w1) w1.heap.size rfl (.tmp 34) (.tmp 46) 32 36 (.agg #[.int .i64 0, .int .i64 0]) 2 16 rfl Try.underlying32 info36 rfl (by decide) (by decide) v6 (es.length + i) (ecells (es ++ (es.take i).map swapE)) [.int .i64 p2, .int .i64 p1] rfl rfl rfl (by intro u hu; simp at hu; rcases hu with rfl | rfl <;> rfl) HOD.out HBD.out HBD.out.size hlong ?_
            intro v3 w3 hown3 hb3 hg3 hat3
            have HW3 : Hid (w3.ownsRow w1.heap.size 36 2 v3 (es.length + (i + 1)) (ecells (es ++ (es.take (i + 1)).map swapE)) ∧ Below w1.heap.size w1 w3) := by
              refine ⟨?_, hb3⟩
              rw [HBT.out, ecells_append]
              rw [show es.length + (i + 1) = es.length + i + 1 by omega]
              have := HP12.out
              rw [this.1, this.2] at hown3
              exact hown3
            clear hown3 hg3 hat3
            have HB3 := Lib.hid hb3
            clear hb3
            refine hK.out _ _ (HSS.out _ HB3.out) (fun hHeld => ?_)
            clear hK K
            change wpAnyH _ _ _ _ _ _ _ (Act.put _ (some 47) _) _
            simp only [Act.put, List.setIfInBounds_toArray, List.set_cons_zero, List.set_cons_succ]
            refine wpAnyH_ready (rs := [14]) (by kernel_rfl) (by simp) ?_
            refine AllReadyH.cons rfl (fun K hK => ?_) AllReadyH.nil
            go_simp
            refine hK.out _ _ (HSS.out _ HB3.out) (fun hHeld => ?_)
            clear hK K
            refine wpAnyH_done (by kernel_rfl) ?_ _
            clear hHeld
            go_wp2_with (fail)
            go_roundw
            case measure => simp [intOf]; omega
            case rel => exact ⟨i + 1, v3, by first | rfl | (rw [hw]) | simp, rfl, by omega, HW3⟩
          · obtain rfl : i = es.length := by omega
            have qd : decide ((es.length : Int) < (es.length : Int)) = false := decide_eq_false (by omega)
            have hown : wr.ownsRow w1.heap.size 36 2 v6 (bothE es).length (ecells (bothE es)) := by
              have := hR.out.1
              rw [List.take_length] at this
              unfold bothE
              rw [List.length_append, List.length_map]
              exact this
            obtain ⟨A2, c2, rfl, _, hE2⟩ := own_erow hown
            have hbl : (bothE es).length ≤ 30 := by unfold bothE; rw [List.length_append, List.length_map]; omega
            have HBW := Lib.hid hR.out.2
            have HN2 := Lib.hid (new_calls wr A2 c2 (N : Int) (bothE es) hE2 (by omega))
            have HL2 := Lib.hid hbl
            clear hR hown hE2 hlt hi hbl
            go_wp2_with (fail)
            refine HN2.out.mono ?_
            rintro e w2 (⟨hg2, H, rfl, hI2, hb2⟩ | ⟨hg2, _, _⟩)
            · rw [Int.toNat_natCast] at hI2
              have HG2 := Lib.hid hg2
              have HI2 := Lib.hid hI2
              have hb12 := HBW.out.trans (hb2.mono HBW.out.size)
              have HB12 := Lib.hid hb12
              have HIG := Lib.hid (HI.out.below hb12)
              have HJ := Lib.hid (joined_calls w2 G N es HIG.out HG.out)
              clear hg2 hI2 hb2 hb12 HN2
              go_wp2_with (fail)
              refine HJ.out.mono ?_
              rintro e w3 ⟨AL, cL, o, rfl, hJI, hIL, hb3⟩
              have HJI := Lib.hid hJI
              have HIL := Lib.hid hIL
              have HB3 := Lib.hid hb3
              clear hJI hIL hb3 HJ
              obtain ⟨g, ol, hAL, _, _⟩ := HIL.out 0 (by rw [HJI.out.len]; omega)
              subst hAL
              have HROW : Hid (∀ wu : World, Below w3.heap.size w3 wu → ∀ x, x < N → wu.cell? ⟨g, ol + x, none⟩ = some (.int .i64 (lb o x))) := by
                intro wu hb x hx
                obtain ⟨g', ol', e, _, hc⟩ := (HIL.out.below hb) x (by rw [HJI.out.len]; exact hx)
                injection e with e
                injection e with e1 e2 _
                subst e1 e2
                exact hc
              clear HIL
              go_wp2_with (fail)
              go_loopw [10] (fun x wv => ∃ v : Nat, x = .int .i64 (v : Int) ∧ v ≤ N ∧ Hid (Below w3.heap.size w3 wv)) (fun x _ => N - (intOf x).toNat)
              case atStart => exact ⟨0, rfl, Nat.zero_le _, Below.refl _ _⟩
              case round =>
                obtain ⟨wv, hwv⟩ : ∃ wv, wv = wr := ⟨_, rfl⟩
                subst hwv
                obtain ⟨v, rfl, hv, hBv⟩ := hrel
                have hb2v := below_then HB3.out HB3.out.size hBv.out
                have HB2V := Lib.hid hb2v
                have HGV := Lib.hid (HIG.out.below hb2v)
                have HHV := Lib.hid (HI2.out.below hb2v)
                have HNC := Lib.hid (n_calls HGV.out)
                clear hb2v
                by_cases hlt : v < N
                · have HLV := Lib.hid (callsIn_wide.1 (levels_in wv H N v (bothE es) HHV.out HG2.out hlt))
                  have HLT := Lib.hid hlt
                  have v1 : (v : Int) < (N : Int) := by omega
                  have v0 : (0 : Int) ≤ (v : Int) := by omega
                  have qd : decide ((v : Int) < (N : Int)) = true := decide_eq_true v1
                  have hw : IntKind.i64.wrap ((v : Int) + 1) = ((v + 1 : Nat) : Int) := by rw [IntWalk.i64_in _ (by omega)]; omega
                  go_wp2_with (fail)
                  refine HNC.out.mono ?_
                  rintro e w' ⟨rfl, hww⟩
                  rw [hww]
                  clear hww w'
                  go_wp2_with (fail)
                  refine HLV.out.mono ?_
                  rintro e w5 ⟨B, o2, rfl, hrow, hlen, hre, hb5⟩
                  have HRW := Lib.hid hrow
                  have HLE := Lib.hid hlen
                  have HRE := Lib.hid hre
                  have HB5 := Lib.hid hb5
                  clear hrow hlen hre hb5 HLV HNC
                  go_wp2_with (fail)
                  go_loopw [12] (fun x wu => ∃ u : Nat, x = .int .i64 (u : Int) ∧ u ≤ N ∧ Hid (Below w5.heap.size w5 wu)) (fun x _ => N - (intOf x).toNat)
                  case atStart => exact ⟨0, rfl, Nat.zero_le _, Below.refl _ _⟩
                  case round =>
                    rename_i wu
                    obtain ⟨u, rfl, hu, hBu⟩ := hrel
                    have hvu := below_then HB5.out HB5.out.size hBu.out
                    have h3u := below_then hBv.out hBv.out.size hvu
                    have HNU := Lib.hid (n_calls (HGV.out.below hvu))
                    by_cases hltu : u < N
                    · have x1 := nums_cell (blk_below HRW.out hBu.out) (x := u) (by rw [HLE.out]; exact hltu)
                      have y1 := HROW.out _ h3u v HLT.out
                      have y2 := HROW.out _ h3u u hltu
                      have hiff : 0 ≤ lb o2 u ↔ lb o v = lb o u := (HRE.out u hltu).trans ((reach_conn HG.out).trans (HJI.out.labels HG.out.2.2 HLT.out hltu).symm)
                      have u1 : (u : Int) < (N : Int) := by omega
                      have u0 : (0 : Int) ≤ (u : Int) := by omega
                      have qu : decide ((u : Int) < (N : Int)) = true := decide_eq_true u1
                      have hwu : IntKind.i64.wrap ((u : Int) + 1) = ((u + 1 : Nat) : Int) := by rw [IntWalk.i64_in _ (by omega)]; omega
                      obtain ⟨a, ha⟩ : ∃ a, a = lb o2 u := ⟨_, rfl⟩
                      obtain ⟨b, hb⟩ : ∃ b, b = lb o v := ⟨_, rfl⟩
                      obtain ⟨d, hd⟩ : ∃ d, d = lb o u := ⟨_, rfl⟩
                      rw [← ha] at x1 hiff
                      rw [← hb] at y1 hiff
                      rw [← hd] at y2 hiff
                      have HIF := Lib.hid hiff
                      have HBU := Lib.hid hBu.out
                      clear ha hb hd hiff hvu h3u hBu
                      by_cases hbd : b = d
                      · have ha0 : (0 : Int) ≤ a := HIF.out.2 hbd
                        have qa : decide (a ≥ 0) = true := decide_eq_true ha0
                        have qa' : decide (0 ≤ a) = true := decide_eq_true ha0
                        subst hbd
                        go_wp2_with (fail)
                        refine HNU.out.mono ?_
                        rintro e w' ⟨rfl, hww⟩
                        rw [hww]
                        clear hww w'
                        go_upto_region 20 with (fail)
                        go_quiet (fail)
                        have HBN := Lib.hid (below_drewNc HBU.out nq)
                        go_wp2_with (fail)
                        go_roundw
                        case measure => simp [intOf]; omega
                        case rel => exact ⟨u + 1, by first | rfl | (rw [hwu]) | simp, by omega, HBN⟩
                      · have ha0 : ¬ (0 : Int) ≤ a := fun h => hbd (HIF.out.1 h)
                        have qa : decide (a ≥ 0) = false := decide_eq_false ha0
                        have qa' : decide (0 ≤ a) = false := decide_eq_false ha0
                        have qb : decide (b = d) = false := decide_eq_false hbd
                        go_wp2_with (fail)
                        refine HNU.out.mono ?_
                        rintro e w' ⟨rfl, hww⟩
                        rw [hww]
                        clear hww w'
                        go_upto_region 20 with (fail)
                        go_quiet (fail)
                        have HBN := Lib.hid (below_drewNc HBU.out nq)
                        go_wp2_with (fail)
                        go_roundw
                        case measure => simp [intOf]; omega
                        case rel => exact ⟨u + 1, by first | rfl | (rw [hwu]) | simp, by omega, HBN⟩
                    · have qu : decide ((u : Int) < (N : Int)) = false := decide_eq_false (by omega)
                      have H3U := Lib.hid h3u
                      clear hvu h3u
                      go_wp2_with (fail)
                      refine HNU.out.mono ?_
                      rintro e w' ⟨rfl, hww⟩
                      rw [hww]
                      clear hww w'
                      go_wp2_with (fail)
                      go_roundw
                      case measure => simp [intOf]; omega
                      case rel => exact ⟨v + 1, by first | rfl | (rw [hw]) | simp, by omega, H3U⟩
                · have qd : decide ((v : Int) < (N : Int)) = false := decide_eq_false (by omega)
                  have HFIN : Hid (Below w0.heap.size w0 wv) := below_then (below_then HB1.out HB1.out.size HB12.out) (below_then HB1.out HB1.out.size HB12.out).size HB2V.out
                  go_wp2_with (fail)
                  refine HNC.out.mono ?_
                  rintro e w' ⟨rfl, hww⟩
                  rw [hww]
                  clear hww w'
                  go_wp2_with (fail)
                  refine HNC.out.mono ?_
                  rintro e w' ⟨rfl, hww⟩
                  rw [hww]
                  clear hww w'
                  go_wp2
                  go_ret
                  exact ⟨rfl, HFIN.out⟩
            · exact absurd (both_ok HG.out h15) hg2
    · have HB1 := Lib.hid hb1
      have HNW2 := Lib.hid (new_calls w1 none 0 1 [] (ERow.nil _ _) (by decide))
      clear hg hb1 HNW
      go_wp2_with (fail)
      refine HNW2.out.mono ?_
      rintro e w2 (⟨hg, G, rfl, hI, hb2⟩ | ⟨hg, _, _⟩)
      · have HF := Lib.hid (HB1.out.trans (hb2.mono HB1.out.size))
        clear hg hI hb2 HNW2
        go_wp2
        go_ret
        exact ⟨rfl, HF.out⟩
      · exact absurd ⟨by decide, by decide, fun p hp => by simp at hp⟩ hg
end Go.Proofs.Ytbldlmolbdkabaa.HP
