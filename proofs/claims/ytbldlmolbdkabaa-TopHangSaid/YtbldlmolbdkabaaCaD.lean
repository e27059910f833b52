/-
graph.made and graph.New over the translation.
-/
import Derived.Test.YtbldlmolbdkabaaCaC
import Derived.Deep.CutRange
import Derived.Deep.RegionLaw
set_option linter.unusedVariables false
set_option linter.unusedSimpArgs false
namespace Go.Proofs.Ytbldlmolbdkabaa.HP
open Go.RowKit Go.Proofs.YtbldlmolbdkabaaW.PrintWords Go.Proofs.YtbldlmolbdkabaaW.PrintLast Go.Proofs.YtbldlmolbdkabaaW.PrintMore
open Go.ChangeMaps (setBlock heap_setBlock_same heap_setBlock_other)
section
variable {P : Program} {ops : Array Oper} {a : Act} {o : Oper} {K : Act → World → Prop} {Q : Exit → Act → World → Prop}
theorem step_mapEntry {W w1 : World} {v : Value} (hw : Region.wanted o (yielded ops a.tmps) = true) (m x : Operand) (t : TypeId) (ho : o.op = .mapEntry t m x) (mv key : Value) (hm : a.eval m = mv) (hx : a.eval x = key) (hrun : (Instr.mapEntry t mv key).run P W = .ok v w1) (h : K (a.put o.dst v) w1) :
    if Region.wanted o (yielded ops a.tmps) = true then Oper.wp P o a W K Q else K (a.put o.dst undef) W := by
  rw [if_pos hw]
  unfold Oper.wp
  simp [execOp, ho, hm, hx, hrun, Result.andThen]
  exact h
theorem step_entryStore {W w1 : World} (hw : Region.wanted o (yielded ops a.tmps) = true) (m s x : Operand) (t : TypeId) (ho : o.op = .entryStore t m s x) (mv sv xv : Value) (hm : a.eval m = mv) (hs : a.eval s = sv) (hx : a.eval x = xv) (hrun : (Instr.entryStore t mv sv xv).run P W = .ok () w1) (h : K (a.put o.dst undef) w1) :
    if Region.wanted o (yielded ops a.tmps) = true then Oper.wp P o a W K Q else K (a.put o.dst undef) W := by
  rw [if_pos hw]
  unfold Oper.wp
  simp [execOp, ho, hm, hs, hx, hrun, Result.andThen]
  exact h
end
/-- An operation that reads, into slot d, taken first. -/
theorem take_at {P : Program} {md : Region.Mode} {ops : Array Oper} {Q : Exit → Act → World → Prop} {S : World → Prop} {i d : Nat} {oi : Oper} {v : Value} {fuel : Nat} {listed : Array Bool} {a : Act} {w : World} (hi : ops[i]? = some oi) (hd : oi.dst = some d)
    (hs : Region.noSelect ops = true) (hf : Region.free md ops listed i = true) (hr : (Region.ready md ops listed).contains i = true)
    (hQ : ∀ c a w, Q (.panic c) (a.put oi.dst v) w → Q (.panic c) a w) (hy : YieldsIf P ops S oi v a) (hS : S w)
    (h : wpAnyH P md ops Q S fuel (listed.setIfInBounds i true) { tmps := a.tmps.setIfInBounds d v, defers := a.defers } w) : wpAnyH P md ops Q S (fuel + 1) listed a w :=
  wpAnyH_take hi hs hf hr hQ hy hS (by rw [hd]; exact h)
section
variable {P : Program} {ops : Array Oper} {a : Act} {o : Oper} {K : Act → World → Prop} {Q : Exit → Act → World → Prop}
/-- append of one number that lies in a block of its own. -/
theorem step_append_one {W : World} (base : Nat) (hw : Region.wanted o (yielded ops a.tmps) = true) (s x : Operand) (t e : TypeId) (bytes : Nat) (ho : o.op = .call { callee := .builtin .append, args := #[s, x], argTypes := #[t, t] })
    (ht : P.underlying t = some (.slice e)) (hinfo : (P.info? e).map (fun i => (i.zero, i.size, i.bytes)) = some (some (.int .i64 0), 1, bytes)) (hb0 : 0 < bytes) (v : Value) (xs : List Int) (g : Nat) (y : Int) (hs : a.eval s = v) (hx : a.eval x = .slice (some ⟨g, 0, none⟩) 1 1)
    (hc : W.cell? ⟨g, 0, none⟩ = some (.int .i64 y)) (HO : W.ownsRow base e 1 v xs.length (nums .i64 xs)) (hbase : base ≤ W.heap.size) (hl : (xs.length + 1) * bytes ≤ 140737488355328)
    (h : ∀ v1 w1, w1.ownsRow base e 1 v1 (xs ++ [y]).length (nums .i64 (xs ++ [y])) → W.grownBy w1 v.ownBlock → (v1.ownBlock = v.ownBlock ∨ ∃ b, v1.ownBlock = some b ∧ W.heap.size ≤ b) → K (a.put o.dst v1) w1) :
    if Region.wanted o (yielded ops a.tmps) = true then Oper.wp P o a W K Q else K (a.put o.dst undef) W := by
  obtain ⟨i0, hi, hzz⟩ := Option.map_eq_some_iff.1 hinfo
  simp only [Prod.mk.injEq] at hzz
  obtain ⟨hz0, hz1, hz2⟩ := hzz
  have hlen : xs.length + 1 ≤ 140737488355328 := Nat.le_trans (Nat.le_mul_of_pos_right _ hb0) hl
  rw [if_pos hw]
  obtain ⟨v1, w1, hr, hown, hg, _, hat⟩ := run_append_own_at (P := P) W base t o.type e i0 (.int .i64 0) 1 bytes ht hi hz0 hz1 hz2 rfl (by decide) v xs.length (nums .i64 xs) HO ⟨g, 0, none⟩ 1 1 [.int .i64 y] rfl
    (by
      intro j u hu
      have hj : j = 0 := by have := (List.getElem?_eq_some_iff.1 hu).1; simpa using this
      subst hj
      have e : Value.int .i64 y = u := by simpa using hu
      subst e
      rw [addr_add]
      exact hc) (by intro u hu; simp at hu; subst hu; rfl) (by simp only [maxLen]; omega) hl hbase
  unfold Oper.wp execOp
  simp only [ho, resolve, invoke, builtin, Sem.run_bind, Sem.run_pure, Result.andThen_ok, List.map_toArray, List.map_cons, List.map_nil, hs, hx, hr]
  refine h v1 w1 ?_ hg ?_
  · rw [List.length_append, nums_append]
    exact hown
  · rcases hat with hat | hat
    · exact .inl hat
    · exact .inr ⟨_, hat, Nat.le_refl _⟩
end
theorem hmk64 (n : Nat) (hn : n ≤ 1000000) (W : World) : (Instr.makeSlice 64 (.int .i64 (n : Int)) (.int .i64 (n : Int))).run Try.prog W = .ok (.slice (some ⟨W.heap.size, 0, none⟩) n n) (W.alloc (.cells (madeCells #[.slice none 0 0] n) 37)) := by
  obtain ⟨i0, hi, hz0, hz1, hz2⟩ := info_parts info37
  have h := run_make (P := Try.prog) (w := W) 64 37 i0 _ Try.underlying64 hi hz0 .i64 .i64 (n : Int) (n : Int) (by omega) (Int.le_refl _) (by rw [hz2]; omega) (by omega)
  rw [h, hz1, Int.toNat_natCast, Nat.mul_one]
  rfl
/-- What made begins with. -/
def Begun (w w1 : World) (G O I M : Nat) (AE : Option Addr) (cE n : Nat) (es : List EdgeP) : Prop :=
  w1.heap[G]? = some (.cells #[.slice AE es.length cE, .slice (some ⟨O, 0, none⟩) n n, .slice (some ⟨I, 0, none⟩) n n, .map (some M)] 67 (0, 0)) ∧ w1.heap[O]? = some (.cells (madeCells #[.slice none 0 0] n) 37 (0, 0)) ∧ w1.heap[I]? = some (.cells (madeCells #[.slice none 0 0] n) 37 (0, 0)) ∧ w1.heap[M]? = some (.map #[] 0) ∧
    O ≠ I ∧ w.heap.size ≤ O ∧ w.heap.size ≤ I ∧ w.heap.size ≤ M ∧ Below w.heap.size w w1
theorem four_alloc (w : World) (a b c d : Obj) : ((((w.alloc a).alloc b).alloc c).alloc d).drew.heap[w.heap.size]? = some a ∧ ((((w.alloc a).alloc b).alloc c).alloc d).drew.heap[w.heap.size + 1]? = some b ∧ ((((w.alloc a).alloc b).alloc c).alloc d).drew.heap[w.heap.size + 1 + 1]? = some c ∧
    ((((w.alloc a).alloc b).alloc c).alloc d).drew.heap[w.heap.size + 1 + 1 + 1]? = some d ∧ Below w.heap.size w ((((w.alloc a).alloc b).alloc c).alloc d).drew := by
  have s1 : (w.alloc a).heap.size = w.heap.size + 1 := World.size_alloc _ _
  have s2 : ((w.alloc a).alloc b).heap.size = w.heap.size + 1 + 1 := by rw [World.size_alloc, s1]
  have s3 : (((w.alloc a).alloc b).alloc c).heap.size = w.heap.size + 1 + 1 + 1 := by rw [World.size_alloc, s2]
  have h1 := blk_new (w.alloc a) b
  have h2 := blk_new ((w.alloc a).alloc b) c
  have h3 := blk_new (((w.alloc a).alloc b).alloc c) d
  rw [s1] at h1
  rw [s2] at h2
  rw [s3] at h3
  exact ⟨blk_alloc (blk_alloc (blk_alloc (blk_new w a) b) c) d, blk_alloc (blk_alloc h1 c) d, blk_alloc h2 d, h3, below_drew ((((Below.refl _ w).alloc (Nat.le_refl _) a).alloc (by omega) b |>.alloc (by omega) c).alloc (by omega) d)⟩
/-- When so many edges are in. -/
def MadeSo (w wr : World) (G O I M : Nat) (AE : Option Addr) (cE n : Nat) (es : List EdgeP) (j : Nat) : Prop :=
  ∃ rv rl me clock, MS w wr G O I M AE cE n es j rv rl me clock ∧ (∀ v, v < n → rl v = pick (fromB es v) j) ∧ ∀ v, v < n → rl (n + v) = pick (toB es v) j
set_option maxHeartbeats 16000000 in
set_option maxRecDepth 100000 in
theorem made_calls (w : World) (AE : Option Addr) (cE n : Nat) (es : List EdgeP) (hE : ERow w AE es) (hg : okG (n : Int) es) :
    Calls Try.prog 28 #[.int .i64 (n : Int), .slice AE es.length cE] w fun e w' => ∃ G, e = .returned (.pointer (some ⟨G, 0, none⟩)) ∧ IsGraph w' G n es ∧ Below w.heap.size w w' := by
  have hn12 : n ≤ 12 := by have := hg.1; omega
  have h30 : es.length ≤ 30 := hg.2.1
  have HE := Lib.hid hE
  have HG := Lib.hid hg
  have hmk : ∀ W : World, (Instr.makeSlice 64 (.int .i64 (n : Int)) (.int .i64 (n : Int))).run Try.prog W = .ok (.slice (some ⟨W.heap.size, 0, none⟩) n n) (W.alloc (.cells (madeCells #[.slice none 0 0] n) 37)) := hmk64 n (by omega)
  have hmm := @run_makeMap Try.prog
  clear hE hg
  go_enter Try.func28, Try.ntmps28
  go_upto_region 1 with (fail)
  go_cut [5] (fun v5 wx => ∃ G O I M, v5 = .pointer (some ⟨G, 0, none⟩) ∧ Hid (Begun w wx G O I M AE cE n es))
  case first =>
    go_region_with (fail)
    all_goals
      go_wp2_with (fail)
      go_meet
      obtain ⟨h0, h1, h2, h3, hb⟩ := four_alloc w _ _ _ _
      exact ⟨_, _, _, _, rfl, h3, by assumption, by assumption, by assumption, by omega, by omega, by omega, by omega, hb⟩
  case rest =>
    obtain ⟨G, O, I, M, rfl, hB⟩ := hcut
    obtain ⟨b1, b2, b3, b4, b5, b6, b7, b9, b8⟩ := hB.out
    have hms := MS.start (w0 := w) b1 b2 b3 b4 b5 b6 b7 b9 (by unfold maxLen; omega) b8
    have HMS := Lib.hid hms
    clear hms hB b1 b2 b3 b4 b5 b6 b7 b8 b9 hmk hmm
    go_wp2_with (fail)
    go_loopw [18] (fun x wr => ∃ j : Nat, x = .int .i64 (j : Int) ∧ j ≤ es.length ∧ Hid (MadeSo w wr G O I M AE cE n es j)) (fun x _ => es.length - (intOf x).toNat)
    case atStart => exact ⟨0, rfl, Nat.zero_le _, _, _, _, _, HMS.out, fun v _ => rfl, fun v _ => rfl⟩
    case round =>
      clear HMS
      obtain ⟨j, rfl, hj, hR⟩ := hrel
      obtain ⟨rv, rl, me, clock, hM, hout, hin⟩ := hR.out
      by_cases hlt : j < es.length
      · obtain ⟨p, hp⟩ : ∃ p, es[j]? = some p := ⟨_, List.getElem?_eq_getElem hlt⟩
        obtain ⟨g, o, hA, _, c0, c1⟩ := (HE.out.below hM.below) j p hp
        subst hA
        have hpin := HG.out.2.2 p (List.mem_of_getElem? hp)
        have hpd : es.getD j noEdge = p := by rw [List.getD_eq_getElem?_getD, hp]; rfl
        obtain ⟨p1, p2⟩ := p
        dsimp only at c0 c1 hpin
        obtain ⟨a, rfl⟩ : ∃ a : Nat, p1 = (a : Int) := ⟨p1.toNat, by omega⟩
        obtain ⟨b, rfl⟩ : ∃ b : Nat, p2 = (b : Int) := ⟨p2.toNat, by omega⟩
        have ha : a < n := by omega
        have hb : b < n := by omega
        have HPD := Lib.hid hpd
        have qd : decide ((j : Int) < (es.length : Int)) = true := decide_eq_true (by omega)
        have z1 : (j : Int) < (es.length : Int) := by omega
        have z0 : (0 : Int) ≤ (j : Int) := by omega
        have hw : IntKind.i64.wrap ((j : Int) + 1) = ((j + 1 : Nat) : Int) := by rw [IntWalk.i64_in _ (by omega)]; omega
        obtain ⟨we, hwe⟩ : ∃ we, we = wr.alloc (.cells #[.int .i64 (a : Int), .int .i64 (b : Int)] 36) := ⟨_, rfl⟩
        have hbe : Below wr.heap.size wr we := by rw [hwe]; exact (Below.refl _ wr).alloc (Nat.le_refl _) _
        have hxe : we.heap[wr.heap.size]? = some (.cells #[.int .i64 (a : Int), .int .i64 (b : Int)] 36 (0, 0)) := by rw [hwe]; exact blk_new wr _
        have HM := Lib.hid (hM.moved hbe)
        have HXE := Lib.hid hxe
        have HWE := Lib.hid hwe
        have HOUT := Lib.hid hout
        have HIN := Lib.hid hin
        have HLEN : Hid (∀ i, i < n + n → (rl i).length ≤ 999) := fun i hi => by
          by_cases e : i < n
          · rw [HOUT.out i e]; exact Nat.le_trans (pick_len _ _) (by omega)
          · have := HIN.out (i - n) (by omega)
            rw [show n + (i - n) = i by omega] at this
            rw [this]; exact Nat.le_trans (pick_len _ _) (by omega)
        clear hbe hxe hwe hM hout hin hR hp hpd hpin
        go_upto_region 5 with (fail)
        rw [← HWE.out]
        clear c0 c1
        go_cut [40] (fun v40 wx => ∃ rv' rl', v40 = .pointer (some ⟨O, a, none⟩) ∧ Hid (MS w wx G O I M (some ⟨g, o, none⟩) cE n es j rv' rl' me clock ∧ rl' = upd rl a (rl a ++ [(j : Int)]) ∧ wx.heap[wr.heap.size]? = some (.cells #[.int .i64 (a : Int), .int .i64 (b : Int)] 36 (0, 0))))
        case first =>
          obtain ⟨B1, c1, hv1⟩ := own_slice (HM.out.rows.1 (a) (by omega))
          have HMD : Hid (MS w we.drew G O I M (some ⟨g, o, none⟩) cE n es j rv rl me clock) := HM.out.moved (below_drew (Below.refl _ _))
          have x1 : we.cell? ⟨G, 1, none⟩ = some (.slice (some ⟨O, 0, none⟩) n n) := by rw [blk_cell HM.out.obj]; rfl
          have x2 : we.cell? ⟨O, a, none⟩ = some (.slice B1 (rl (a)).length c1) := by rw [HM.out.outCell ha, hv1]
          have x3 : we.cell? ⟨wr.heap.size, 0, none⟩ = some (.int .i64 (a : Int)) := by rw [blk_cell HXE.out]; rfl
          have hO5 : we.drew.ownsRow w.heap.size 3 1 (.slice B1 (rl (a)).length c1) (rl (a)).length (nums .i64 (rl (a))) := by rw [← hv1]; exact HMD.out.rows.1 (a) (by omega)
          have HO5 := Lib.hid hO5
          have HV1 := Lib.hid hv1
          have hBd : Hid (Below w.heap.size w we.drew) := below_drew HM.out.below
          have v1 : ((a : Nat) : Int) < (n : Int) := by omega
          have v0 : (0 : Int) ≤ ((a : Nat) : Int) := by omega
          have hrl30 : (rl (a)).length ≤ 1000 := Nat.le_trans (HLEN.out (a) (by omega)) (by decide)
          have hlong : ((rl (a)).length + 1) * 8 ≤ 140737488355328 := by omega
          have HAL : Hid (((we.drew.alloc (.cells #[.int .i64 (j : Int)] 3)).cell? ⟨G, 1, none⟩ = some (.slice (some ⟨O, 0, none⟩) n n) ∧ (we.drew.alloc (.cells #[.int .i64 (j : Int)] 3)).cell? ⟨wr.heap.size, 0, none⟩ = some (.int .i64 (a : Int))) ∧ (we.alloc (.cells #[.int .i64 (j : Int)] 3)).cell? ⟨O, a, none⟩ = some (.slice B1 (rl (a)).length c1)) := by
            refine ⟨⟨?_, ?_⟩, ?_⟩
            · exact (World.cell?_alloc_some _ _ _ (by show (we.cell? _).isSome = true; rw [x1]; rfl)).trans x1
            · exact (World.cell?_alloc_some _ _ _ (by show (we.cell? _).isSome = true; rw [x3]; rfl)).trans x3
            · exact (World.cell?_alloc_some _ _ _ (by rw [x2]; rfl)).trans x2
          have HAPP : Hid (∀ w3 : World, we.drew.grownBy w3 (Value.slice B1 (rl (a)).length c1).ownBlock → (w3.cell? ⟨G, 1, none⟩ = some (.slice (some ⟨O, 0, none⟩) n n) ∧ w3.cell? ⟨wr.heap.size, 0, none⟩ = some (.int .i64 (a : Int))) ∧ (∀ u, ((w3.setCell ⟨O, a, none⟩ u).cell? ⟨G, 1, none⟩ = some (.slice (some ⟨O, 0, none⟩) n n) ∧ (w3.setCell ⟨O, a, none⟩ u).cell? ⟨wr.heap.size, 0, none⟩ = some (.int .i64 (a : Int)))) ∧ w3.cell? ⟨O, a, none⟩ = some (rv (a)) ∧ w3.frozen? ⟨O, a, none⟩ = false) := fun w3 hg3 => by
            have k1 : w3.heap[G]? = _ := blk_grown (w := we.drew) HM.out.obj hg3 (own_ne (w := we.drew) HO5.out HM.out.obj (by decide))
            have k3 : w3.heap[wr.heap.size]? = _ := blk_grown (w := we.drew) HXE.out hg3 (own_ne (w := we.drew) HO5.out HXE.out (by decide))
            have k2 := own_other HMD.out.out hg3 (own_type_ne HMD.out.out HO5.out (by decide))
            obtain ⟨cells, hX⟩ := own_typed k2 O rfl
            refine ⟨⟨by rw [blk_cell k1]; rfl, by rw [blk_cell k3]; rfl⟩, fun u => ⟨by rw [blk_cell (blk_far k1 (blk_ne k1 hX (by decide)) u)]; rfl, by rw [blk_cell (blk_far k3 (blk_ne k3 hX (by decide)) u)]; rfl⟩, ?_, k2.frozenAt _⟩
            rw [k2.cellAt a (by omega)]
            simp [ha]
          have HFIN : Hid (∀ (w3 : World) (v3 : Value), w3.ownsRow w.heap.size 3 1 v3 ((rl (a)).length + 1) (nums .i64 (rl (a)) ++ [.int .i64 (j : Int)]) → we.drew.grownBy w3 (Value.slice B1 (rl (a)).length c1).ownBlock → (v3.ownBlock = (Value.slice B1 (rl (a)).length c1).ownBlock ∨ ∃ x, v3.ownBlock = some x ∧ we.drew.heap.size ≤ x) → Below w.heap.size w w3 →
              MS w (w3.setCell ⟨O, a, none⟩ v3) G O I M (some ⟨g, o, none⟩) cE n es j (upd rv (a) v3) (upd rl (a) (rl (a) ++ [(j : Int)])) me clock ∧ (upd rl (a) (rl (a) ++ [(j : Int)])) = upd rl (a) (rl (a) ++ [(j : Int)]) ∧ (w3.setCell ⟨O, a, none⟩ v3).heap[wr.heap.size]? = some (.cells #[.int .i64 (a : Int), .int .i64 (b : Int)] 36 (0, 0))) := fun w3 v3 hown3 hg3 hat3 hb3 => by
            rw [← HV1.out] at hg3 hat3
            refine ⟨HMD.out.pushOut ha hown3 hg3 hat3 hb3, rfl, ?_⟩
            obtain ⟨cells, hX⟩ := own_typed (own_other HMD.out.out hg3 (own_type_ne HMD.out.out (by rw [HV1.out]; exact HO5.out) (by decide))) O rfl
            have k3 : w3.heap[wr.heap.size]? = _ := blk_grown (w := we.drew) HXE.out hg3 (own_ne (w := we.drew) (by rw [HV1.out]; exact HO5.out) HXE.out (by decide))
            exact blk_far k3 (blk_ne k3 hX (by decide)) _
          clear hv1 hO5
          refine wp_region_any (by kernel_rfl) ?_
          change wpAny _ _ _ _ _ _ _ (World.drew we)
          have hHeld : (fun w' : World => w'.cell? ⟨G, 1, none⟩ = some (.slice (some ⟨O, 0, none⟩) n n) ∧ w'.cell? ⟨wr.heap.size, 0, none⟩ = some (.int .i64 (a : Int))) we.drew := ⟨x1, x3⟩
          refine wpAny_of_held (S := fun w' : World => w'.cell? ⟨G, 1, none⟩ = some (.slice (some ⟨O, 0, none⟩) n n) ∧ w'.cell? ⟨wr.heap.size, 0, none⟩ = some (.int .i64 (a : Int))) _ _ _ _ ?_
          refine take_at (i := 0) (d := 23) (v := ?_) rfl rfl (by kernel_rfl) (by kernel_rfl) (by kernel_rfl) (fun _ _ _ h => h) (Or.inl ⟨by rfl, ?hy0p⟩) (by assumption) ?rest0p
          case hy0p => intro w' hSw; (try dsimp only at hSw); obtain ⟨s1, s2⟩ := hSw; go_simp; try with_reducible rfl
          simp only [List.setIfInBounds_toArray, List.set_cons_zero, List.set_cons_succ]
          refine take_at (i := 1) (d := 24) (v := ?_) rfl rfl (by kernel_rfl) (by kernel_rfl) (by kernel_rfl) (fun _ _ _ h => h) (Or.inl ⟨by rfl, ?hy1p⟩) (by assumption) ?rest1p
          case hy1p => intro w' hSw; (try dsimp only at hSw); obtain ⟨s1, s2⟩ := hSw; go_simp; try with_reducible rfl
          simp only [List.setIfInBounds_toArray, List.set_cons_zero, List.set_cons_succ]
          refine take_at (i := 2) (d := 25) (v := ?_) rfl rfl (by kernel_rfl) (by kernel_rfl) (by kernel_rfl) (fun _ _ _ h => h) (Or.inl ⟨by rfl, ?hy2p⟩) (by assumption) ?rest2p
          case hy2p => intro w' hSw; (try dsimp only at hSw); obtain ⟨s1, s2⟩ := hSw; go_simp; try with_reducible rfl
          simp only [List.setIfInBounds_toArray, List.set_cons_zero, List.set_cons_succ]
          refine take_at (i := 3) (d := 26) (v := ?_) rfl rfl (by kernel_rfl) (by kernel_rfl) (by kernel_rfl) (fun _ _ _ h => h) (Or.inl ⟨by rfl, ?hy3p⟩) (by assumption) ?rest3p
          case hy3p => intro w' hSw; (try dsimp only at hSw); obtain ⟨s1, s2⟩ := hSw; go_simp; try with_reducible rfl
          simp only [List.setIfInBounds_toArray, List.set_cons_zero, List.set_cons_succ]
          refine take_at (i := 4) (d := 27) (v := ?_) rfl rfl (by kernel_rfl) (by kernel_rfl) (by kernel_rfl) (fun _ _ _ h => h) (Or.inl ⟨by rfl, ?hy4p⟩) (by assumption) ?rest4p
          case hy4p => intro w' hSw; (try dsimp only at hSw); obtain ⟨s1, s2⟩ := hSw; go_simp; try with_reducible rfl
          simp only [List.setIfInBounds_toArray, List.set_cons_zero, List.set_cons_succ]
          refine take_at (i := 5) (d := 28) (v := ?_) rfl rfl (by kernel_rfl) (by kernel_rfl) (by kernel_rfl) (fun _ _ _ h => h) (Or.inl ⟨by rfl, ?hy5p⟩) (by assumption) ?rest5p
          case hy5p => intro w' hSw; (try dsimp only at hSw); obtain ⟨s1, s2⟩ := hSw; go_simp; try with_reducible rfl
          simp only [List.setIfInBounds_toArray, List.set_cons_zero, List.set_cons_succ]
          refine take_at (i := 6) (d := 29) (v := ?_) rfl rfl (by kernel_rfl) (by kernel_rfl) (by kernel_rfl) (fun _ _ _ h => h) (Or.inl ⟨by rfl, ?hy6p⟩) (by assumption) ?rest6p
          case hy6p => intro w' hSw; (try dsimp only at hSw); obtain ⟨s1, s2⟩ := hSw; go_simp; try with_reducible rfl
          simp only [List.setIfInBounds_toArray, List.set_cons_zero, List.set_cons_succ]
          refine take_at (i := 7) (d := 30) (v := ?_) rfl rfl (by kernel_rfl) (by kernel_rfl) (by kernel_rfl) (fun _ _ _ h => h) (Or.inl ⟨by rfl, ?hy7p⟩) (by assumption) ?rest7p
          case hy7p => intro w' hSw; (try dsimp only at hSw); obtain ⟨s1, s2⟩ := hSw; go_simp; try with_reducible rfl
          simp only [List.setIfInBounds_toArray, List.set_cons_zero, List.set_cons_succ]
          refine take_at (i := 8) (d := 31) (v := ?_) rfl rfl (by kernel_rfl) (by kernel_rfl) (by kernel_rfl) (fun _ _ _ h => h) (Or.inl ⟨by rfl, ?hy8p⟩) (by assumption) ?rest8p
          case hy8p => intro w' hSw; (try dsimp only at hSw); obtain ⟨s1, s2⟩ := hSw; go_simp; try with_reducible rfl
          simp only [List.setIfInBounds_toArray, List.set_cons_zero, List.set_cons_succ]
          refine take_at (i := 9) (d := 32) (v := ?_) rfl rfl (by kernel_rfl) (by kernel_rfl) (by kernel_rfl) (fun _ _ _ h => h) (Or.inl ⟨by rfl, ?hy9p⟩) (by assumption) ?rest9p
          case hy9p => intro w' hSw; (try dsimp only at hSw); obtain ⟨s1, s2⟩ := hSw; go_simp; try with_reducible rfl
          simp only [List.setIfInBounds_toArray, List.set_cons_zero, List.set_cons_succ]
          refine take_at (i := 10) (d := 33) (v := ?_) rfl rfl (by kernel_rfl) (by kernel_rfl) (by kernel_rfl) (fun _ _ _ h => h) (Or.inl ⟨by rfl, ?hy10p⟩) (by assumption) ?rest10p
          case hy10p => intro w' hSw; (try dsimp only at hSw); obtain ⟨s1, s2⟩ := hSw; go_simp; try with_reducible rfl
          simp only [List.setIfInBounds_toArray, List.set_cons_zero, List.set_cons_succ]
          refine take_at (i := 11) (d := 34) (v := ?_) rfl rfl (by kernel_rfl) (by kernel_rfl) (by kernel_rfl) (fun _ _ _ h => h) (Or.inl ⟨by rfl, ?hy11p⟩) (by assumption) ?rest11p
          case hy11p => intro w' hSw; (try dsimp only at hSw); obtain ⟨s1, s2⟩ := hSw; go_simp; try with_reducible rfl
          simp only [List.setIfInBounds_toArray, List.set_cons_zero, List.set_cons_succ]
          refine take_at (i := 12) (d := 35) (v := ?_) rfl rfl (by kernel_rfl) (by kernel_rfl) (by kernel_rfl) (fun _ _ _ h => h) (Or.inl ⟨by rfl, ?hy12p⟩) (by assumption) ?rest12p
          case hy12p => intro w' hSw; (try dsimp only at hSw); obtain ⟨s1, s2⟩ := hSw; go_simp; try with_reducible rfl
          simp only [List.setIfInBounds_toArray, List.set_cons_zero, List.set_cons_succ]
          refine take_at (i := 14) (d := 37) (v := ?_) rfl rfl (by kernel_rfl) (by kernel_rfl) (by kernel_rfl) (fun _ _ _ h => h) (Or.inl ⟨by rfl, ?hy14p⟩) (by assumption) ?rest14p
          case hy14p => intro w' hSw; (try dsimp only at hSw); obtain ⟨s1, s2⟩ := hSw; go_simp; try with_reducible rfl
          simp only [List.setIfInBounds_toArray, List.set_cons_zero, List.set_cons_succ]
          refine wpAnyH_ready (rs := [13, 15]) (by kernel_rfl) (by simp) ?_
          refine AllReadyH.cons rfl (fun K hK => ?_) (AllReadyH.cons rfl (fun K hK => ?_) AllReadyH.nil)
          · go_simp
            refine hK.out _ _ hHeld (fun hHeld => ?_)
            clear hK K
            try simp only [Act.put, List.setIfInBounds_toArray, List.set_cons_zero, List.set_cons_succ]
            refine wpAnyH_ready (rs := [15]) (by kernel_rfl) (by simp) ?_
            refine AllReadyH.cons rfl (fun K hK => ?_) AllReadyH.nil
            go_simp
            refine hK.out _ _ HAL.out.1 (fun hHeld => ?_)
            clear hK K
            try simp only [Act.put, List.setIfInBounds_toArray, List.set_cons_zero, List.set_cons_succ]
            refine wpAnyH_ready (rs := [16]) (by kernel_rfl) (by simp) ?_
            refine AllReadyH.cons rfl (fun K hK => ?_) AllReadyH.nil
            refine step_append_cells (W := we.drew) (w0 := w) w.heap.size rfl (.tmp 36) (.tmp 38) 37 3 (.int .i64 0) 1 8 rfl Try.underlying37 info3 rfl (by decide) (by decide) (.slice B1 (rl (a)).length c1) (rl (a)).length (nums .i64 (rl (a))) [.int .i64 (j : Int)] rfl rfl rfl (by intro u hu; simp at hu; subst hu; rfl) HO5.out hBd.out hBd.out.size hlong ?_
            intro v3 w3 hown3 hb3 hg3 hat3
            obtain ⟨g3, cap3, rfl, _, _⟩ := hown3.form (Nat.succ_pos _)
            have hA := HAPP.out w3 hg3
            have hF3 := Lib.hid (HFIN.out w3 _ hown3 hg3 hat3 hb3)
            obtain ⟨hA1, hA2, hA3, hA4⟩ := hA
            have HA2 := Lib.hid hA2
            clear hA2 hown3 hb3 hg3 hat3
            refine hK.out _ _ hA1 (fun hHeld => ?_)
            clear hK K
            change wpAnyH _ _ _ _ _ _ _ (Act.put _ (some 39) _) _
            simp only [Act.put, List.setIfInBounds_toArray, List.set_cons_zero, List.set_cons_succ]
            refine take_at (i := 17) (d := 40) (v := ?_) rfl rfl (by kernel_rfl) (by kernel_rfl) (by kernel_rfl) (fun _ _ _ h => h) (Or.inl ⟨by rfl, ?hy17pa⟩) (by assumption) ?rest17pa
            case hy17pa => intro w' hSw; (try dsimp only at hSw); obtain ⟨s1, s2⟩ := hSw; go_simp; try with_reducible rfl
            simp only [List.setIfInBounds_toArray, List.set_cons_zero, List.set_cons_succ]
            refine wpAnyH_ready (rs := [18]) (by kernel_rfl) (by simp) ?_
            refine AllReadyH.cons rfl (fun K hK => ?_) AllReadyH.nil
            go_simp
            refine hK.out _ _ (HA2.out _) (fun hHeld => ?_)
            clear hK K
            refine wpAnyH_done (by kernel_rfl) ?_ _
            go_wp2_with (fail)
            go_meet
            case rel => exact ⟨_, _, rfl, ⟨hF3.out.1, rfl, hF3.out.2.2⟩⟩
          · go_simp
            refine hK.out _ _ HAL.out.1 (fun hHeld => ?_)
            clear hK K
            try simp only [Act.put, List.setIfInBounds_toArray, List.set_cons_zero, List.set_cons_succ]
            have hal := HAL.out.2
            refine wpAnyH_ready (rs := [13]) (by kernel_rfl) (by simp) ?_
            refine AllReadyH.cons rfl (fun K hK => ?_) AllReadyH.nil
            go_simp
            refine hK.out _ _ HAL.out.1 (fun hHeld => ?_)
            clear hK K
            try simp only [Act.put, List.setIfInBounds_toArray, List.set_cons_zero, List.set_cons_succ]
            refine wpAnyH_ready (rs := [16]) (by kernel_rfl) (by simp) ?_
            refine AllReadyH.cons rfl (fun K hK => ?_) AllReadyH.nil
            refine step_append_cells (W := we.drew) (w0 := w) w.heap.size rfl (.tmp 36) (.tmp 38) 37 3 (.int .i64 0) 1 8 rfl Try.underlying37 info3 rfl (by decide) (by decide) (.slice B1 (rl (a)).length c1) (rl (a)).length (nums .i64 (rl (a))) [.int .i64 (j : Int)] rfl rfl rfl (by intro u hu; simp at hu; subst hu; rfl) HO5.out hBd.out hBd.out.size hlong ?_
            intro v3 w3 hown3 hb3 hg3 hat3
            obtain ⟨g3, cap3, rfl, _, _⟩ := hown3.form (Nat.succ_pos _)
            have hA := HAPP.out w3 hg3
            have hF3 := Lib.hid (HFIN.out w3 _ hown3 hg3 hat3 hb3)
            obtain ⟨hA1, hA2, hA3, hA4⟩ := hA
            have HA2 := Lib.hid hA2
            clear hA2 hown3 hb3 hg3 hat3
            refine hK.out _ _ hA1 (fun hHeld => ?_)
            clear hK K
            change wpAnyH _ _ _ _ _ _ _ (Act.put _ (some 39) _) _
            simp only [Act.put, List.setIfInBounds_toArray, List.set_cons_zero, List.set_cons_succ]
            refine take_at (i := 17) (d := 40) (v := ?_) rfl rfl (by kernel_rfl) (by kernel_rfl) (by kernel_rfl) (fun _ _ _ h => h) (Or.inl ⟨by rfl, ?hy17pb⟩) (by assumption) ?rest17pb
            case hy17pb => intro w' hSw; (try dsimp only at hSw); obtain ⟨s1, s2⟩ := hSw; go_simp; try with_reducible rfl
            simp only [List.setIfInBounds_toArray, List.set_cons_zero, List.set_cons_succ]
            refine wpAnyH_ready (rs := [18]) (by kernel_rfl) (by simp) ?_
            refine AllReadyH.cons rfl (fun K hK => ?_) AllReadyH.nil
            go_simp
            refine hK.out _ _ (HA2.out _) (fun hHeld => ?_)
            clear hK K
            refine wpAnyH_done (by kernel_rfl) ?_ _
            go_wp2_with (fail)
            go_meet
            case rel => exact ⟨_, _, rfl, ⟨hF3.out.1, rfl, hF3.out.2.2⟩⟩
        case rest =>
          obtain ⟨rv1, rl1, rfl, hC⟩ := hcut
          obtain ⟨hM1, hrl1, hx1⟩ := hC.out
          have HLEN1 : Hid (∀ i, i < n + n → (rl1 i).length ≤ 1000) := fun i hi => by
            rw [hrl1]
            by_cases e : i = a
            · subst e
              rw [upd_same, List.length_append, List.length_singleton]
              have := pick_len (fromB es i) j
              rw [HOUT.out i ha]
              omega
            · rw [upd_other _ _ e]; exact Nat.le_trans (HLEN.out i hi) (by decide)
          have HRL1 := Lib.hid hrl1
          clear HM HXE HLEN hC
          have HM := Lib.hid hM1
          have HXE := Lib.hid hx1
          have HLEN := Lib.hid HLEN1.out
          clear hM1 hrl1 hx1 HLEN1
          go_upto_region 6 with (fail)
          go_cut [58] (fun v58 wx => ∃ rv' rl', v58 = .pointer (some ⟨I, b, none⟩) ∧ Hid (MS w wx G O I M (some ⟨g, o, none⟩) cE n es j rv' rl' me clock ∧ rl' = upd rl1 (n + b) (rl1 (n + b) ++ [(j : Int)]) ∧ wx.heap[wr.heap.size]? = some (.cells #[.int .i64 (a : Int), .int .i64 (b : Int)] 36 (0, 0))))
          case first =>
            obtain ⟨B1, c1, hv1⟩ := own_slice (HM.out.rows.1 (n + b) (by omega))
            have HMD : Hid (MS w wc.drew G O I M (some ⟨g, o, none⟩) cE n es j rv1 rl1 me clock) := HM.out.moved (below_drew (Below.refl _ _))
            have x1 : wc.cell? ⟨G, 2, none⟩ = some (.slice (some ⟨I, 0, none⟩) n n) := by rw [blk_cell HM.out.obj]; rfl
            have x2 : wc.cell? ⟨I, b, none⟩ = some (.slice B1 (rl1 (n + b)).length c1) := by rw [HM.out.innCell hb, hv1]
            have x3 : wc.cell? ⟨wr.heap.size, 1, none⟩ = some (.int .i64 (b : Int)) := by rw [blk_cell HXE.out]; rfl
            have hO5 : wc.drew.ownsRow w.heap.size 3 1 (.slice B1 (rl1 (n + b)).length c1) (rl1 (n + b)).length (nums .i64 (rl1 (n + b))) := by rw [← hv1]; exact HMD.out.rows.1 (n + b) (by omega)
            have HO5 := Lib.hid hO5
            have HV1 := Lib.hid hv1
            have hBd : Hid (Below w.heap.size w wc.drew) := below_drew HM.out.below
            have v1 : ((b : Nat) : Int) < (n : Int) := by omega
            have v0 : (0 : Int) ≤ ((b : Nat) : Int) := by omega
            have hrl30 : (rl1 (n + b)).length ≤ 1000 := Nat.le_trans (HLEN.out (n + b) (by omega)) (by decide)
            have hlong : ((rl1 (n + b)).length + 1) * 8 ≤ 140737488355328 := by omega
            have HAL : Hid (((wc.drew.alloc (.cells #[.int .i64 (j : Int)] 3)).cell? ⟨G, 2, none⟩ = some (.slice (some ⟨I, 0, none⟩) n n) ∧ (wc.drew.alloc (.cells #[.int .i64 (j : Int)] 3)).cell? ⟨wr.heap.size, 1, none⟩ = some (.int .i64 (b : Int))) ∧ (wc.alloc (.cells #[.int .i64 (j : Int)] 3)).cell? ⟨I, b, none⟩ = some (.slice B1 (rl1 (n + b)).length c1)) := by
              refine ⟨⟨?_, ?_⟩, ?_⟩
              · exact (World.cell?_alloc_some _ _ _ (by show (wc.cell? _).isSome = true; rw [x1]; rfl)).trans x1
              · exact (World.cell?_alloc_some _ _ _ (by show (wc.cell? _).isSome = true; rw [x3]; rfl)).trans x3
              · exact (World.cell?_alloc_some _ _ _ (by rw [x2]; rfl)).trans x2
            have HAPP : Hid (∀ w3 : World, wc.drew.grownBy w3 (Value.slice B1 (rl1 (n + b)).length c1).ownBlock → (w3.cell? ⟨G, 2, none⟩ = some (.slice (some ⟨I, 0, none⟩) n n) ∧ w3.cell? ⟨wr.heap.size, 1, none⟩ = some (.int .i64 (b : Int))) ∧ (∀ u, ((w3.setCell ⟨I, b, none⟩ u).cell? ⟨G, 2, none⟩ = some (.slice (some ⟨I, 0, none⟩) n n) ∧ (w3.setCell ⟨I, b, none⟩ u).cell? ⟨wr.heap.size, 1, none⟩ = some (.int .i64 (b : Int)))) ∧ w3.cell? ⟨I, b, none⟩ = some (rv1 (n + b)) ∧ w3.frozen? ⟨I, b, none⟩ = false) := fun w3 hg3 => by
              have k1 : w3.heap[G]? = _ := blk_grown (w := wc.drew) HM.out.obj hg3 (own_ne (w := wc.drew) HO5.out HM.out.obj (by decide))
              have k3 : w3.heap[wr.heap.size]? = _ := blk_grown (w := wc.drew) HXE.out hg3 (own_ne (w := wc.drew) HO5.out HXE.out (by decide))
              have k2 := own_other HMD.out.inn hg3 (own_type_ne HMD.out.inn HO5.out (by decide))
              obtain ⟨cells, hX⟩ := own_typed k2 I rfl
              refine ⟨⟨by rw [blk_cell k1]; rfl, by rw [blk_cell k3]; rfl⟩, fun u => ⟨by rw [blk_cell (blk_far k1 (blk_ne k1 hX (by decide)) u)]; rfl, by rw [blk_cell (blk_far k3 (blk_ne k3 hX (by decide)) u)]; rfl⟩, ?_, k2.frozenAt _⟩
              rw [k2.cellAt b (by omega)]
              simp [hb]
            have HFIN : Hid (∀ (w3 : World) (v3 : Value), w3.ownsRow w.heap.size 3 1 v3 ((rl1 (n + b)).length + 1) (nums .i64 (rl1 (n + b)) ++ [.int .i64 (j : Int)]) → wc.drew.grownBy w3 (Value.slice B1 (rl1 (n + b)).length c1).ownBlock → (v3.ownBlock = (Value.slice B1 (rl1 (n + b)).length c1).ownBlock ∨ ∃ x, v3.ownBlock = some x ∧ wc.drew.heap.size ≤ x) → Below w.heap.size w w3 →
                MS w (w3.setCell ⟨I, b, none⟩ v3) G O I M (some ⟨g, o, none⟩) cE n es j (upd rv1 (n + b) v3) (upd rl1 (n + b) (rl1 (n + b) ++ [(j : Int)])) me clock ∧ (upd rl1 (n + b) (rl1 (n + b) ++ [(j : Int)])) = upd rl1 (n + b) (rl1 (n + b) ++ [(j : Int)]) ∧ (w3.setCell ⟨I, b, none⟩ v3).heap[wr.heap.size]? = some (.cells #[.int .i64 (a : Int), .int .i64 (b : Int)] 36 (0, 0))) := fun w3 v3 hown3 hg3 hat3 hb3 => by
              rw [← HV1.out] at hg3 hat3
              refine ⟨HMD.out.pushIn hb hown3 hg3 hat3 hb3, rfl, ?_⟩
              obtain ⟨cells, hX⟩ := own_typed (own_other HMD.out.inn hg3 (own_type_ne HMD.out.inn (by rw [HV1.out]; exact HO5.out) (by decide))) I rfl
              have k3 : w3.heap[wr.heap.size]? = _ := blk_grown (w := wc.drew) HXE.out hg3 (own_ne (w := wc.drew) (by rw [HV1.out]; exact HO5.out) HXE.out (by decide))
              exact blk_far k3 (blk_ne k3 hX (by decide)) _
            clear hv1 hO5
            refine wp_region_any (by kernel_rfl) ?_
            change wpAny _ _ _ _ _ _ _ (World.drew wc)
            have hHeld : (fun w' : World => w'.cell? ⟨G, 2, none⟩ = some (.slice (some ⟨I, 0, none⟩) n n) ∧ w'.cell? ⟨wr.heap.size, 1, none⟩ = some (.int .i64 (b : Int))) wc.drew := ⟨x1, x3⟩
            refine wpAny_of_held (S := fun w' : World => w'.cell? ⟨G, 2, none⟩ = some (.slice (some ⟨I, 0, none⟩) n n) ∧ w'.cell? ⟨wr.heap.size, 1, none⟩ = some (.int .i64 (b : Int))) _ _ _ _ ?_
            refine take_at (i := 0) (d := 41) (v := ?_) rfl rfl (by kernel_rfl) (by kernel_rfl) (by kernel_rfl) (fun _ _ _ h => h) (Or.inl ⟨by rfl, ?hy0q⟩) (by assumption) ?rest0q
            case hy0q => intro w' hSw; (try dsimp only at hSw); obtain ⟨s1, s2⟩ := hSw; go_simp; try with_reducible rfl
            simp only [List.setIfInBounds_toArray, List.set_cons_zero, List.set_cons_succ]
            refine take_at (i := 1) (d := 42) (v := ?_) rfl rfl (by kernel_rfl) (by kernel_rfl) (by kernel_rfl) (fun _ _ _ h => h) (Or.inl ⟨by rfl, ?hy1q⟩) (by assumption) ?rest1q
            case hy1q => intro w' hSw; (try dsimp only at hSw); obtain ⟨s1, s2⟩ := hSw; go_simp; try with_reducible rfl
            simp only [List.setIfInBounds_toArray, List.set_cons_zero, List.set_cons_succ]
            refine take_at (i := 2) (d := 43) (v := ?_) rfl rfl (by kernel_rfl) (by kernel_rfl) (by kernel_rfl) (fun _ _ _ h => h) (Or.inl ⟨by rfl, ?hy2q⟩) (by assumption) ?rest2q
            case hy2q => intro w' hSw; (try dsimp only at hSw); obtain ⟨s1, s2⟩ := hSw; go_simp; try with_reducible rfl
            simp only [List.setIfInBounds_toArray, List.set_cons_zero, List.set_cons_succ]
            refine take_at (i := 3) (d := 44) (v := ?_) rfl rfl (by kernel_rfl) (by kernel_rfl) (by kernel_rfl) (fun _ _ _ h => h) (Or.inl ⟨by rfl, ?hy3q⟩) (by assumption) ?rest3q
            case hy3q => intro w' hSw; (try dsimp only at hSw); obtain ⟨s1, s2⟩ := hSw; go_simp; try with_reducible rfl
            simp only [List.setIfInBounds_toArray, List.set_cons_zero, List.set_cons_succ]
            refine take_at (i := 4) (d := 45) (v := ?_) rfl rfl (by kernel_rfl) (by kernel_rfl) (by kernel_rfl) (fun _ _ _ h => h) (Or.inl ⟨by rfl, ?hy4q⟩) (by assumption) ?rest4q
            case hy4q => intro w' hSw; (try dsimp only at hSw); obtain ⟨s1, s2⟩ := hSw; go_simp; try with_reducible rfl
            simp only [List.setIfInBounds_toArray, List.set_cons_zero, List.set_cons_succ]
            refine take_at (i := 5) (d := 46) (v := ?_) rfl rfl (by kernel_rfl) (by kernel_rfl) (by kernel_rfl) (fun _ _ _ h => h) (Or.inl ⟨by rfl, ?hy5q⟩) (by assumption) ?rest5q
            case hy5q => intro w' hSw; (try dsimp only at hSw); obtain ⟨s1, s2⟩ := hSw; go_simp; try with_reducible rfl
            simp only [List.setIfInBounds_toArray, List.set_cons_zero, List.set_cons_succ]
            refine take_at (i := 6) (d := 47) (v := ?_) rfl rfl (by kernel_rfl) (by kernel_rfl) (by kernel_rfl) (fun _ _ _ h => h) (Or.inl ⟨by rfl, ?hy6q⟩) (by assumption) ?rest6q
            case hy6q => intro w' hSw; (try dsimp only at hSw); obtain ⟨s1, s2⟩ := hSw; go_simp; try with_reducible rfl
            simp only [List.setIfInBounds_toArray, List.set_cons_zero, List.set_cons_succ]
            refine take_at (i := 7) (d := 48) (v := ?_) rfl rfl (by kernel_rfl) (by kernel_rfl) (by kernel_rfl) (fun _ _ _ h => h) (Or.inl ⟨by rfl, ?hy7q⟩) (by assumption) ?rest7q
            case hy7q => intro w' hSw; (try dsimp only at hSw); obtain ⟨s1, s2⟩ := hSw; go_simp; try with_reducible rfl
            simp only [List.setIfInBounds_toArray, List.set_cons_zero, List.set_cons_succ]
            refine take_at (i := 8) (d := 49) (v := ?_) rfl rfl (by kernel_rfl) (by kernel_rfl) (by kernel_rfl) (fun _ _ _ h => h) (Or.inl ⟨by rfl, ?hy8q⟩) (by assumption) ?rest8q
            case hy8q => intro w' hSw; (try dsimp only at hSw); obtain ⟨s1, s2⟩ := hSw; go_simp; try with_reducible rfl
            simp only [List.setIfInBounds_toArray, List.set_cons_zero, List.set_cons_succ]
            refine take_at (i := 9) (d := 50) (v := ?_) rfl rfl (by kernel_rfl) (by kernel_rfl) (by kernel_rfl) (fun _ _ _ h => h) (Or.inl ⟨by rfl, ?hy9q⟩) (by assumption) ?rest9q
            case hy9q => intro w' hSw; (try dsimp only at hSw); obtain ⟨s1, s2⟩ := hSw; go_simp; try with_reducible rfl
            simp only [List.setIfInBounds_toArray, List.set_cons_zero, List.set_cons_succ]
            refine take_at (i := 10) (d := 51) (v := ?_) rfl rfl (by kernel_rfl) (by kernel_rfl) (by kernel_rfl) (fun _ _ _ h => h) (Or.inl ⟨by rfl, ?hy10q⟩) (by assumption) ?rest10q
            case hy10q => intro w' hSw; (try dsimp only at hSw); obtain ⟨s1, s2⟩ := hSw; go_simp; try with_reducible rfl
            simp only [List.setIfInBounds_toArray, List.set_cons_zero, List.set_cons_succ]
            refine take_at (i := 11) (d := 52) (v := ?_) rfl rfl (by kernel_rfl) (by kernel_rfl) (by kernel_rfl) (fun _ _ _ h => h) (Or.inl ⟨by rfl, ?hy11q⟩) (by assumption) ?rest11q
            case hy11q => intro w' hSw; (try dsimp only at hSw); obtain ⟨s1, s2⟩ := hSw; go_simp; try with_reducible rfl
            simp only [List.setIfInBounds_toArray, List.set_cons_zero, List.set_cons_succ]
            refine take_at (i := 12) (d := 53) (v := ?_) rfl rfl (by kernel_rfl) (by kernel_rfl) (by kernel_rfl) (fun _ _ _ h => h) (Or.inl ⟨by rfl, ?hy12q⟩) (by assumption) ?rest12q
            case hy12q => intro w' hSw; (try dsimp only at hSw); obtain ⟨s1, s2⟩ := hSw; go_simp; try with_reducible rfl
            simp only [List.setIfInBounds_toArray, List.set_cons_zero, List.set_cons_succ]
            refine take_at (i := 14) (d := 55) (v := ?_) rfl rfl (by kernel_rfl) (by kernel_rfl) (by kernel_rfl) (fun _ _ _ h => h) (Or.inl ⟨by rfl, ?hy14q⟩) (by assumption) ?rest14q
            case hy14q => intro w' hSw; (try dsimp only at hSw); obtain ⟨s1, s2⟩ := hSw; go_simp; try with_reducible rfl
            simp only [List.setIfInBounds_toArray, List.set_cons_zero, List.set_cons_succ]
            refine wpAnyH_ready (rs := [13, 15]) (by kernel_rfl) (by simp) ?_
            refine AllReadyH.cons rfl (fun K hK => ?_) (AllReadyH.cons rfl (fun K hK => ?_) AllReadyH.nil)
            · go_simp
              refine hK.out _ _ hHeld (fun hHeld => ?_)
              clear hK K
              try simp only [Act.put, List.setIfInBounds_toArray, List.set_cons_zero, List.set_cons_succ]
              refine wpAnyH_ready (rs := [15]) (by kernel_rfl) (by simp) ?_
              refine AllReadyH.cons rfl (fun K hK => ?_) AllReadyH.nil
              go_simp
              refine hK.out _ _ HAL.out.1 (fun hHeld => ?_)
              clear hK K
              try simp only [Act.put, List.setIfInBounds_toArray, List.set_cons_zero, List.set_cons_succ]
              refine wpAnyH_ready (rs := [16]) (by kernel_rfl) (by simp) ?_
              refine AllReadyH.cons rfl (fun K hK => ?_) AllReadyH.nil
              refine step_append_cells (W := wc.drew) (w0 := w) w.heap.size rfl (.tmp 54) (.tmp 56) 37 3 (.int .i64 0) 1 8 rfl Try.underlying37 info3 rfl (by decide) (by decide) (.slice B1 (rl1 (n + b)).length c1) (rl1 (n + b)).length (nums .i64 (rl1 (n + b))) [.int .i64 (j : Int)] rfl rfl rfl (by intro u hu; simp at hu; subst hu; rfl) HO5.out hBd.out hBd.out.size hlong ?_
              intro v3 w3 hown3 hb3 hg3 hat3
              obtain ⟨g3, cap3, rfl, _, _⟩ := hown3.form (Nat.succ_pos _)
              have hA := HAPP.out w3 hg3
              have hF3 := Lib.hid (HFIN.out w3 _ hown3 hg3 hat3 hb3)
              obtain ⟨hA1, hA2, hA3, hA4⟩ := hA
              have HA2 := Lib.hid hA2
              clear hA2 hown3 hb3 hg3 hat3
              refine hK.out _ _ hA1 (fun hHeld => ?_)
              clear hK K
              change wpAnyH _ _ _ _ _ _ _ (Act.put _ (some 57) _) _
              simp only [Act.put, List.setIfInBounds_toArray, List.set_cons_zero, List.set_cons_succ]
              refine take_at (i := 17) (d := 58) (v := ?_) rfl rfl (by kernel_rfl) (by kernel_rfl) (by kernel_rfl) (fun _ _ _ h => h) (Or.inl ⟨by rfl, ?hy17qa⟩) (by assumption) ?rest17qa
              case hy17qa => intro w' hSw; (try dsimp only at hSw); obtain ⟨s1, s2⟩ := hSw; go_simp; try with_reducible rfl
              simp only [List.setIfInBounds_toArray, List.set_cons_zero, List.set_cons_succ]
              refine wpAnyH_ready (rs := [18]) (by kernel_rfl) (by simp) ?_
              refine AllReadyH.cons rfl (fun K hK => ?_) AllReadyH.nil
              go_simp
              refine hK.out _ _ (HA2.out _) (fun hHeld => ?_)
              clear hK K
              refine wpAnyH_done (by kernel_rfl) ?_ _
              go_wp2_with (fail)
              go_meet
              case rel => exact ⟨_, _, rfl, ⟨hF3.out.1, rfl, hF3.out.2.2⟩⟩
            · go_simp
              refine hK.out _ _ HAL.out.1 (fun hHeld => ?_)
              clear hK K
              try simp only [Act.put, List.setIfInBounds_toArray, List.set_cons_zero, List.set_cons_succ]
              have hal := HAL.out.2
              refine wpAnyH_ready (rs := [13]) (by kernel_rfl) (by simp) ?_
              refine AllReadyH.cons rfl (fun K hK => ?_) AllReadyH.nil
              go_simp
              refine hK.out _ _ HAL.out.1 (fun hHeld => ?_)
              clear hK K
              try simp only [Act.put, List.setIfInBounds_toArray, List.set_cons_zero, List.set_cons_succ]
              refine wpAnyH_ready (rs := [16]) (by kernel_rfl) (by simp) ?_
              refine AllReadyH.cons rfl (fun K hK => ?_) AllReadyH.nil
              refine step_append_cells (W := wc.drew) (w0 := w) w.heap.size rfl (.tmp 54) (.tmp 56) 37 3 (.int .i64 0) 1 8 rfl Try.underlying37 info3 rfl (by decide) (by decide) (.slice B1 (rl1 (n + b)).length c1) (rl1 (n + b)).length (nums .i64 (rl1 (n + b))) [.int .i64 (j : Int)] rfl rfl rfl (by intro u hu; simp at hu; subst hu; rfl) HO5.out hBd.out hBd.out.size hlong ?_
              intro v3 w3 hown3 hb3 hg3 hat3
              obtain ⟨g3, cap3, rfl, _, _⟩ := hown3.form (Nat.succ_pos _)
              have hA := HAPP.out w3 hg3
              have hF3 := Lib.hid (HFIN.out w3 _ hown3 hg3 hat3 hb3)
              obtain ⟨hA1, hA2, hA3, hA4⟩ := hA
              have HA2 := Lib.hid hA2
              clear hA2 hown3 hb3 hg3 hat3
              refine hK.out _ _ hA1 (fun hHeld => ?_)
              clear hK K
              change wpAnyH _ _ _ _ _ _ _ (Act.put _ (some 57) _) _
              simp only [Act.put, List.setIfInBounds_toArray, List.set_cons_zero, List.set_cons_succ]
              refine take_at (i := 17) (d := 58) (v := ?_) rfl rfl (by kernel_rfl) (by kernel_rfl) (by kernel_rfl) (fun _ _ _ h => h) (Or.inl ⟨by rfl, ?hy17qb⟩) (by assumption) ?rest17qb
              case hy17qb => intro w' hSw; (try dsimp only at hSw); obtain ⟨s1, s2⟩ := hSw; go_simp; try with_reducible rfl
              simp only [List.setIfInBounds_toArray, List.set_cons_zero, List.set_cons_succ]
              refine wpAnyH_ready (rs := [18]) (by kernel_rfl) (by simp) ?_
              refine AllReadyH.cons rfl (fun K hK => ?_) AllReadyH.nil
              go_simp
              refine hK.out _ _ (HA2.out _) (fun hHeld => ?_)
              clear hK K
              refine wpAnyH_done (by kernel_rfl) ?_ _
              go_wp2_with (fail)
              go_meet
              case rel => exact ⟨_, _, rfl, ⟨hF3.out.1, rfl, hF3.out.2.2⟩⟩
          case rest =>
            obtain ⟨rv2, rl2, rfl, hC⟩ := hcut
            obtain ⟨hM2, hrl2, hx2⟩ := hC.out
            have HRL2 := Lib.hid hrl2
            clear HM HXE HLEN hC hrl2
            obtain ⟨W6, hW6⟩ : ∃ W6, W6 = (wc.alloc (.cells #[.int .i64 (j : Int)] 3)).drew := ⟨_, rfl⟩
            have hb6 : Below wc.heap.size wc W6 := by rw [hW6]; exact below_drew ((Below.refl _ _).alloc (Nat.le_refl _) _)
            have hM6 : MS w W6 G O I M (some ⟨g, o, none⟩) cE n es j rv2 rl2 me clock := hM2.moved hb6
            have hx6 : W6.heap[wr.heap.size]? = some (.cells #[.int .i64 (a : Int), .int .i64 (b : Int)] 36 (0, 0)) := blk_below hx2 hb6
            have hn6 : W6.heap[wc.heap.size]? = some (.cells #[.int .i64 (j : Int)] 3 (0, 0)) := by rw [hW6]; exact blk_new wc _
            have h6s : W6.heap.size = wc.heap.size + 1 := by rw [hW6]; exact Array.size_push _
            obtain ⟨kl, hkl⟩ := edge_key (a : Int) (b : Int) (WalkArith.wf_i64 (by omega)) (WalkArith.wf_i64 (by omega))
            obtain ⟨v0, st, es1, clock1, zs, hzl, hrun, hv0, hfar, hback⟩ := hM6.map.entry (by unfold maxLen; omega) _ kl hkl
            have hMlt := blk_lt hM6.map.blk
            obtain ⟨W7, hW7⟩ : ∃ W7, W7 = setBlock W6 M (.map es1 clock1) := ⟨_, rfl⟩
            have hsame7 : ∀ b, b ≠ M → W7.heap[b]? = W6.heap[b]? := fun b hb => by rw [hW7]; exact heap_setBlock_other hM6.map.blk _ hb
            have hM7 : W7.heap[M]? = some (.map es1 clock1) := by rw [hW7]; exact heap_setBlock_same hM6.map.blk _
            have h7s : W7.heap.size = W6.heap.size := by rw [hW7]; simp [setBlock]
            have hcellM : ∀ {q t : Nat} {cs : Array Value}, W6.heap[q]? = some (.cells cs t (0, 0)) → q ≠ M := fun h e => by rw [e, hM6.map.blk] at h; cases h
            have hv7 : W7.ownsRow w.heap.size 3 1 v0 zs.length (nums .i64 zs) := own_move hv0 (fun q hq => hsame7 q (fun e => own_row_ne_map hv0 hM6.map.blk (by rw [hq, e])))
            have hg7 : W6.grownBy W7 (some M) := by
              rw [hW7]
              exact ⟨rfl, rfl, rfl, by simp [setBlock], fun i _ hi => heap_setBlock_other hM6.map.blk _ (fun e1 => hi (by rw [e1]))⟩
            have hb7 : Below w.heap.size w W7 := hM6.below.grown hg7 hM6.below.size (fun k hk => by injection hk with hk; rw [← hk]; exact hM6.mb)
            have hobj7 := (hsame7 G (hcellM hM6.obj)).trans hM6.obj
            have hx7 := (hsame7 _ (hcellM hx6)).trans hx6
            have hn7 := (hsame7 _ (hcellM hn6)).trans hn6
            have HS0 : Hid (wc.drew.cell? ⟨G, 3, none⟩ = some (.map (some M)) ∧ wc.drew.cell? ⟨wr.heap.size, 0, none⟩ = some (.int .i64 (a : Int)) ∧ wc.drew.cell? ⟨wr.heap.size, 1, none⟩ = some (.int .i64 (b : Int))) := ⟨by show wc.cell? _ = _; rw [blk_cell hM2.obj]; rfl, by show wc.cell? _ = _; rw [blk_cell hx2]; rfl, by show wc.cell? _ = _; rw [blk_cell hx2]; rfl⟩
            have HS6 : Hid (W6.cell? ⟨G, 3, none⟩ = some (.map (some M)) ∧ W6.cell? ⟨wr.heap.size, 0, none⟩ = some (.int .i64 (a : Int)) ∧ W6.cell? ⟨wr.heap.size, 1, none⟩ = some (.int .i64 (b : Int))) := ⟨by rw [blk_cell hM6.obj]; rfl, by rw [blk_cell hx6]; rfl, by rw [blk_cell hx6]; rfl⟩
            have HS7 : Hid (W7.cell? ⟨G, 3, none⟩ = some (.map (some M)) ∧ W7.cell? ⟨wr.heap.size, 0, none⟩ = some (.int .i64 (a : Int)) ∧ W7.cell? ⟨wr.heap.size, 1, none⟩ = some (.int .i64 (b : Int))) := ⟨by rw [blk_cell hobj7]; rfl, by rw [blk_cell hx7]; rfl, by rw [blk_cell hx7]; rfl⟩
            have hc7 : W7.cell? ⟨wc.heap.size, 0, none⟩ = some (.int .i64 (j : Int)) := by rw [blk_cell hn7]; rfl
            have HC7 := Lib.hid hc7
            have HV7 := Lib.hid hv7
            have HRUN := Lib.hid hrun
            have HB7 := Lib.hid hb7
            have hbase7 : w.heap.size ≤ W7.heap.size := hb7.size
            have hlong : (zs.length + 1) * 8 ≤ 140737488355328 := by omega
            have HFIN : Hid (∀ (w9 : World) (v9 : Value), w9.ownsRow w.heap.size 3 1 v9 (zs ++ [(j : Int)]).length (nums .i64 (zs ++ [(j : Int)])) → W7.grownBy w9 v0.ownBlock → (v9.ownBlock = v0.ownBlock ∨ ∃ b, v9.ownBlock = some b ∧ W7.heap.size ≤ b) →
                ∃ wx, (Instr.entryStore 65 (.map (some M)) (goInt st) v9).run Try.prog w9 = .ok () wx ∧ (w9.cell? ⟨G, 3, none⟩ = some (.map (some M)) ∧ w9.cell? ⟨wr.heap.size, 0, none⟩ = some (.int .i64 (a : Int)) ∧ w9.cell? ⟨wr.heap.size, 1, none⟩ = some (.int .i64 (b : Int))) ∧ (wx.cell? ⟨G, 3, none⟩ = some (.map (some M)) ∧ wx.cell? ⟨wr.heap.size, 0, none⟩ = some (.int .i64 (a : Int)) ∧ wx.cell? ⟨wr.heap.size, 1, none⟩ = some (.int .i64 (b : Int))) ∧ MadeSo w wx G O I M (some ⟨g, o, none⟩) cE n es (j + 1)) := fun w9 v9 hown9 hg9 hat9 => by
              have hne : ∀ {q t : Nat} {cs : Array Value}, W7.heap[q]? = some (.cells cs t (0, 0)) → t ≠ 3 → w9.heap[q]? = some (.cells cs t (0, 0)) := fun h ht => blk_grown h hg9 (own_ne hv7 h (fun e => ht e.symm))
              have hM9 : w9.heap[M]? = some (.map es1 clock1) := blk_grown hM7 hg9 (own_row_ne_map hv7 hM7)
              have hs9 := hg9.size
              have hsame9 : ∀ b, b < W6.heap.size → b ≠ M → some b ≠ v0.ownBlock → w9.heap[b]? = W6.heap[b]? := fun q h1 h2 h3 => (hg9.block q (by omega) h3).trans (hsame7 q h2)
              obtain ⟨es', clock', hst, hmap⟩ := hback w9 v9 (zs ++ [(j : Int)]) hM9 (by omega) hsame9 (by rw [List.length_append, List.length_singleton]; omega) hown9 (hat9.imp id (fun ⟨q, h1, h2⟩ => ⟨q, h1, by omega⟩)) (fun i hi q hq => own_lt (hM6.rows.1 i hi) q hq)
              have hother : ∀ q, q ≠ M → (setBlock w9 M (.map es' clock')).heap[q]? = w9.heap[q]? := fun q hq => heap_setBlock_other hM9 _ hq
              have hgx : w9.grownBy (setBlock w9 M (.map es' clock')) (some M) := ⟨rfl, rfl, rfl, by simp [setBlock], fun i _ hi => heap_setBlock_other hM9 _ (fun e1 => hi (by rw [e1]))⟩
              have hb9 : Below w.heap.size w w9 := hb7.grown hg9 hbase7 (own_base hv7)
              have hbx : Below w.heap.size w (setBlock w9 M (.map es' clock')) := hb9.grown hgx hb9.size (fun k hk => by injection hk with hk; rw [← hk]; exact hM6.mb)
              have ko := hne hobj7 (by decide)
              have kx := hne hx7 (by decide)
              have ko2 := (hother G (hcellM hM6.obj)).trans ko
              have kx2 := (hother _ (hcellM hx6)).trans kx
              refine ⟨_, hst, ⟨by rw [blk_cell ko]; rfl, by rw [blk_cell kx]; rfl, by rw [blk_cell kx]; rfl⟩, ⟨by rw [blk_cell ko2]; rfl, by rw [blk_cell kx2]; rfl, by rw [blk_cell kx2]; rfl⟩, rv2, rl2, es', clock', hM6.entered hv0 hfar (fun q h1 h2 h3 => (hother q h2).trans (hsame9 q h1 h2 h3)) hmap hbx, fun v hv => ?_, fun v hv => ?_⟩
              · rw [HRL2.out, upd_other _ _ (by omega), HRL1.out, pick_succ]
                have hfb : fromB es v j = decide (a = v) := by
                  unfold fromB
                  rw [HPD.out]
                  exact decide_eq_decide.2 (by show (a : Int) = (v : Int) ↔ a = v; omega)
                rw [hfb]
                by_cases e : a = v
                · subst e
                  rw [upd_same, HOUT.out a hv]
                  simp
                · rw [upd_other _ _ (fun h => e h.symm), HOUT.out v hv]
                  simp [e]
              · rw [HRL2.out, pick_succ]
                have hfb : toB es v j = decide (b = v) := by
                  unfold toB
                  rw [HPD.out]
                  exact decide_eq_decide.2 (by show (b : Int) = (v : Int) ↔ b = v; omega)
                rw [hfb]
                by_cases e : b = v
                · subst e
                  rw [upd_same, HRL1.out, upd_other _ _ (by omega), HIN.out b hv]
                  simp
                · rw [upd_other _ _ (by omega), HRL1.out, upd_other _ _ (by omega), HIN.out v hv]
                  simp [e]
            have HW6 := Lib.hid hW6
            have HW7 := Lib.hid hW7
            have H7S := Lib.hid h7s
            clear hM2 hx2 hM6 hx6 hn6 h6s hkl hrun hv0 hfar hback hsame7 hM7 hv7 hg7 hb7 hobj7 hx7 hn7 hc7 hb6 hW6 hW7 hcellM h7s
            go_upto_region 7 with (fail)
            refine wp_region_any (by kernel_rfl) ?_
            change wpAny _ _ _ _ _ _ _ (World.drew wc)
            have hHeld : (fun w' : World => w'.cell? ⟨G, 3, none⟩ = some (.map (some M)) ∧ w'.cell? ⟨wr.heap.size, 0, none⟩ = some (.int .i64 (a : Int)) ∧ w'.cell? ⟨wr.heap.size, 1, none⟩ = some (.int .i64 (b : Int))) wc.drew := HS0.out
            refine wpAny_of_held (S := fun w' : World => w'.cell? ⟨G, 3, none⟩ = some (.map (some M)) ∧ w'.cell? ⟨wr.heap.size, 0, none⟩ = some (.int .i64 (a : Int)) ∧ w'.cell? ⟨wr.heap.size, 1, none⟩ = some (.int .i64 (b : Int))) _ _ _ _ ?_
            refine take_at (i := 0) (d := 59) (v := ?_) rfl rfl (by kernel_rfl) (by kernel_rfl) (by kernel_rfl) (fun _ _ _ h => h) (Or.inl ⟨by rfl, ?hy0r⟩) (by assumption) ?rest0r
            case hy0r => intro w' hSw; (try dsimp only at hSw); obtain ⟨s1, s2, s3⟩ := hSw; go_simp; try with_reducible rfl
            simp only [List.setIfInBounds_toArray, List.set_cons_zero, List.set_cons_succ]
            refine take_at (i := 1) (d := 60) (v := ?_) rfl rfl (by kernel_rfl) (by kernel_rfl) (by kernel_rfl) (fun _ _ _ h => h) (Or.inl ⟨by rfl, ?hy1r⟩) (by assumption) ?rest1r
            case hy1r => intro w' hSw; (try dsimp only at hSw); obtain ⟨s1, s2, s3⟩ := hSw; go_simp; try with_reducible rfl
            simp only [List.setIfInBounds_toArray, List.set_cons_zero, List.set_cons_succ]
            refine take_at (i := 2) (d := 61) (v := ?_) rfl rfl (by kernel_rfl) (by kernel_rfl) (by kernel_rfl) (fun _ _ _ h => h) (Or.inl ⟨by rfl, ?hy2r⟩) (by assumption) ?rest2r
            case hy2r => intro w' hSw; (try dsimp only at hSw); obtain ⟨s1, s2, s3⟩ := hSw; go_simp; try with_reducible rfl
            simp only [List.setIfInBounds_toArray, List.set_cons_zero, List.set_cons_succ]
            refine take_at (i := 3) (d := 62) (v := ?_) rfl rfl (by kernel_rfl) (by kernel_rfl) (by kernel_rfl) (fun _ _ _ h => h) (Or.inl ⟨by rfl, ?hy3r⟩) (by assumption) ?rest3r
            case hy3r => intro w' hSw; (try dsimp only at hSw); obtain ⟨s1, s2, s3⟩ := hSw; go_simp; try with_reducible rfl
            simp only [List.setIfInBounds_toArray, List.set_cons_zero, List.set_cons_succ]
            refine take_at (i := 4) (d := 63) (v := ?_) rfl rfl (by kernel_rfl) (by kernel_rfl) (by kernel_rfl) (fun _ _ _ h => h) (Or.inl ⟨by rfl, ?hy4r⟩) (by assumption) ?rest4r
            case hy4r => intro w' hSw; (try dsimp only at hSw); obtain ⟨s1, s2, s3⟩ := hSw; go_simp; try with_reducible rfl
            simp only [List.setIfInBounds_toArray, List.set_cons_zero, List.set_cons_succ]
            refine take_at (i := 5) (d := 65) (v := ?_) rfl rfl (by kernel_rfl) (by kernel_rfl) (by kernel_rfl) (fun _ _ _ h => h) (Or.inl ⟨by rfl, ?hy5r⟩) (by assumption) ?rest5r
            case hy5r => intro w' hSw; (try dsimp only at hSw); obtain ⟨s1, s2, s3⟩ := hSw; go_simp; try with_reducible rfl
            simp only [List.setIfInBounds_toArray, List.set_cons_zero, List.set_cons_succ]
            refine wpAnyH_ready (rs := [6]) (by kernel_rfl) (by simp) ?_
            refine AllReadyH.cons rfl (fun K hK => ?_) AllReadyH.nil
            go_simp
            rw [← HW6.out]
            refine hK.out _ _ HS6.out (fun hHeld => ?_)
            clear hK K
            try simp only [Act.put, List.setIfInBounds_toArray, List.set_cons_zero, List.set_cons_succ]
            refine wpAnyH_ready (rs := [7]) (by kernel_rfl) (by simp) ?_
            refine AllReadyH.cons rfl (fun K hK => ?_) AllReadyH.nil
            refine step_mapEntry rfl (.tmp 62) (.tmp 63) 65 rfl (.map (some M)) (.agg #[.int .i64 (a : Int), .int .i64 (b : Int)]) rfl rfl HRUN.out ?_
            rw [← HW7.out]
            refine hK.out _ _ HS7.out (fun hHeld => ?_)
            clear hK K
            change wpAnyH _ _ _ _ _ _ _ (Act.put _ (some 67) _) _
            simp only [Act.put, List.setIfInBounds_toArray, List.set_cons_zero, List.set_cons_succ]
            refine take_at (i := 8) (d := 64) (v := ?_) rfl rfl (by kernel_rfl) (by kernel_rfl) (by kernel_rfl) (fun _ _ _ h => h) (Or.inl ⟨by rfl, ?hy8r⟩) (by assumption) ?rest8r
            case hy8r => intro w' hSw; (try dsimp only at hSw); obtain ⟨s1, s2, s3⟩ := hSw; go_simp; try with_reducible rfl
            simp only [List.setIfInBounds_toArray, List.set_cons_zero, List.set_cons_succ]
            refine take_at (i := 10) (d := 69) (v := ?_) rfl rfl (by kernel_rfl) (by kernel_rfl) (by kernel_rfl) (fun _ _ _ h => h) (Or.inl ⟨by rfl, ?hy10r⟩) (by assumption) ?rest10r
            case hy10r => intro w' hSw; (try dsimp only at hSw); obtain ⟨s1, s2, s3⟩ := hSw; go_simp; try with_reducible rfl
            simp only [List.setIfInBounds_toArray, List.set_cons_zero, List.set_cons_succ]
            refine wpAnyH_ready (rs := [9]) (by kernel_rfl) (by simp) ?_
            refine AllReadyH.cons rfl (fun K hK => ?_) AllReadyH.nil
            refine step_append_one w.heap.size rfl (.tmp 64) (.tmp 66) 37 3 8 rfl Try.underlying37 info3 (by decide) v0 zs wc.heap.size (j : Int) rfl rfl HC7.out HV7.out hbase7 hlong ?_
            intro v9 w9 hown9 hg9 hat9
            obtain ⟨wx, hst, hS9, hSx, hfin⟩ := HFIN.out w9 v9 hown9 hg9 hat9
            have HST := Lib.hid hst
            have HSX := Lib.hid hSx
            have HF := Lib.hid hfin
            clear hst hSx hfin hown9 hg9 hat9
            refine hK.out _ _ hS9 (fun hHeld => ?_)
            clear hK K
            change wpAnyH _ _ _ _ _ _ _ (Act.put _ (some 68) _) _
            simp only [Act.put, List.setIfInBounds_toArray, List.set_cons_zero, List.set_cons_succ]
            refine wpAnyH_ready (rs := [11]) (by kernel_rfl) (by simp) ?_
            refine AllReadyH.cons rfl (fun K hK => ?_) AllReadyH.nil
            refine step_entryStore rfl (.tmp 62) (.tmp 69) (.tmp 68) 65 rfl (.map (some M)) (goInt st) v9 rfl rfl rfl HST.out ?_
            refine hK.out _ _ HSX.out (fun hHeld => ?_)
            clear hK K
            refine wpAnyH_done (by kernel_rfl) ?_ _
            go_wp2_with (fail)
            go_roundw
            case measure => simp [intOf]; omega
            case rel => exact ⟨j + 1, by first | rfl | (rw [hw]) | simp, by omega, HF.out⟩
      · obtain rfl : j = es.length := by omega
        have qd : decide ((es.length : Int) < (es.length : Int)) = false := decide_eq_false (by omega)
        have hfin : Hid (IsGraph wr G n es ∧ Below w.heap.size w wr) := ⟨hM.graph HE.out hout hin, hM.below⟩
        clear hM hout hin hR
        go_wp2
        go_ret
        exact ⟨G, rfl, hfin.out.1, hfin.out.2⟩
end Go.Proofs.Ytbldlmolbdkabaa.HP
