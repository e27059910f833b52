/-
TopLaid over the translation.
-/
import Derived.Test.YtbldlmolbdkabaaCbC
import Derived.Deep.SlicePairs
import Derived.StillTailTactics
import Derived.ChangeSame
import Derived.OpenShut
import Derived.WalkKit
import Derived.ProofKit
set_option linter.unusedVariables false
set_option linter.unusedSimpArgs false
namespace Go.Proofs.Ytbldlmolbdkabaa.HP
open Go.RowKit Go.Proofs.YtbldlmolbdkabaaW.PrintWords Go.Proofs.YtbldlmolbdkabaaW.PrintLast Go.Proofs.YtbldlmolbdkabaaW.PrintMore
/-! ### plain -/
/-- How many edges leave the nodes below v. -/
def totF (es : List EdgeP) (m : Nat) : Nat → Nat
  | 0 => 0
  | v + 1 => totF es m v + (pick (fromB es v) m).length
theorem totF_zero (es : List EdgeP) : ∀ v, totF es 0 v = 0
  | 0 => rfl
  | v + 1 => by rw [totF, totF_zero es v]; rfl
theorem totF_succ (es : List EdgeP) (m a : Nat) (h : (es.getD m noEdge).1 = (a : Int)) : ∀ v, totF es (m + 1) v = totF es m v + if a < v then 1 else 0
  | 0 => rfl
  | v + 1 => by
    have hq : fromB es v m = decide (a = v) := by
      unfold fromB
      rw [h]
      exact decide_eq_decide.2 (by omega)
    rw [totF, totF, totF_succ es m a h v, pick_succ, List.length_append, hq]
    by_cases e : a = v
    · subst e
      have h1 : ¬ a < a := by omega
      have h2 : a < a + 1 := by omega
      rw [if_neg h1, if_pos h2]
      simp
      omega
    · by_cases e2 : a < v
      · have h2 : a < v + 1 := by omega
        rw [if_pos e2, if_pos h2]
        simp [e]
        omega
      · have h2 : ¬ a < v + 1 := by omega
        rw [if_neg e2, if_neg h2]
        simp [e]
theorem totF_all {n : Nat} {es : List EdgeP} (h : ∀ p ∈ es, 0 ≤ p.1 ∧ p.1 < (n : Int)) : ∀ m, m ≤ es.length → totF es m n = m
  | 0, _ => totF_zero es n
  | m + 1, hm => by
    have hp := h es[m] (List.getElem_mem (by omega))
    have hg : es.getD m noEdge = es[m] := by rw [List.getD_eq_getElem?_getD, List.getElem?_eq_getElem (by omega)]; rfl
    rw [totF_succ es m (es[m]).1.toNat (by rw [hg]; omega) n, totF_all h m (by omega), if_pos (by omega)]
theorem totF_mono (es : List EdgeP) (m : Nat) : ∀ {v u : Nat}, v ≤ u → totF es m v ≤ totF es m u := by
  intro v u h
  induction h with
  | refl => exact Nat.le_refl _
  | step _ ih => rw [totF]; omega
def wordOf (p : EdgeP) : Int := p.1 * 100 + p.2
/-- The column when so many values are set. -/
def WS (es : List EdgeP) (i : Nat) : List Int := (es.take i).map wordOf ++ List.replicate (es.length - i) 0
theorem WS_zero (es : List EdgeP) : WS es 0 = List.replicate es.length 0 := by unfold WS; simp
theorem WS_set {es : List EdgeP} {i : Nat} {p : EdgeP} (h : es[i]? = some p) : (WS es i).set i (wordOf p) = WS es (i + 1) := by
  have hlt := (List.getElem?_eq_some_iff.1 h).1
  unfold WS
  rw [List.set_append_right _ _ (by simp; omega), List.take_add_one, h, List.map_append, List.append_assoc]
  congr 1
  have e1 : i - (List.map wordOf (List.take i es)).length = 0 := by simp; omega
  rw [e1, show es.length - i = (es.length - (i + 1)) + 1 by omega, List.replicate_succ, List.set_cons_zero]
  rfl
theorem WS_get {es : List EdgeP} {i : Nat} {p : EdgeP} (h : es[i]? = some p) : (WS es es.length).getD i 0 = wordOf p := by
  unfold WS
  rw [List.take_length, Nat.sub_self, List.replicate_zero, List.append_nil, List.getD_eq_getElem?_getD, List.getElem?_map, h]
  rfl
/-! ### the argument -/
open Go.ChangeShapes Go.WideShapes Go.ChangeAt in
theorem arg_edges {H : Type} {enc : TypeId × Value → H} {W : World} {base : Nat} {spare : Nat → Bool} {held : Bool} {a : Option Addr} {len cap : Nat} {d : DataW H} {p : List MemPlace}
    (h : DataW.Trod enc Try.prog W base spare held 32 (.slice a len cap) d p) : ∃ l : List EdgeP, len = l.length ∧ l.length ≤ cap ∧ ERow W a l := by
  obtain ⟨fuel, hf⟩ := h
  rcases Deep.open_slice_pairs Try.underlying32 Try.underlying36 (by kernel_rfl) (by kernel_rfl) (by kernel_rfl) (by kernel_rfl) (by kernel_rfl) hf with ⟨hcs, _⟩ | ⟨x, l, c, m, n, V0, V1, D0, D1, P0, P1, hcs, _, hl, hm, hmm, _, hx⟩
  · simp [Value.cells] at hcs
    obtain ⟨rfl, rfl, rfl⟩ := hcs
    exact ⟨[], rfl, Nat.le_refl _, ERow.nil _ _⟩
  · simp [Value.cells] at hcs
    obtain ⟨rfl, rfl, rfl⟩ := hcs
    have hlm : len ≤ m := by rw [hmm]; split <;> omega
    have hes : ∀ i, i < m → ∃ q : Int × Int, V0 i = .int .i64 q.1 ∧ V1 i = .int .i64 q.2 := by
      intro i hi
      obtain ⟨_, _, h0, h1⟩ := hx i hi
      obtain ⟨z0, e0, _⟩ := DataW.trod_int Try.underlying3 h0
      obtain ⟨z1, e1, _⟩ := DataW.trod_int Try.underlying3 h1
      exact ⟨(z0, z1), by simpa using e0, by simpa using e1⟩
    obtain ⟨q, hq⟩ := Deep.choose_lt hes
    refine ⟨(List.range len).map q, by simp, by simpa using hl, fun j p hj => ?_⟩
    obtain ⟨hjl, rfl⟩ := List.getElem?_eq_some_iff.1 hj
    have hj1 : j < len := by simpa using hjl
    obtain ⟨c0, c1, _, _⟩ := hx j (by omega)
    rw [(hq j (by omega)).1] at c0
    rw [(hq j (by omega)).2] at c1
    have hxs : ∃ g o, x = ⟨g, o, none⟩ := by
      obtain ⟨d0, _, _, _⟩ := hx 0 (by omega)
      obtain ⟨g, o, s⟩ := x
      cases s with
      | none => exact ⟨g, o, rfl⟩
      | some s =>
        rw [Nat.zero_mul] at d0
        have e0 : (⟨g, o, some s⟩ : Addr).add 0 = ⟨g, o, some s⟩ := by simp [Addr.add]
        rw [e0] at d0
        unfold World.cell? at d0
        dsimp only at d0
        split at d0 <;> simp at d0
    obtain ⟨g, o, rfl⟩ := hxs
    rw [addr_add] at c0 c1
    refine ⟨g, o, rfl, cell_lt c0, ?_, ?_⟩
    · rw [c0]; simp
    · rw [show o + j * 2 + 1 = o + (j * 2 + 1) by omega, c1]; simp
def TrueEnds (w : World) (e : Ending) (w' : World) : Prop := e = .returned (.bool true) ∧ Below w.heap.size w w'
theorem ERow.take {w : World} {A : Option Addr} {es : List EdgeP} (h : ERow w A es) (k : Nat) : ERow w A (es.take k) := fun j p hj => h j p (by
  rw [List.getElem?_take] at hj
  split at hj
  · exact hj
  · cases hj)
set_option maxHeartbeats 16000000 in
set_option maxRecDepth 100000 in
theorem laid_walk (w : World) (A : Option Addr) (c : Nat) (n : Int) (es0 : List EdgeP) (hE0 : ERow w A es0) (hc : es0.length ≤ c) : Calls Try.prog 5 #[.int .i64 n, .slice A es0.length c] w fun e w' => TrueEnds w e w' := by
  obtain ⟨es, hes⟩ : ∃ es, es = es0.take 30 := ⟨_, rfl⟩
  have h30 : es.length ≤ 30 := by rw [hes]; exact List.length_take_le _ _
  have HE : Hid (ERow w A es) := by show ERow w A es; rw [hes]; exact hE0.take 30
  have HE0 := Lib.hid hE0
  have HES := Lib.hid hes
  clear hE0 hes
  go_enter Try.func5, Try.ntmps5
  go_upto_if 21 with (fail)
  go_cut [1] (fun v1 wc => v1 = .slice A es.length c ∧ Hid (wc = w))
  case first =>
    by_cases hl : 30 < es0.length
    · have e30 : es.length = 30 := by rw [HES.out, List.length_take]; omega
      have q : decide ((es0.length : Int) > 30) = true := decide_eq_true (by omega)
      have q' : decide ((30 : Int) < (es0.length : Int)) = true := decide_eq_true (by omega)
      obtain ⟨g, o, hA, _⟩ := HE0.out 0 es0[0] (List.getElem?_eq_getElem (by omega))
      subst hA
      have hsl : ∀ W, (Instr.slice 32 (.slice (some ⟨g, o, none⟩) es0.length c) none (some (.int .i64 30)) none).run Try.prog W = .ok (.slice (some ⟨g, o, none⟩) 30 c) W := by
        intro W
        rw [run_slice_h (P := Try.prog) W 32 (some ⟨g, o, none⟩) es0.length c Try.underlying32 .i64 30 (by omega) (by omega)]
        rw [show (sizeOf (Try.prog.elem 32)).run Try.prog W = .ok 2 W by simp [go_sem]]
        simp [go_sem, sliced, Result.andThen, Addr.add]
      go_wp2_with (fail)
      go_meet
      case rel => exact ⟨by rw [e30], rfl⟩
    · have e : es = es0 := by rw [HES.out]; exact List.take_of_length_le (by omega)
      have q : decide ((es0.length : Int) > 30) = false := decide_eq_false (by omega)
      have q' : decide ((30 : Int) < (es0.length : Int)) = false := decide_eq_false (by omega)
      have HEE := Lib.hid e
      clear e
      go_wp2_with (fail)
      go_meet
      case rel => exact ⟨by rw [HEE.out], rfl⟩
  case rest =>
    obtain ⟨rfl, hwc⟩ := hcut
    obtain ⟨w0, hw0⟩ : ∃ w0, w0 = wc := ⟨_, rfl⟩
    subst hw0
    obtain rfl := hwc.out
    clear hwc HE0 HES
    have HNW := Lib.hid (new_calls w0 A c n es HE.out (by omega))
    go_wp2_with (fail)
    refine HNW.out.mono ?_
    rintro e w1 (⟨hg, G, rfl, hI, hb1⟩ | ⟨hg, rfl, hb1⟩)
    · obtain ⟨N, rfl⟩ : ∃ N : Nat, n = (N : Int) := ⟨n.toNat, by have := hg.1; omega⟩
      rw [Int.toNat_natCast] at hI
      have hN1 : 1 ≤ N := by have := hg.1; omega
      have hN12 : N ≤ 12 := by have := hg.1; omega
      have HG := Lib.hid hg
      have HI := Lib.hid hI
      have HB1 := Lib.hid hb1
      have HCN := Lib.hid (colNew_calls w1 N es.length hN1 hN12 h30)
      clear hg hI hb1 HNW
      go_wp2_with (fail)
      refine (n_calls HI.out).mono ?_
      rintro e w1' ⟨rfl, rfl⟩
      go_wp2_with (fail)
      refine (m_calls HI.out).mono ?_
      rintro e w1'' ⟨rfl, rfl⟩
      go_wp2_with (fail)
      refine HCN.out.mono ?_
      rintro e w2 ⟨T, M, rfl, hT, hM, hb2⟩
      obtain ⟨w3, hw3⟩ : ∃ w3, w3 = w2.alloc (.cells #[.string ⟨#[119]⟩, .int .u8 3] 48) := ⟨_, rfl⟩
      have hb3 : Below w2.heap.size w2 w3 := by rw [hw3]; exact (Below.refl _ w2).alloc (Nat.le_refl _) _
      have hx3 : w3.heap[w2.heap.size]? = some (.cells #[.string ⟨#[119]⟩, .int .u8 3] 48 (0, 0)) := by rw [hw3]; exact blk_new w2 _
      have hb13 : Below w1''.heap.size w1'' w3 := below_then hb2 hb2.size hb3
      have hT3 : IsTab0 w3 T N es.length M := ⟨blk_below hT.1 hb3, blk_below hT.2 hb3⟩
      have HD := Lib.hid (declare_calls w3 w1''.heap.size T N es.length M hT3 h30 hM hb13.size)
      have x0 : w3.cell? ⟨w2.heap.size, 0, none⟩ = some (.string ⟨#[119]⟩) := by rw [blk_cell hx3]; rfl
      have x1 : w3.cell? ⟨w2.heap.size, 1, none⟩ = some (.int .u8 3) := by rw [blk_cell hx3]; rfl
      have hMK : M ≠ w2.heap.size := fun e => by have := blk_lt hT.2; omega
      have HMK := Lib.hid hMK
      have HX3 := Lib.hid hx3
      have HB13 := Lib.hid hb13
      have HW3 := Lib.hid hw3
      clear hT hM hb2 hb3 hx3 hb13 hT3 hw3 hMK HCN
      go_upto_region 9 with (fail)
      rw [← HW3.out]
      go_wp2_with (fail)
      refine HD.out.mono ?_
      rintro e w4 ⟨rfl, ⟨C, V, hT4, hV⟩, hb4, hoth⟩
      have hx4 : w4.heap[w2.heap.size]? = some (.cells #[.string ⟨#[119]⟩, .int .u8 3] 48 (0, 0)) := by rw [hoth _ (blk_lt HX3.out) (fun e => HMK.out e.symm)]; exact HX3.out
      have hKV : w2.heap.size < V := Nat.lt_of_lt_of_le (blk_lt HX3.out) hV
      have h1V : w1''.heap.size ≤ V := Nat.le_trans HB13.out.size hV
      have hb14 : Below w1''.heap.size w1'' w4 := HB13.out.trans hb4
      have HX4 := Lib.hid hx4
      have HT4 := Lib.hid hT4
      have HB14 := Lib.hid hb14
      have HKV := Lib.hid hKV
      have H1V := Lib.hid h1V
      clear hT4 hV hb4 hoth hx4 hKV h1V hb14 x0 x1 HD
      go_wp2_with (fail)
      go_loopw [10] (fun x wr => ∃ j : Nat, x = .int .i64 (j : Int) ∧ j ≤ es.length ∧ Hid (IsTab wr T N es.length M C V (WS es j) ∧ Below V w4 wr)) (fun x _ => es.length - (intOf x).toNat)
      case atStart => exact ⟨0, rfl, Nat.zero_le _, by rw [WS_zero]; exact HT4.out, Below.refl _ _⟩
      case round =>
        obtain ⟨j, rfl, hj, hR⟩ := hrel
        obtain ⟨hTr, hbr⟩ := hR.out
        have hb1r : Below w1''.heap.size w1'' wr := HB14.out.trans (hbr.mono H1V.out)
        have hxr : wr.heap[w2.heap.size]? = some (.cells #[.string ⟨#[119]⟩, .int .u8 3] 48 (0, 0)) := (hbr.block _ HKV.out).trans HX4.out
        have k0 : wr.cell? ⟨w2.heap.size, 0, none⟩ = some (.string ⟨#[119]⟩) := by rw [blk_cell hxr]; rfl
        have k1 : wr.cell? ⟨w2.heap.size, 1, none⟩ = some (.int .u8 3) := by rw [blk_cell hxr]; rfl
        by_cases hlt : j < es.length
        · obtain ⟨p, hp⟩ : ∃ p, es[j]? = some p := ⟨_, List.getElem?_eq_getElem hlt⟩
          obtain ⟨g, o, hA, _, c0, c1⟩ := ((HE.out.below HB1.out).below hb1r) j p hp
          subst hA
          have hpin := HG.out.2.2 p (List.mem_of_getElem? hp)
          have hset := WS_set hp
          have hwd : wordOf p = p.1 * 100 + p.2 := rfl
          obtain ⟨p1, p2⟩ := p
          dsimp only at c0 c1 hpin hwd
          rw [hwd] at hset
          have hw1 : IntKind.i64.wrap (p1 * 100) = p1 * 100 := IntWalk.i64_in _ (by omega)
          have hw2 : IntKind.i64.wrap (p1 * 100 + p2) = p1 * 100 + p2 := IntWalk.i64_in _ (by omega)
          have qd : decide ((j : Int) < (es.length : Int)) = true := decide_eq_true (by omega)
          have z1 : (j : Int) < (es.length : Int) := by omega
          have z0 : (0 : Int) ≤ (j : Int) := by omega
          have hw : IntKind.i64.wrap ((j : Int) + 1) = ((j + 1 : Nat) : Int) := by rw [IntWalk.i64_in _ (by omega)]; omega
          have hTd : IsTab wr.drew T N es.length M C V (WS es j) := ⟨hTr.obj, hTr.map.move rfl, hTr.col, hTr.row, hTr.len⟩
          have HS := Lib.hid (set_calls wr.drew T N es.length M C V (WS es j) hTd j hlt h30 (p1 * 100 + p2))
          have HSET := Lib.hid hset
          have HBR : Hid (Below V w4 wr.drew) := below_drew hbr
          clear hTr hbr hR hb1r hxr hp hpin hset hwd hTd
          go_upto_region 14 with (fail)
          go_still_tail 15, (by kernel_rfl)
          change wpList _ _ _ _ _ wr.drew
          go_wp2_with (fail)
          refine HS.out.mono ?_
          rintro e w5 ⟨rfl, hT5, hb5⟩
          rw [HSET.out] at hT5
          have HN : Hid (IsTab w5 T N es.length M C V (WS es (j + 1)) ∧ Below V w4 w5) := ⟨hT5, HBR.out.trans hb5⟩
          clear hT5 hb5 c0 c1 k0 k1
          go_wp2
          go_roundw
          case measure => simp [intOf]; omega
          case rel => exact ⟨j + 1, by first | rfl | (rw [hw]) | simp, by omega, HN⟩
        · obtain rfl : j = es.length := by omega
          have qd : decide ((es.length : Int) < (es.length : Int)) = false := decide_eq_false (by omega)
          have HI5 := Lib.hid (HI.out.below hb1r)
          have HE5 := Lib.hid ((HE.out.below HB1.out).below hb1r)
          have HB5 := Lib.hid (below_then HB1.out HB1.out.size hb1r)
          have HT5 := Lib.hid hTr
          have HX5 := Lib.hid hxr
          obtain ⟨w5, hw5⟩ : ∃ w5, w5 = wr := ⟨_, rfl⟩
          subst hw5
          clear hTr hbr hR hb1r hxr hlt k0 k1 HB1 HX4 HT4 HB14 HKV H1V
          go_wp2_with (fail)
          go_loopw [11, 12] (fun s x wr => ∃ v : Nat, x = .int .i64 (v : Int) ∧ v ≤ N ∧ s = .int .i64 ((totF es es.length v : Nat) : Int) ∧ Hid (Below w5.heap.size w5 wr)) (fun _ x _ => N - (intOf x).toNat)
          case atStart => exact ⟨0, rfl, Nat.zero_le _, rfl, Below.refl _ _⟩
          case round =>
            obtain ⟨v, rfl, hv, rfl, hBr⟩ := hrel
            have htot := totF_all (n := N) (fun p hp => (HG.out.2.2 p hp).1) es.length (Nat.le_refl _)
            have hmon := totF_mono es es.length hv
            have HNC := Lib.hid (n_calls (HI5.out.below hBr.out))
            by_cases hlt : v < N
            · have hmon1 := totF_mono es es.length (show v + 1 ≤ N from hlt)
              have hstep : totF es es.length (v + 1) = totF es es.length v + (pick (fromB es v) es.length).length := rfl
              have HOC := Lib.hid (out_calls (HI5.out.below hBr.out) v hlt (by omega))
              have qv : decide ((v : Int) < (N : Int)) = true := decide_eq_true (by omega)
              have hwv : IntKind.i64.wrap ((v : Int) + 1) = ((v + 1 : Nat) : Int) := by rw [IntWalk.i64_in _ (by omega)]; omega
              obtain ⟨l, hl⟩ : ∃ l, l = pick (fromB es v) es.length := ⟨_, rfl⟩
              obtain ⟨t0, ht0⟩ : ∃ t0, t0 = totF es es.length v := ⟨_, rfl⟩
              rw [← hl] at HOC hstep
              rw [← ht0] at hstep ⊢
              rw [hstep] at hmon1
              rw [htot] at hmon1
              have HSTEP := Lib.hid hstep
              have HL := Lib.hid hl
              have HTOT := Lib.hid htot
              clear hl ht0 hstep htot hmon
              go_wp2_with (fail)
              refine HNC.out.mono ?_
              rintro e wv ⟨rfl, rfl⟩
              go_wp2_with (fail)
              refine HOC.out.mono ?_
              rintro e w6 ⟨vo, rfl, ho6, hb6⟩
              obtain ⟨B, cB, rfl, _, hI6⟩ := own_irow ho6
              have HI6 := Lib.hid hI6
              have HB56 := Lib.hid (below_then hBr.out hBr.out.size hb6)
              clear ho6 hI6 hb6 HOC HNC
              go_wp2_with (fail)
              go_loopw [11, 14] (fun s x wr => ∃ k : Nat, x = .int .i64 (k : Int) ∧ k ≤ l.length ∧ s = .int .i64 ((t0 + k : Nat) : Int) ∧ Hid (Below w6.heap.size w6 wr)) (fun _ x _ => l.length - (intOf x).toNat)
              case atStart => exact ⟨0, rfl, Nat.zero_le _, rfl, Below.refl _ _⟩
              case round =>
                obtain ⟨k, rfl, hk, rfl, hBk⟩ := hrel
                have hb5r : Below w5.heap.size w5 wr := below_then HB56.out HB56.out.size hBk.out
                by_cases hlk : k < l.length
                · obtain ⟨g2, o2, hA2, _, d0⟩ := (HI6.out.below hBk.out) k hlk
                  subst hA2
                  have hmem : l.getD k 0 ∈ l := by rw [List.getD_eq_getElem?_getD, List.getElem?_eq_getElem hlk]; exact List.getElem_mem hlk
                  obtain ⟨q, hq, hqm, hqf⟩ := mem_pick (by rw [← HL.out]; exact hmem)
                  rw [hq] at d0
                  obtain ⟨p, hp⟩ : ∃ p, es[q]? = some p := ⟨_, List.getElem?_eq_getElem hqm⟩
                  have hpin := HG.out.2.2 p (List.mem_of_getElem? hp)
                  have hpv : p.1 = (v : Int) := by
                    unfold fromB at hqf
                    have h1 : es.getD q noEdge = p := by rw [List.getD_eq_getElem?_getD, hp]; rfl
                    rw [h1] at hqf
                    exact of_decide_eq_true hqf
                  have hget := WS_get hp
                  have hwd : wordOf p = p.1 * 100 + p.2 := rfl
                  have hTd : IsTab wr.drew T N es.length M C V (WS es es.length) := (HT5.out.below hb5r).below (below_drew (Below.refl _ _))
                  have htg := tget_calls wr.drew T N es.length M C V (WS es es.length) hTd q hqm h30
                  obtain ⟨p1, p2⟩ := p
                  dsimp only at hpin hpv hwd
                  subst hpv
                  rw [hget, hwd] at htg
                  have HTG := Lib.hid htg
                  have hkr : wr.heap[w2.heap.size]? = some (.cells #[.string ⟨#[119]⟩, .int .u8 3] 48 (0, 0)) := blk_below HX5.out hb5r
                  have k0 : wr.cell? ⟨w2.heap.size, 0, none⟩ = some (.string ⟨#[119]⟩) := by rw [blk_cell hkr]; rfl
                  have k1 : wr.cell? ⟨w2.heap.size, 1, none⟩ = some (.int .u8 3) := by rw [blk_cell hkr]; rfl
                  have HEC : Hid (∀ w', Below wr.heap.size wr w' → Calls Try.prog 26 #[.pointer (some ⟨G, 0, none⟩), .int .i64 (q : Int)] w' fun e w2 => e = .returned (.tuple #[.agg #[.int .i64 (v : Int), .int .i64 p2], .bool true]) ∧ Below w'.heap.size w' w2) := fun w' hb => edge_calls ((HI5.out.below hb5r).below hb) q ((v : Int), p2) hp (by omega)
                  have HD0 : Hid (∀ w', Below wr.heap.size wr w' → w'.cell? ⟨g2, o2 + k, none⟩ = some (.int .i64 (q : Int))) := fun w' hb => by rw [hb.cell (p := ⟨g2, o2 + k, none⟩) (cell_lt d0)]; exact d0
                  have qk : decide ((k : Int) < (l.length : Int)) = true := decide_eq_true (by omega)
                  have zk1 : (k : Int) < (l.length : Int) := by omega
                  have zk0 : (0 : Int) ≤ (k : Int) := by omega
                  have hwk : IntKind.i64.wrap ((k : Int) + 1) = ((k + 1 : Nat) : Int) := by rw [IntWalk.i64_in _ (by omega)]; omega
                  have hws : IntKind.i64.wrap (((t0 + k : Nat) : Int) + 1) = ((t0 + (k + 1) : Nat) : Int) := by rw [IntWalk.i64_in _ (by omega)]; omega
                  have hw1 : IntKind.i64.wrap ((v : Int) * 100) = (v : Int) * 100 := IntWalk.i64_in _ (by omega)
                  have hw2 : IntKind.i64.wrap ((v : Int) * 100 + p2) = (v : Int) * 100 + p2 := IntWalk.i64_in _ (by omega)
                  have bne : (((v : Int) * 100 + p2) != ((v : Int) * 100 + p2)) = false := by simp
                  clear hmem hq hqf hp hpin hget hwd hTd htg hkr hb5r
                  have HSB : Hid (∀ w', Below wr.heap.size wr w' → w'.cell? ⟨w2.heap.size, 0, none⟩ = some (.string ⟨#[119]⟩) ∧ w'.cell? ⟨w2.heap.size, 1, none⟩ = some (.int .u8 3) ∧ w'.cell? ⟨g2, o2 + k, none⟩ = some (.int .i64 (q : Int))) := fun w' hb => ⟨by rw [hb.cell (p := ⟨w2.heap.size, 0, none⟩) (cell_lt k0)]; exact k0, by rw [hb.cell (p := ⟨w2.heap.size, 1, none⟩) (cell_lt k1)]; exact k1, by rw [hb.cell (p := ⟨g2, o2 + k, none⟩) (cell_lt d0)]; exact d0⟩
                  clear k0 k1 d0
                  go_upto_region 24 with (fail)
                  refine wp_region_any (by kernel_rfl) ?_
                  change wpAny _ _ _ _ _ _ _ (World.drew wr)
                  have hHeld : (fun w' : World => w'.cell? ⟨w2.heap.size, 0, none⟩ = some (.string ⟨#[119]⟩) ∧ w'.cell? ⟨w2.heap.size, 1, none⟩ = some (.int .u8 3) ∧ w'.cell? ⟨g2, o2 + k, none⟩ = some (.int .i64 (q : Int))) wr.drew := HSB.out _ (below_drew (Below.refl _ _))
                  refine wpAny_of_held (S := fun w' : World => w'.cell? ⟨w2.heap.size, 0, none⟩ = some (.string ⟨#[119]⟩) ∧ w'.cell? ⟨w2.heap.size, 1, none⟩ = some (.int .u8 3) ∧ w'.cell? ⟨g2, o2 + k, none⟩ = some (.int .i64 (q : Int))) _ _ _ _ ?_
                  refine take_at (i := 0) (d := 86) (v := ?_) rfl rfl (by kernel_rfl) (by kernel_rfl) (by kernel_rfl) (fun _ _ _ h => h) (Or.inl ⟨by rfl, ?hy0y⟩) (by assumption) ?rest0y
                  case hy0y => intro w' hSw; (try dsimp only at hSw); obtain ⟨s1, s2, s3⟩ := hSw; go_simp; try with_reducible rfl
                  simp only [List.setIfInBounds_toArray, List.set_cons_zero, List.set_cons_succ]
                  refine take_at (i := 1) (d := 87) (v := ?_) rfl rfl (by kernel_rfl) (by kernel_rfl) (by kernel_rfl) (fun _ _ _ h => h) (Or.inl ⟨by rfl, ?hy1y⟩) (by assumption) ?rest1y
                  case hy1y => intro w' hSw; (try dsimp only at hSw); obtain ⟨s1, s2, s3⟩ := hSw; go_simp; try with_reducible rfl
                  simp only [List.setIfInBounds_toArray, List.set_cons_zero, List.set_cons_succ]
                  refine take_at (i := 2) (d := 88) (v := ?_) rfl rfl (by kernel_rfl) (by kernel_rfl) (by kernel_rfl) (fun _ _ _ h => h) (Or.inl ⟨by rfl, ?hy2y⟩) (by assumption) ?rest2y
                  case hy2y => intro w' hSw; (try dsimp only at hSw); obtain ⟨s1, s2, s3⟩ := hSw; go_simp; try with_reducible rfl
                  simp only [List.setIfInBounds_toArray, List.set_cons_zero, List.set_cons_succ]
                  refine take_at (i := 3) (d := 89) (v := ?_) rfl rfl (by kernel_rfl) (by kernel_rfl) (by kernel_rfl) (fun _ _ _ h => h) (Or.inl ⟨by rfl, ?hy3y⟩) (by assumption) ?rest3y
                  case hy3y => intro w' hSw; (try dsimp only at hSw); obtain ⟨s1, s2, s3⟩ := hSw; go_simp; try with_reducible rfl
                  simp only [List.setIfInBounds_toArray, List.set_cons_zero, List.set_cons_succ]
                  refine take_at (i := 4) (d := 90) (v := ?_) rfl rfl (by kernel_rfl) (by kernel_rfl) (by kernel_rfl) (fun _ _ _ h => h) (Or.inl ⟨by rfl, ?hy4y⟩) (by assumption) ?rest4y
                  case hy4y => intro w' hSw; (try dsimp only at hSw); obtain ⟨s1, s2, s3⟩ := hSw; go_simp; try with_reducible rfl
                  simp only [List.setIfInBounds_toArray, List.set_cons_zero, List.set_cons_succ]
                  refine take_at (i := 5) (d := 91) (v := ?_) rfl rfl (by kernel_rfl) (by kernel_rfl) (by kernel_rfl) (fun _ _ _ h => h) (Or.inl ⟨by rfl, ?hy5y⟩) (by assumption) ?rest5y
                  case hy5y => intro w' hSw; (try dsimp only at hSw); obtain ⟨s1, s2, s3⟩ := hSw; go_simp; try with_reducible rfl
                  simp only [List.setIfInBounds_toArray, List.set_cons_zero, List.set_cons_succ]
                  refine wpAnyH_ready (rs := [6]) (by kernel_rfl) (by simp) ?_
                  refine AllReadyH.cons rfl (fun K hK => ?_) AllReadyH.nil
                  go_simp
                  refine HTG.out.mono ?_
                  rintro e w7 ⟨rfl, hb7⟩
                  have hbr7 : Below wr.heap.size wr w7 := (below_drew (Below.refl _ _)).trans hb7
                  refine hK.out _ _ (HSB.out _ hbr7) (fun hHeld => ?_)
                  clear hK K
                  try simp only [Act.put, List.setIfInBounds_toArray, List.set_cons_zero, List.set_cons_succ]
                  refine take_at (i := 7) (d := 85) (v := ?_) rfl rfl (by kernel_rfl) (by kernel_rfl) (by kernel_rfl) (fun _ _ _ h => h) (Or.inl ⟨by rfl, ?hy7y⟩) (by assumption) ?rest7y
                  case hy7y => intro w' hSw; (try dsimp only at hSw); obtain ⟨s1, s2, s3⟩ := hSw; go_simp; try with_reducible rfl
                  simp only [List.setIfInBounds_toArray, List.set_cons_zero, List.set_cons_succ]
                  refine take_at (i := 8) (d := 93) (v := ?_) rfl rfl (by kernel_rfl) (by kernel_rfl) (by kernel_rfl) (fun _ _ _ h => h) (Or.inl ⟨by rfl, ?hy8y⟩) (by assumption) ?rest8y
                  case hy8y => intro w' hSw; (try dsimp only at hSw); obtain ⟨s1, s2, s3⟩ := hSw; go_simp; try with_reducible rfl
                  simp only [List.setIfInBounds_toArray, List.set_cons_zero, List.set_cons_succ]
                  refine take_at (i := 9) (d := 94) (v := ?_) rfl rfl (by kernel_rfl) (by kernel_rfl) (by kernel_rfl) (fun _ _ _ h => h) (Or.inl ⟨by rfl, ?hy9y⟩) (by assumption) ?rest9y
                  case hy9y => intro w' hSw; (try dsimp only at hSw); obtain ⟨s1, s2, s3⟩ := hSw; go_simp; try with_reducible rfl
                  simp only [List.setIfInBounds_toArray, List.set_cons_zero, List.set_cons_succ]
                  refine take_at (i := 10) (d := 15) (v := ?_) rfl rfl (by kernel_rfl) (by kernel_rfl) (by kernel_rfl) (fun _ _ _ h => h) (Or.inl ⟨by rfl, ?hy10y⟩) (by assumption) ?rest10y
                  case hy10y => intro w' hSw; (try dsimp only at hSw); obtain ⟨s1, s2, s3⟩ := hSw; go_simp; try with_reducible rfl
                  simp only [List.setIfInBounds_toArray, List.set_cons_zero, List.set_cons_succ]
                  refine take_at (i := 11) (d := 16) (v := ?_) rfl rfl (by kernel_rfl) (by kernel_rfl) (by kernel_rfl) (fun _ _ _ h => h) (Or.inl ⟨by rfl, ?hy11y⟩) (by assumption) ?rest11y
                  case hy11y => intro w' hSw; (try dsimp only at hSw); obtain ⟨s1, s2, s3⟩ := hSw; go_simp; try with_reducible rfl
                  simp only [List.setIfInBounds_toArray, List.set_cons_zero, List.set_cons_succ]
                  refine wpAnyH_done (by kernel_rfl) ?_ _
                  have d7 := HD0.out w7 hbr7
                  have HEC7 := Lib.hid (HEC.out w7 hbr7)
                  have HBR7 := Lib.hid hbr7
                  clear hb7 hbr7 HTG HEC HD0 HSB hHeld
                  go_wp2_with (fail)
                  refine HEC7.out.mono ?_
                  rintro e w8 ⟨rfl, hb8⟩
                  have hbr8 : Below wr.heap.size wr w8 := below_then HBR7.out HBR7.out.size hb8
                  obtain ⟨w9, hw9⟩ : ∃ w9, w9 = w8.alloc (.cells #[.int .i64 (v : Int), .int .i64 p2] 36) := ⟨_, rfl⟩
                  have hx9 : w9.heap[w8.heap.size]? = some (.cells #[.int .i64 (v : Int), .int .i64 p2] 36 (0, 0)) := by rw [hw9]; exact blk_new w8 _
                  have x9 : w9.cell? ⟨w8.heap.size, 1, none⟩ = some (.int .i64 p2) := by rw [blk_cell hx9]; rfl
                  have HB9 : Hid (Below w6.heap.size w6 w9) := by
                    show Below _ _ _
                    rw [hw9]
                    exact (below_then hBk.out hBk.out.size hbr8).alloc (Nat.le_trans hBk.out.size hbr8.size) _
                  have HW9 := Lib.hid hw9
                  clear hb8 hbr8 hx9 hw9 d7
                  go_upto_region 26 with (fail)
                  rw [← HW9.out]
                  go_wp2
                  go_roundw
                  case measure => simp [intOf]; omega
                  case rel => exact ⟨k + 1, by first | rfl | (rw [hwk]) | simp, by omega, by first | rfl | (rw [hws]) | simp, HB9⟩
                · obtain rfl : k = l.length := by omega
                  have qk : decide ((l.length : Int) < (l.length : Int)) = false := decide_eq_false (by omega)
                  have HB5r := Lib.hid hb5r
                  clear hb5r
                  go_wp2
                  go_roundw
                  case measure => simp [intOf]; omega
                  case rel => exact ⟨v + 1, by first | rfl | (rw [hwv]) | simp, by omega, by rw [HSTEP.out], HB5r.out⟩
            · obtain rfl : v = N := by omega
              have qv : decide ((v : Int) < (v : Int)) = false := decide_eq_false (by omega)
              rw [htot]
              have HTR := Lib.hid (HT5.out.below hBr.out)
              have hkr : wr.heap[w2.heap.size]? = some (.cells #[.string ⟨#[119]⟩, .int .u8 3] 48 (0, 0)) := blk_below HX5.out hBr.out
              have k0 : wr.cell? ⟨w2.heap.size, 0, none⟩ = some (.string ⟨#[119]⟩) := by rw [blk_cell hkr]; rfl
              have k1 : wr.cell? ⟨w2.heap.size, 1, none⟩ = some (.int .u8 3) := by rw [blk_cell hkr]; rfl
              have HLC := Lib.hid (list_calls wr T v es.length M C V (WS es es.length) HTR.out h30)
              have beq : ((es.length : Int) == (es.length : Int)) = true := by simp
              clear htot hmon hkr
              go_wp2_with (fail)
              refine HNC.out.mono ?_
              rintro e wv ⟨rfl, rfl⟩
              go_wp2_with (fail)
              refine HLC.out.mono ?_
              rintro e w9 ⟨A9, c9, rfl, hb9⟩
              have HB9 := Lib.hid (below_then HB5.out HB5.out.size (below_then hBr.out hBr.out.size hb9))
              clear hb9 k0 k1
              go_wp2
              go_ret
              exact ⟨rfl, HB9.out⟩
    · have HGG := Lib.hid hg
      have HB1 := Lib.hid hb1
      have HCK := Lib.hid (check_calls w1 A c n es (HE.out.below hb1) (by omega))
      have he : errG n es = 11 := if_neg hg
      have HEE := Lib.hid he
      clear hg hb1 he HNW
      go_wp2_with (fail)
      refine HCK.out.mono ?_
      rintro e w2 ⟨x, rfl, hb2⟩
      have HB2 := Lib.hid (below_then HB1.out HB1.out.size hb2)
      clear hb2
      rw [HEE.out]
      go_wp2
      go_ret
      exact ⟨rfl, HB2.out⟩
end Go.Proofs.Ytbldlmolbdkabaa.HP
