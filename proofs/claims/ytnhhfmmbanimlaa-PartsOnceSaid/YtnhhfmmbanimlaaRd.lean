/-
The contract of Cut, over the translation: how many edges lead from one worker to another one.
-/
import Derived.Test.YtnhhfmmbanimlaaPre2
set_option linter.unusedVariables false
set_option linter.unusedSimpArgs false
namespace Go.Proofs.Ytnhhfmmbanimlaa.HP
open Go.RowKit Go.Proofs.Ytnhhfmmbanimlaa.HK Go.Proofs.YtnhhfmmbanimlaaW.PrintWords Go.Proofs.YtnhhfmmbanimlaaW.PrintLast Go.Proofs.YtnhhfmmbanimlaaW.PrintMore
theorem wide_fn (f : FuncId) : Fence.wide.fn f = True := rfl
theorem wide_depth : Fence.wide.depth = none := rfl
attribute [local go_sem] Oper.semAt_some wide_fn wide_depth

/-! ### edges -/
def edgeKd : Kd (Int × Int) := Kd.pair (Kd.int .i64) (Kd.int .i64)
def IsEdges (w : World) (A : Option Addr) (c : Nat) (es : List (Int × Int)) : Prop := es.length ≤ c ∧ Kd.C edgeKd w A es.length es
theorem IsEdges.below {w w1 : World} {A : Option Addr} {c : Nat} {l : List (Int × Int)} (h : IsEdges w A c l) (hb : Below w.heap.size w w1) : IsEdges w1 A c l := ⟨h.1, Kd.C_below h.2 hb⟩
def edgeAt (es : List (Int × Int)) (k : Nat) : Int × Int := es.getD k (0, 0)
theorem IsEdges.at_ {w : World} {A : Option Addr} {c : Nat} {es : List (Int × Int)} (h : IsEdges w A c es) {k : Nat} (hk : k < es.length) :
    ∃ ad, A = some ad ∧ w.cell? (ad.add (k * 2)) = some (.int .i64 (edgeAt es k).1) ∧ w.cell? ⟨(ad.add (k * 2)).block, (ad.add (k * 2)).off + 1, none⟩ = some (.int .i64 (edgeAt es k).2) := by
  obtain ⟨ad, cs, e, _, hK, hc⟩ := Kd.C_get h.2 (0, 0) (k : Int) (by omega) (by omega)
  rw [Int.toNat_natCast] at hK hc
  obtain ⟨c0, c1, rfl, h0, h1⟩ := hK
  have h0' : c0 = [.int .i64 (edgeAt es k).1] := h0
  have h1' : c1 = [.int .i64 (edgeAt es k).2] := h1
  subst h0' h1'
  refine ⟨ad, e, ?_, ?_⟩
  · have := hc 0 _ rfl
    simpa [edgeKd, Kd.pair, Kd.int, Kd.scalar] using this
  · have := hc 1 _ rfl
    have e2 : ad.add (k * 2 + 1) = ⟨(ad.add (k * 2)).block, (ad.add (k * 2)).off + 1, none⟩ := by
      unfold Addr.add
      by_cases hk0 : k * 2 = 0
      · simp [hk0]
      · simp [hk0, Nat.add_assoc]
    rw [← e2]
    simpa [edgeKd, Kd.pair, Kd.int, Kd.scalar] using this

def crosses (f : Nat → Nat) (n : Nat) (e : Int × Int) : Bool := (ofAt f n e.1 != -1) && ((ofAt f n e.2 != -1) && (ofAt f n e.1 != ofAt f n e.2))
def crossing (f : Nat → Nat) (n : Nat) (es : List (Int × Int)) : List (Int × Int) := es.filter (crosses f n)

set_option maxHeartbeats 1000000 in
/-- crossing: both are boxed; the function value captures the boxes. -/
theorem crossing_in (F : Fence) (n : Nat) (hf : F.fn 44) (hro : F.round = none) (g : Nat) (A : Option Addr) (len cap : Nat) (w : World) :
    CallsIn F n Try.prog 44 #[.pointer (some ⟨g, 0, none⟩), .slice A len cap] w fun e w' => e = .returned (.func (.func 48) #[] #[.pointer (some ⟨w.heap.size + 1, 0, none⟩), .pointer (some ⟨w.heap.size, 0, none⟩)]) ∧
      w' = (w.alloc (.cells #[.pointer (some ⟨g, 0, none⟩)] 24)).alloc (.cells #[.slice A len cap] 23) := by
  refine callsIn_of_wp Try.func44 rfl hf ?_ hro
  simp only [Try.ntmps44, List.size_toArray, List.length_cons, List.length_nil, Nat.reduceAdd, Nat.reduceSub, Array.replicate_succ, Array.replicate_zero, List.push_toArray, List.append_toArray, List.nil_append, List.cons_append]
  have hmf : ∀ (fn : Fn) (first cap : Array Value) (w : World), (Instr.makeFunc fn first cap).run Try.prog w = .ok (.func fn first cap) w := fun _ _ _ _ => rfl
  gi_wp2
  go_ret
  exact ⟨rfl, rfl⟩

theorem of_drew {g : Nat} {f : Nat → Nat} {n W r : Nat} {v : Int} {w : World} (h : IsParts w g f n W) (q : Nat) :
    CallsIn Fence.wide r Try.prog 15 #[.pointer (some ⟨g, 0, none⟩), .int .i64 v] (w.drewN q) fun e w' => e = .returned (.int .i64 (ofAt f n v)) ∧ w' = w.drewN q :=
  (callsIn_wide.2 (of_calls g f n W v (w.drewN q) (h.below (pw_below_drewN (Below.refl _ _) q)))).mono fun _ _ ⟨he, hw⟩ => ⟨he, hw.symm⟩
theorem crossing_snoc {f : Nat → Nat} {n : Nat} {es : List (Int × Int)} {k : Nat} (hk : k < es.length) : crossing f n (es.take (k + 1)) = crossing f n (es.take k) ++ (if crosses f n (edgeAt es k) = true then [edgeAt es k] else []) := by
  unfold crossing edgeAt
  rw [List.take_succ_eq_append_getElem hk, List.filter_append, List.getD_eq_getElem?_getD, List.getElem?_eq_getElem hk]
  simp only [Option.getD_some]
  by_cases h : crosses f n es[k] = true <;> simp [h]
theorem crossing_prefix (f : Nat → Nat) (n : Nat) (es : List (Int × Int)) (k : Nat) : crossing f n (es.take k) <+: crossing f n es := by
  unfold crossing
  exact (List.take_prefix k es).filter _
theorem crossing_len (f : Nat → Nat) (n : Nat) (es : List (Int × Int)) (k : Nat) : (crossing f n (es.take k)).length ≤ k :=
  Nat.le_trans (List.length_filter_le _ _) (List.length_take_le _ _)
/-- What a round that goes on keeps: all that lay when the call began, and the two boxes. -/
def KpC (n₀ b1 b2 : Nat) (W W' : World) : Prop := Below n₀ W W' ∧ W'.heap[b1]? = W.heap[b1]? ∧ W'.heap[b2]? = W.heap[b2]?
set_option maxHeartbeats 4000000 in
set_option maxRecDepth 100000 in
theorem crossing1_in (n : Nat) (hn : 2 ≤ n) (l b1 b2 g : Nat) (f : Nat → Nat) (nn NW : Nat) (A : Option Addr) (c : Nat) (es : List (Int × Int)) (w0 : World) (hP : IsParts w0 g f nn NW) (hE : IsEdges w0 A c es) (hlen : es.length ≤ 1000000) (J Jx : List (Int × Int) → World → Prop)
    (W : World) (hJ : AbidesFrom W.heap.size J)
    (hY : ∀ pre x W, J pre W → pre.length < es.length → YieldAt Fence.wide (n - 1) Try.prog l #[.agg #[.int .i64 x.1, .int .i64 x.2]] W fun e W' =>
      (e = .returned (.bool true) ∧ J (pre ++ [x]) W' ∧ KpC w0.heap.size b1 b2 W W') ∨ (e = .returned (.bool false) ∧ Jx (pre ++ [x]) W'))
    (hb1 : W.heap[b1]? = some (.cells #[.slice A es.length c] 23 (0, 0))) (hb2 : W.heap[b2]? = some (.cells #[.pointer (some ⟨g, 0, none⟩)] 24 (0, 0))) (hW : Below w0.heap.size w0 W) (h0 : J [] W) :
    CallsIn Fence.wide n Try.prog 48 #[.func (.yield l) #[] #[], .pointer (some ⟨b1, 0, none⟩), .pointer (some ⟨b2, 0, none⟩)] W fun e W' => (∃ v, e = .returned v) ∧
      ((∃ ys, ys = crossing f nn es ∧ J ys W') ∨ (∃ pre, pre <+: crossing f nn es ∧ Jx pre W')) := by
  have hc1 : W.cell? ⟨b1, 0, none⟩ = some (.slice A es.length c) := (blk_cell hb1 0).trans rfl
  refine callsIn_of_wp Try.func48 rfl trivial ?_ rfl
  simp only [Try.ntmps48, List.size_toArray, List.length_cons, List.length_nil, Nat.reduceAdd, Nat.reduceSub, Array.replicate_succ, Array.replicate_zero, List.push_toArray, List.append_toArray, List.nil_append, List.cons_append]
  gi_wp2
  gi_loopw [10] (fun i wr => ∃ k : Nat, k ≤ es.length ∧ i = .int .i64 k ∧ J (crossing f nn (es.take k)) wr ∧ Hid (Below w0.heap.size w0 wr) ∧ Hid (wr.heap[b2]? = some (.cells #[.pointer (some ⟨g, 0, none⟩)] 24 (0, 0)))) (fun i _ => es.length - (intOf i).toNat)
  case atStart => exact ⟨0, Nat.zero_le _, rfl, h0, hW, hb2⟩
  case round =>
    obtain ⟨k, hk, rfl, hJs, hB, hb2r⟩ := hrel
    by_cases hlt : k < es.length
    · obtain ⟨ad, rfl, hca, hcb⟩ := (hE.below hB.out).at_ hlt
      have hsn := Lib.hid (crossing_snoc (f := f) (n := nn) hlt)
      have hpl := crossing_len f nn es k
      obtain ⟨x, hx⟩ : ∃ x, x = edgeAt es k := ⟨_, rfl⟩
      rw [← hx] at hca hcb hsn
      obtain ⟨xa, xb⟩ := x
      obtain ⟨o, ho⟩ : ∃ o, o = ofAt f nn := ⟨_, rfl⟩
      have hcr : Hid (crosses f nn (xa, xb) = ((o xa != -1) && ((o xb != -1) && (o xa != o xb)))) := by rw [ho]; exact rfl
      have hcb2 : wr.cell? ⟨b2, 0, none⟩ = some (.pointer (some ⟨g, 0, none⟩)) := (blk_cell hb2r.out 0).trans rfl
      have hb2lt : b2 < wr.heap.size := blk_lt hb2r.out
      have hJ2 := Lib.hid hJs
      have hPa : ∀ v q r, CallsIn Fence.wide r Try.prog 15 #[.pointer (some ⟨g, 0, none⟩), .int .i64 v] ((wr.alloc (.cells #[.int .i64 xa, .int .i64 xb] 30)).drewN q) fun e w' => e = .returned (.int .i64 (o v)) ∧ w' = (wr.alloc (.cells #[.int .i64 xa, .int .i64 xb] 30)).drewN q := by
        intro v q r
        rw [ho]
        exact of_drew ((hP.below hB.out).below ((Below.refl _ _).alloc (Nat.le_refl _) _)) q
      have HPa := Lib.hid hPa
      have HX := Lib.hid hx
      clear hPa ho hx hJs
      gi_wp2_with fail
      gi_big_quiet_th (first | (gi_at_call 15; refine CallsIn.quiet_of_same (HPa.out _ _ _)))
      have hJ3 : Hid (J (crossing f nn (es.take k)) ((wr.alloc (.cells #[.int .i64 xa, .int .i64 xb] 30)).drewN nq)) :=
        hJ _ _ _ none hJ2.out (World.grownBy.trans (World.grownBy_alloc wr _ _) (grown_of_below (pw_below_drewN (Below.refl _ _) nq) none)) (fun r e => by cases e)
      have hB3 : Hid (Below w0.heap.size w0 ((wr.alloc (.cells #[.int .i64 xa, .int .i64 xb] 30)).drewN nq)) := pw_below_drewN (hB.out.alloc hB.out.size _) nq
      have hb3 : Hid (((wr.alloc (.cells #[.int .i64 xa, .int .i64 xb] 30)).drewN nq).heap[b2]? = some (.cells #[.pointer (some ⟨g, 0, none⟩)] 24 (0, 0))) := blk_alloc hb2r.out _
      clear hJ2 HPa hcb2 hca hcb
      by_cases ha : o xa = -1
      · have e1 : (o xa != -1) = false := by simp [ha]
        have hno : Hid (crosses f nn (xa, xb) = false) := by rw [hcr.out, e1]; exact rfl
        clear ha
        gi_wp2
        go_roundw
        case measure => simp [intOf]; omega
        case rel => exact ⟨k + 1, by omega, by go_num, by rw [hsn.out, hno.out, if_neg (by decide), List.append_nil]; exact hJ3.out, hB3.out, hb3.out⟩
      · have e1 : (o xa != -1) = true := by simp [ha]
        clear ha
        by_cases hb : o xb = -1
        · have e2 : (o xb != -1) = false := by simp [hb]
          have hno : Hid (crosses f nn (xa, xb) = false) := by rw [hcr.out, e1, e2]; exact rfl
          clear hb
          gi_wp2
          go_roundw
          case measure => simp [intOf]; omega
          case rel => exact ⟨k + 1, by omega, by go_num, by rw [hsn.out, hno.out, if_neg (by decide), List.append_nil]; exact hJ3.out, hB3.out, hb3.out⟩
        · have e2 : (o xb != -1) = true := by simp [hb]
          clear hb
          by_cases hab : o xa = o xb
          · have e3 : (o xa != o xb) = false := by simp [hab]
            have hno : Hid (crosses f nn (xa, xb) = false) := by rw [hcr.out, e1, e2, e3]; exact rfl
            clear hab
            gi_wp2
            go_roundw
            case measure => simp [intOf]; omega
            case rel => exact ⟨k + 1, by omega, by go_num, by rw [hsn.out, hno.out, if_neg (by decide), List.append_nil]; exact hJ3.out, hB3.out, hb3.out⟩
          · have e3 : (o xa != o xb) = true := by simp [hab]
            have hyes : Hid (crosses f nn (xa, xb) = true) := by rw [hcr.out, e1, e2, e3]; exact rfl
            clear hab
            obtain ⟨fn, tmps, assign, body, hy, hR⟩ := hY _ (xa, xb) _ hJ3.out (by omega)
            gi_wp2
            refine hR.mono ?_
            rintro e W3 (⟨rfl, hJ4, hk4⟩ | ⟨rfl, hJx⟩)
            · have hJ5 := Lib.hid hJ4
              have hB5 := Lib.hid (hB3.out.trans hk4.1)
              have hb5 := Lib.hid (hk4.2.2.trans hb3.out)
              clear hJ4 hk4 hR hy
              gi_wp2
              go_roundw
              case measure => simp [intOf]; omega
              case rel => exact ⟨k + 1, by omega, by go_num, by rw [hsn.out, hyes.out, if_pos rfl]; exact hJ5.out, hB5.out, hb5.out⟩
            · have hJ5 := Lib.hid hJx
              clear hJx hR hy
              gi_wp2
              refine bodyPost_ret (results_none rfl _ _ _) rfl ?_
              refine ⟨⟨_, rfl⟩, .inr ⟨crossing f nn (es.take (k + 1)), crossing_prefix f nn es (k + 1), ?_⟩⟩
              rw [hsn.out, hyes.out, if_pos rfl]
              exact hJ5.out
    · obtain rfl : k = es.length := by omega
      gi_wp2
      go_end0
      exact ⟨⟨_, rfl⟩, .inl ⟨_, rfl, by rw [List.take_length] at hJs; exact hJs⟩⟩
theorem crossing_stops (n : Nat) (hn : 2 ≤ n) (b1 b2 g : Nat) (f : Nat → Nat) (nn NW : Nat) (A : Option Addr) (c : Nat) (es : List (Int × Int)) (w0 w : World) (hP : IsParts w0 g f nn NW) (hE : IsEdges w0 A c es) (hlen : es.length ≤ 1000000)
    (hb1 : w.heap[b1]? = some (.cells #[.slice A es.length c] 23 (0, 0))) (hb2 : w.heap[b2]? = some (.cells #[.pointer (some ⟨g, 0, none⟩)] 24 (0, 0))) (hw : Below w0.heap.size w0 w) :
    SeqStopsK Fence.wide n Try.prog 48 #[.pointer (some ⟨b1, 0, none⟩), .pointer (some ⟨b2, 0, none⟩)] (fun x : Int × Int => #[Value.agg #[.int .i64 x.1, .int .i64 x.2]]) (KpC w0.heap.size b1 b2) (fun ys => ys = crossing f nn es) (fun pre => pre <+: crossing f nn es) es.length w :=
  fun l J Jx W hW hJ _ hY h0 => crossing1_in n hn l b1 b2 g f nn NW A c es w0 hP hE hlen J Jx W hJ hY (blk_below hb1 hW) (blk_below hb2 hW) (below_then hw hw.size hW) h0
theorem kpc_t {n₀ b1 b2 : Nat} {A B C : World} (h : KpC n₀ b1 b2 A B) (k : KpC n₀ b1 b2 B C) : KpC n₀ b1 b2 A C :=
  ⟨h.1.trans k.1, k.2.1.trans h.2.1, k.2.2.trans h.2.2⟩
theorem heap_putObj (W : World) (l : Nat) (o : Obj) {b : Nat} (hb : b ≠ l) : (W.putObj l o).heap[b]? = W.heap[b]? := by
  simp [World.putObj, Array.getElem?_setIfInBounds, Ne.symm hb]
theorem kpc_b {n₀ b1 b2 : Nat} {w : World} (hn : n₀ ≤ w.heap.size) (h1 : b1 < w.heap.size) (h2 : b2 < w.heap.size) (W : World) (l : Nat) (o o' : Obj) (hl : w.heap.size ≤ l) (h : W.heap[l]? = some o) (hc : o.isCells = false) (hw : o.isWalk = false) : KpC n₀ b1 b2 W (W.putObj l o') :=
  ⟨belowK_b (w := w) hn W l o o' hl h hc hw, heap_putObj W l o' (by omega), heap_putObj W l o' (by omega)⟩
/-- How many edges lead from one worker to another one. -/
def cutOf (f : Nat → Nat) (n : Nat) (es : List (Int × Int)) : Nat := (crossing f n es).length
set_option maxHeartbeats 4000000 in
set_option maxRecDepth 100000 in
theorem cut_in (g : Nat) (f : Nat → Nat) (nn NW : Nat) (A : Option Addr) (c : Nat) (es : List (Int × Int)) (w : World) (hP : IsParts w g f nn NW) (hE : IsEdges w A c es) (hlen : es.length ≤ 1000000) :
    CallsIn Fence.wide 6 Try.prog 16 #[.pointer (some ⟨g, 0, none⟩), .slice A es.length c] w fun e W' => e = .returned (.int .i64 (cutOf f nn es : Nat)) ∧ Below w.heap.size w W' := by
  refine callsIn_of_wp_marks Try.func16 rfl trivial ?_ rfl
  simp only [Try.ntmps16, List.size_toArray, List.length_cons, List.length_nil, Nat.reduceAdd, Nat.reduceSub, Array.replicate_succ, Array.replicate_zero, List.push_toArray, List.append_toArray, List.nil_append, List.cons_append]
  gi_wp2_with (gi_at_call 44; refine (crossing_in Fence.wide _ trivial rfl g A es.length c _).mono ?_; rintro e w' ⟨rfl, rfl⟩)
  have hB0 : Below w.heap.size w (((w.alloc (.cells #[.int .i64 0] 3)).alloc (.cells #[.pointer (some ⟨g, 0, none⟩)] 24)).alloc (.cells #[.slice A es.length c] 23)) := (((Below.refl _ w).alloc (Nat.le_refl _) _).alloc (by simp) _).alloc (by simp; omega) _
  have k0 : (((w.alloc (.cells #[.int .i64 0] 3)).alloc (.cells #[.pointer (some ⟨g, 0, none⟩)] 24)).alloc (.cells #[.slice A es.length c] 23)).heap[w.heap.size]? = some (.cells #[.int .i64 0] 3 (0, 0)) := blk_alloc (blk_alloc (blk_new w _) _) _
  have k1 : (((w.alloc (.cells #[.int .i64 0] 3)).alloc (.cells #[.pointer (some ⟨g, 0, none⟩)] 24)).alloc (.cells #[.slice A es.length c] 23)).heap[w.heap.size + 1]? = some (.cells #[.pointer (some ⟨g, 0, none⟩)] 24 (0, 0)) := by
    refine blk_alloc ?_ _
    have := blk_new (w.alloc (.cells #[.int .i64 0] 3)) (.cells #[.pointer (some ⟨g, 0, none⟩)] 24)
    rwa [World.size_alloc] at this
  have k2 : (((w.alloc (.cells #[.int .i64 0] 3)).alloc (.cells #[.pointer (some ⟨g, 0, none⟩)] 24)).alloc (.cells #[.slice A es.length c] 23)).heap[w.heap.size + 1 + 1]? = some (.cells #[.slice A es.length c] 23 (0, 0)) := by
    have := blk_new ((w.alloc (.cells #[.int .i64 0] 3)).alloc (.cells #[.pointer (some ⟨g, 0, none⟩)] 24)) (.cells #[.slice A es.length c] 23)
    rwa [World.size_alloc, World.size_alloc] at this
  refine wpIn_rangeFunc_ownF rfl (by omega) (gf := 48) (lb := #[.pointer (some ⟨w.heap.size + 1 + 1, 0, none⟩), .pointer (some ⟨w.heap.size + 1, 0, none⟩)]) rfl trivial (enters_of Try.func48 (by kernel_rfl) rfl)
    (crossing_stops 5 (by omega) (w.heap.size + 1 + 1) (w.heap.size + 1) g f nn NW A c es w _ hP hE hlen k2 k1 hB0) kpc_t (kpc_b (by simp; omega) (by simp) (by simp)) (Below.refl _ _) (fun _ => rfl)
    (fun pre W => (W.cell? ⟨w.heap.size, 0, none⟩ = some (.int .i64 (pre.length : Nat)) ∧ W.frozen? ⟨w.heap.size, 0, none⟩ = false) ∧ Below w.heap.size w W)
    (fun _ _ _ => False)
    (OwnFrom.and (Own.from (fun s A B row hs hg hr => ⟨cell_kept hs.1 hg hr, (frozen_kept hs.1 hg hr).trans hs.2⟩) _) (ownFrom_below (Nat.le_refl _) (by simp; omega)))
    (fun _ _ _ _ _ hs _ _ => hs)
    ⟨⟨(blk_cell k0 0).trans rfl, blk_frozen k0 0⟩, hB0⟩
    (fun x => { tmps := #[.pointer (some ⟨g, 0, none⟩), .slice A es.length c, undef, undef, .int .i64 0, .pointer (some ⟨w.heap.size, 0, none⟩), .pointer (some ⟨g, 0, none⟩), .slice A es.length c, .func (.func 48) #[] #[.pointer (some ⟨w.heap.size + 1 + 1, 0, none⟩), .pointer (some ⟨w.heap.size + 1, 0, none⟩)], .agg #[.int .i64 x.1, .int .i64 x.2], undef, undef, undef], defers := [] }) ?assign ?body ?done ?stop
  case assign =>
    intro l x W K hK
    gi_wp2
    simpa using hK
  case body =>
    rintro l pre x W ⟨⟨hc, hf⟩, hB⟩ hlen2
    gi_wp2
    exact ⟨KeepsOthers.setCell _ _ _, ⟨(Below.refl w.heap.size W).setCell (p := ⟨w.heap.size, 0, none⟩) (Nat.le_refl _) _, Below.heap_setCell _ _ _ _ (by simp; omega), Below.heap_setCell _ _ _ _ (by simp)⟩, ⟨by rw [List.length_append]; exact World.cell?_setCell_same' _ _ _ (by rw [hc]; rfl), by rw [World.frozen?_setCell]; exact hf⟩, hB.setCell (p := ⟨w.heap.size, 0, none⟩) (Nat.le_refl _) _⟩
  case done =>
    rintro D ys W hD rfl ⟨⟨hc, _⟩, hB⟩ hK
    gi_wp2
    refine ⟨by simp, .inl ⟨_, _, rfl, run_takeDeferred hK, ?_⟩⟩
    exact ⟨_, results_tmp rfl _ _ _, rfl, hB.trans (belowK_b (w := w) (Nat.le_refl _) W D _ _ (by simp at hD; omega) hK rfl rfl)⟩
  case stop =>
    rintro D c pre W _ _ h _
    exact h.elim
theorem cut_calls (g : Nat) (f : Nat → Nat) (nn NW : Nat) (A : Option Addr) (c : Nat) (es : List (Int × Int)) (w : World) (hP : IsParts w g f nn NW) (hE : IsEdges w A c es) (hlen : es.length ≤ 1000000) :
    Calls Try.prog 16 #[.pointer (some ⟨g, 0, none⟩), .slice A es.length c] w fun e W' => e = .returned (.int .i64 (cutOf f nn es : Nat)) ∧ Below w.heap.size w W' :=
  callsIn_wide.1 (cut_in g f nn NW A c es w hP hE hlen)
end Go.Proofs.Ytnhhfmmbanimlaa.HP
