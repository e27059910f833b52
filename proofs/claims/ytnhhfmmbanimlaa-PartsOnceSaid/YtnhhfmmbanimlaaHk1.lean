/-
Contracts of functions of layer perm, over the translation: how many orders there are; a copy of a slice.
-/
import Derived.Test.YtnhhfmmbanimlaaPre
import Derived.Test.YtnhhfmmbanimlaaHk0
set_option linter.unusedVariables false
set_option linter.unusedSimpArgs false
namespace Go.Proofs.Ytnhhfmmbanimlaa.HK
open Go.RowKit Go.Proofs.YtnhhfmmbanimlaaW.PrintWords Go.Proofs.YtnhhfmmbanimlaaW.PrintLast Go.Proofs.YtnhhfmmbanimlaaW.PrintMore

theorem ret_int {k : IntKind} {a b : Int} (h : a = b) : Ending.returned (.int k a) = Ending.returned (.int k b) := by rw [h]
theorem ret_bool {a b : Bool} (h : a = b) : Ending.returned (.bool a) = Ending.returned (.bool b) := by rw [h]
theorem wrap_fac {k : Nat} (h : fac (k + 1) ≤ 20922789888000) : IntKind.u64.wrap ((fac k : Int) * ((k : Int) + 1)) = ((fac (k + 1) : Nat) : Int) := by
  have e : (fac k : Int) * ((k : Int) + 1) = ((fac (k + 1) : Nat) : Int) := by simp [fac]
  rw [e]
  exact IntWalk.u64_in _ ⟨by omega, by omega⟩

def perm_Many.f (a0 : Int) : Option Int := some (manyOf a0)
set_option maxHeartbeats 400000 in
theorem perm_Many.calls (a0 : Int) (r : Int) (w : World) (h : perm_Many.f a0 = some r) :
    Calls Try.prog 27 #[.int .i64 a0] w fun e w' => e = .returned (.int .u64 r) ∧ Drawn0 w w' := by
  replace h : manyOf a0 = r := Option.some.inj h
  by_cases h0 : a0 < 0
  · have hd : Hid (0 = r) := by rw [← h]; unfold manyOf; rw [if_neg (by omega)]; exact rfl
    clear h
    go_enter Try.func27, Try.ntmps27
    go_wp2
    go_ret
    exact ⟨ret_int hd.out, Drawn0.refl _⟩
  · by_cases h1 : a0 > 16
    · have hd : Hid (0 = r) := by rw [← h]; unfold manyOf; rw [if_neg (by omega)]; exact rfl
      clear h
      go_enter Try.func27, Try.ntmps27
      go_wp2
      go_ret
      exact ⟨ret_int hd.out, Drawn0.refl _⟩
    · obtain ⟨n, rfl⟩ := Int.eq_ofNat_of_zero_le (show 0 ≤ a0 by omega)
      have hn : n ≤ 16 := by omega
      have hd : Hid ((fac n : Int) = r) := by rw [← h]; unfold manyOf; rw [if_pos (by omega)]; exact rfl
      clear h
      have e1 : decide ((n : Int) < 0) = false := by simp
      have e2 : decide ((16 : Int) < (n : Int)) = false := by simp; omega
      go_enter Try.func27, Try.ntmps27
      go_wp2
      go_loop [3, 12] (fun m i => ∃ k : Nat, k ≤ n ∧ i = .int .i64 k ∧ m = .int .u64 (fac k : Nat)) (fun _ i => n - (intOf i).toNat)
      case atStart => exact ⟨0, Nat.zero_le _, rfl, rfl⟩
      case round =>
        obtain ⟨k, hk, rfl, rfl⟩ := hrel
        by_cases hlt : k < n
        · go_wp2
          go_round
          case measure => simp [intOf]; omega
          case rel => exact ⟨k + 1, by omega, by go_num, by rw [wrap_fac (fac_le (by omega))]⟩
        · go_wp2
          go_ret
          obtain rfl : k = n := by omega
          exact ⟨ret_int hd.out, Drawn0.refl _⟩

theorem info3 : (Try.prog.info? 3).map (fun i => (i.zero, i.size, i.bytes)) = some (some (.int .i64 0), 1, 8) := by kernel_rfl
def slices_Clone.f (l0 : List Int) : Option (List Int) := if l0.length ≤ 17592186044416 then some l0 else none
theorem nums_getD {k : IntKind} {xs : List Int} {j : Nat} (h : j < xs.length) : (nums k xs)[j]? = some (.int k (xs.getD j 0)) := by
  simp [nums, List.getElem?_eq_getElem h, List.getD_eq_getElem?_getD]
/-- A row of whole numbers of the call's own. -/
theorem R_of_own {k : IntKind} {e base : Nat} {ok : Nat → Prop} {w : World} {v : Value} {xs : List Int} (h : w.ownsRow base e 1 v xs.length (nums k xs)) (hok : ∀ b, v.ownBlock = some b → ok b) : Kd.R (Kd.int k) e w base ok v xs := by
  refine ⟨hok, nums k xs, h, by simp [nums, Kd.int, Kd.scalar], fun j p hp => ?_⟩
  have : ((nums k xs).drop (j * 1)).take 1 = [.int k p] := by
    have hj : j < xs.length := (List.getElem?_eq_some_iff.1 hp).1
    rw [Nat.mul_one]
    have e : (nums k xs)[j]? = some (.int k p) := by simp [nums, hp]
    rw [List.take_one]
    simp [List.head?_drop, e]
  exact this
theorem readsInt_of_C {k : IntKind} {w : World} {A : Option Addr} {n : Nat} {xs : List Int} (h : Kd.C (Kd.int k) w A n xs) : ReadsInt w k A n xs := by
  obtain ⟨hl, hm, hc⟩ := h
  refine ⟨hl, hm, fun hn => ?_⟩
  obtain ⟨ad, e, hcell⟩ := hc hn
  refine ⟨ad, e, fun j hj => ?_⟩
  obtain ⟨c, _, hk, hu⟩ := hcell j (xs.getD j 0) (by rw [List.getD_eq_getElem?_getD, List.getElem?_eq_getElem (by omega)]; rfl)
  have hk : c = [.int k (xs.getD j 0)] := hk
  subst hk
  have := hu 0 _ rfl
  simpa [Kd.int, Kd.scalar] using this
theorem own_of_R {k : IntKind} {e base : Nat} {ok : Nat → Prop} {w : World} {v : Value} {xs : List Int} (h : Kd.R (Kd.int k) e w base ok v xs) : w.ownsRow base e 1 v xs.length (nums k xs) := by
  obtain ⟨_, inner, ho, hl, hr⟩ := h
  have : inner = nums k xs := by
    apply List.ext_getElem?
    intro j
    by_cases hj : j < xs.length
    · have h1 : ((inner.drop (j * 1)).take 1) = [.int k xs[j]] := hr j xs[j] (List.getElem?_eq_getElem hj)
      rw [Nat.mul_one, List.take_one, List.head?_drop] at h1
      have h2 : j < inner.length := by have : inner.length = xs.length * 1 := hl; omega
      rw [List.getElem?_eq_getElem h2] at h1 ⊢
      simp at h1
      simp [nums, hj, h1]
    · have h2 : inner.length = xs.length * 1 := hl
      rw [List.getElem?_eq_none (by omega), List.getElem?_eq_none (by simp [nums]; omega)]
  rw [this] at ho
  exact ho
set_option maxHeartbeats 400000 in
theorem slices_Clone.calls (A0 : Option Addr) (c0 : Nat) (l0 : List Int) (r : List Int) (w : World) (hr0 : Kd.C (Kd.int .i64) w A0 l0.length l0) (hc0 : l0.length ≤ c0) (h : slices_Clone.f l0 = some r) :
    Calls Try.prog 45 #[.slice A0 l0.length c0] w fun e w' => ∃ v0_ : Value, e = .returned (v0_) ∧ Kd.R (Kd.int .i64) 3 w' w.heap.size (fun _ => True) v0_ r ∧ Below w.heap.size w w' := by
  unfold slices_Clone.f at h
  split at h
  case isFalse => cases h
  case isTrue hb =>
    obtain rfl := Option.some.inj h
    clear h
    rcases A0 with _ | ad
    · have h0 : l0.length = 0 := by
        rcases Nat.eq_zero_or_pos l0.length with h0 | h0
        · exact h0
        · obtain ⟨ad, _, e, _⟩ := Kd.C_get hr0 0 0 (by omega) (by omega)
          cases e
      obtain rfl := List.eq_nil_of_length_eq_zero h0
      refine (Try.slices_Clone_int_nil 0 c0 w).mono ?_
      rintro e w' ⟨rfl, rfl⟩
      exact ⟨_, rfl, Kd.R_nil _ _ _ _ _, Below.refl _ _⟩
    · have HR := Lib.hid hr0
      clear hr0
      have q22 : ∀ (w : World) (a : Option Addr) (n c n' c' : Nat), (binOp .eql 22 (.slice a n c) (.slice none n' c')).run Try.prog w = .ok (.bool a.isNone) w := fun w a n c n' c' => Lib.run_eql_slice_nil w _ _ a n c n' c' Try.underlying22
      go_enter Try.func45, Try.ntmps45
      go_wp2_with (at_builtin; refine print_append_row (w0 := w) w.heap.size rfl (.tmp 5) (.tmp 6) 22 3 .i64 8 rfl Try.underlying22 info3 (Nat.succ_pos 7) _ [] l0 (some ad) l0.length c0 rfl rfl ?qc1 ?qc2 ?qc3 ?qc4 ?qc5 ?_)
      case qc1 => exact World.ownsRow_made w #[] 0 (Nat.le_refl _) (Nat.zero_le _) rfl
      case qc2 => exact readsInt_of_C (Kd.C_below HR.out ((Below.refl _ w).alloc (Nat.le_refl _) _))
      case qc3 => exact (Below.refl _ w).alloc (Nat.le_refl _) _
      case qc4 => simp
      case qc5 => simp; omega
      intro v1 w1 hown hbel _ _
      go_wp2
      go_ret
      exact ⟨_, rfl, R_of_own (by simpa using hown) (fun _ _ => trivial), hbel⟩
/-! ### a stretch of cells written -/
def setFrom (cs : Array Value) : Nat → List Value → Array Value
  | _, [] => cs
  | o, v :: vs => setFrom (cs.setIfInBounds o v) (o + 1) vs
theorem blk_setCells {g t : Nat} : ∀ (vs : List Value) (o : Nat) (w : World) (cs : Array Value), w.heap[g]? = some (.cells cs t (0, 0)) → (w.setCells g o vs).heap[g]? = some (.cells (setFrom cs o vs) t (0, 0))
  | [], _, _, _, h => h
  | v :: vs, o, w, cs, h => blk_setCells vs (o + 1) _ _ (blk_set h o v)
theorem setFrom_list : ∀ (vs : List Value) (o : Nat) (xs : List Value), o + vs.length ≤ xs.length → setFrom xs.toArray o vs = (xs.take o ++ vs ++ xs.drop (o + vs.length)).toArray
  | [], o, xs, _ => by simp [setFrom]
  | v :: vs, o, xs, h => by
    rw [List.length_cons] at h
    have ih := setFrom_list vs (o + 1) (xs.set o v) (by rw [List.length_set]; omega)
    show setFrom (xs.toArray.setIfInBounds o v) (o + 1) vs = _
    rw [List.setIfInBounds_toArray, ih]
    congr 1
    rw [List.take_set, List.drop_set, if_pos (by omega), List.length_cons, show o + (vs.length + 1) = o + 1 + vs.length by omega]
    have : (List.take (o + 1) xs).set o v = List.take o xs ++ [v] := by
      rw [List.take_succ_eq_append_getElem (by omega), List.set_append]
      simp [List.length_take, Nat.min_eq_left (show o ≤ xs.length by omega)]
    rw [this]
    simp
theorem below_setCells {B g : Nat} {w0 : World} (hg : B ≤ g) : ∀ (vs : List Value) (o : Nat) (w : World), Below B w0 w → Below B w0 (w.setCells g o vs)
  | [], _, _, h => h
  | v :: vs, o, w, h => below_setCells hg vs (o + 1) _ (h.setCell (p := ⟨g, o, none⟩) hg v)
theorem setCells_far (g : Nat) {i : Nat} (hi : i ≠ g) : ∀ (vs : List Value) (o : Nat) (w : World), (w.setCells g o vs).heap[i]? = w.heap[i]?
  | [], _, _ => rfl
  | v :: vs, o, w => (setCells_far g hi vs (o + 1) _).trans (Below.heap_setCell w ⟨g, o, none⟩ v i hi)
theorem below_then' {B B' : Nat} {w w1 w2 : World} (h : Below B w w1) (k : Below B' w1 w2) (hB : B ≤ B' := by omega) : Below B w w2 :=
  h.trans ⟨k.os, k.tape, k.output, k.size, fun i hi => k.block i (by omega)⟩
end Go.Proofs.Ytnhhfmmbanimlaa.HK
