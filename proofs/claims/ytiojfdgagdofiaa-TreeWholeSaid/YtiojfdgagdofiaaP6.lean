/-
Texts joined: VaH, VaI, VaJ, VaK, VaL, VaM, VaN.
-/
import Derived.Test.YtiojfdgagdofiaaP5
import Derived.Test.YtiojfdgagdofiaaP3
import Derived.Test.YtiojfdgagdofiaaP4
import Derived.Test.YtiojfdgagdofiaaShelf
import Derived.Test.YtiojfdgagdofiaaP2
/-
The document's plain and through over the translation.
-/
set_option linter.unusedVariables false
set_option linter.unusedSimpArgs false
namespace Go.Proofs.Ytiojfdgagdofiaa.HP
open Go.RowKit Go.Proofs.Ytiojfdgagdofiaa.HB Go.Proofs.Ytiojfdgagdofiaa.HK Go.Proofs.YtiojfdgagdofiaaW.PrintWords Go.Proofs.YtiojfdgagdofiaaW.PrintLast Go.Proofs.YtiojfdgagdofiaaW.PrintMore
set_option maxHeartbeats 4000000 in
set_option maxRecDepth 100000 in
theorem plain_calls (f : FormP) (B : Option Addr) (nk c : Nat) (w : World) (ht : f.t.size ≤ 140737488351232) :
    Calls Try.prog 81 #[.agg #[.int .u8 f.k, .string f.t, .int .i64 f.n, .slice B nk c, .int .i64 f.at_]] w fun e w' => AloneEnds (aloneB f nk) w e w' := by
  obtain ⟨k, t, n, a⟩ := f
  dsimp only at ht
  have HT := Lib.hid ht
  have HB1 : Hid (Below w.heap.size w (w.alloc (.cells #[.int .u8 k, .string t, .int .i64 n, .slice B nk c, .int .i64 a] 40))) := (Below.refl _ w).alloc (Nat.le_refl _) _
  clear ht
  dsimp only
  rcases nk with _ | m
  · by_cases e1 : k = 1
    · have hr : Hid (aloneB ⟨k, t, n, a⟩ 0 = (emptyB t && decide (n = 0))) := if_pos e1
      subst e1
      by_cases hE : t.toList = []
      · have hE2 : t.toList.isEmpty = true := by rw [hE]; rfl
        by_cases hn : n = 0
        · have hr2 : Hid (aloneB ⟨1, t, n, a⟩ 0 = true) := by show _ = _; rw [hr.out]; unfold emptyB; rw [hE2, hn]; rfl
          have b1 : (n == 0) = true := by rw [hn]; rfl
          clear hn
          go_enter Try.func81, Try.ntmps81
          go_wp2
          go_ret
          exact ⟨by rw [hr2.out]; rfl, HB1.out⟩
        · have hr2 : Hid (aloneB ⟨1, t, n, a⟩ 0 = false) := by show _ = _; rw [hr.out, decide_eq_false hn, Bool.and_false]
          have b1 : (n == 0) = false := by simpa using hn
          clear hn
          go_enter Try.func81, Try.ntmps81
          go_wp2
          go_ret
          exact ⟨by rw [hr2.out]; rfl, HB1.out⟩
      · have hE2 : t.toList.isEmpty = false := by simpa using hE
        have hr2 : Hid (aloneB ⟨1, t, n, a⟩ 0 = false) := by show _ = _; rw [hr.out]; unfold emptyB; rw [hE2, Bool.false_and]
        go_enter Try.func81, Try.ntmps81
        go_wp2
        go_ret
        exact ⟨by rw [hr2.out]; rfl, HB1.out⟩
    · by_cases e3 : k = 3
      · have hr : Hid (aloneB ⟨k, t, n, a⟩ 0 = (decide (n = 0) && (decide (0 = 0) && decide (kindOf (codes t) = 3)))) := by
          show _ = _; unfold aloneB; rw [if_neg e1, if_pos e3]
        subst e3
        clear e1
        by_cases hn : n = 0
        · have b1 : (n == 0) = true := by rw [hn]; rfl
          have hk : 0 = 0 := rfl
          have b2 : ((0 : Int) == 0) = true := rfl
          have hr2 : Hid (aloneB ⟨3, t, n, a⟩ 0 = decide (kindOf (codes t) = 3)) := by show _ = _; rw [hr.out, decide_eq_true hn, decide_eq_true hk, Bool.true_and, Bool.true_and]
          clear hn hk
          obtain ⟨K, hK⟩ : ∃ K, K = kindOf (codes t) := ⟨_, rfl⟩
          have hc := docKind_call t HT.out
          rw [← hK] at hc hr2
          have HC := Lib.hid hc
          clear hc hK
          go_enter Try.func81, Try.ntmps81
          go_wp2_with (fail)
          refine (HC.out _).mono ?_
          rintro e w' ⟨rfl, hb⟩
          have HB2 := Lib.hid (HB1.out.trans (hb.mono (by simp)))
          clear hb
          by_cases h3 : K = 3
          · have b3 : (K == 3) = true := by rw [h3]; rfl
            have hr3 : Hid (aloneB ⟨3, t, n, a⟩ 0 = true) := by show _ = _; rw [hr2.out, decide_eq_true h3]
            clear h3
            go_wp2
            go_ret
            exact ⟨by rw [hr3.out]; rfl, HB2.out⟩
          · have b3 : (K == 3) = false := by simpa using h3
            have hr3 : Hid (aloneB ⟨3, t, n, a⟩ 0 = false) := by show _ = _; rw [hr2.out, decide_eq_false h3]
            clear h3
            go_wp2
            go_ret
            exact ⟨by rw [hr3.out]; rfl, HB2.out⟩
        · have hr2 : Hid (aloneB ⟨3, t, n, a⟩ 0 = false) := by show _ = _; rw [hr.out, decide_eq_false hn, Bool.false_and]
          have b1 : (n == 0) = false := by simpa using hn
          clear hn
          go_enter Try.func81, Try.ntmps81
          go_wp2
          go_ret
          exact ⟨by rw [hr2.out]; rfl, HB1.out⟩
      · by_cases e4 : k = 4
        · have hr : Hid (aloneB ⟨k, t, n, a⟩ 0 = (emptyB t && decide (0 = 0))) := by
            show _ = _; unfold aloneB; rw [if_neg e1, if_neg e3, if_pos e4]
          subst e4
          clear e1 e3
          by_cases hE : t.toList = []
          · have hE2 : t.toList.isEmpty = true := by rw [hE]; rfl
            have hk : 0 = 0 := rfl
            have b2 : ((0 : Int) == 0) = true := rfl
            have hr2 : Hid (aloneB ⟨4, t, n, a⟩ 0 = true) := by show _ = _; rw [hr.out]; unfold emptyB; rw [hE2, decide_eq_true hk]; rfl
            clear hk
            go_enter Try.func81, Try.ntmps81
            go_wp2
            go_ret
            exact ⟨by rw [hr2.out]; rfl, HB1.out⟩
          · have hE2 : t.toList.isEmpty = false := by simpa using hE
            have hr2 : Hid (aloneB ⟨4, t, n, a⟩ 0 = false) := by show _ = _; rw [hr.out]; unfold emptyB; rw [hE2, Bool.false_and]
            go_enter Try.func81, Try.ntmps81
            go_wp2
            go_ret
            exact ⟨by rw [hr2.out]; rfl, HB1.out⟩
        · have hr2 : Hid (aloneB ⟨k, t, n, a⟩ 0 = false) := by
            show _ = _; unfold aloneB; rw [if_neg e1, if_neg e3, if_neg e4]
          have b1 : (k == 1) = false := by simpa using e1
          have b3 : (k == 3) = false := by simpa using e3
          have b4 : (k == 4) = false := by simpa using e4
          clear e1 e3 e4
          go_enter Try.func81, Try.ntmps81
          go_wp2
          go_ret
          exact ⟨by rw [hr2.out]; rfl, HB1.out⟩
  · by_cases e1 : k = 1
    · have hr : Hid (aloneB ⟨k, t, n, a⟩ (m + 1) = (emptyB t && decide (n = 0))) := if_pos e1
      subst e1
      by_cases hE : t.toList = []
      · have hE2 : t.toList.isEmpty = true := by rw [hE]; rfl
        by_cases hn : n = 0
        · have hr2 : Hid (aloneB ⟨1, t, n, a⟩ (m + 1) = true) := by show _ = _; rw [hr.out]; unfold emptyB; rw [hE2, hn]; rfl
          have b1 : (n == 0) = true := by rw [hn]; rfl
          clear hn
          go_enter Try.func81, Try.ntmps81
          go_wp2
          go_ret
          exact ⟨by rw [hr2.out]; rfl, HB1.out⟩
        · have hr2 : Hid (aloneB ⟨1, t, n, a⟩ (m + 1) = false) := by show _ = _; rw [hr.out, decide_eq_false hn, Bool.and_false]
          have b1 : (n == 0) = false := by simpa using hn
          clear hn
          go_enter Try.func81, Try.ntmps81
          go_wp2
          go_ret
          exact ⟨by rw [hr2.out]; rfl, HB1.out⟩
      · have hE2 : t.toList.isEmpty = false := by simpa using hE
        have hr2 : Hid (aloneB ⟨1, t, n, a⟩ (m + 1) = false) := by show _ = _; rw [hr.out]; unfold emptyB; rw [hE2, Bool.false_and]
        go_enter Try.func81, Try.ntmps81
        go_wp2
        go_ret
        exact ⟨by rw [hr2.out]; rfl, HB1.out⟩
    · by_cases e3 : k = 3
      · have hr : Hid (aloneB ⟨k, t, n, a⟩ (m + 1) = (decide (n = 0) && (decide ((m + 1) = 0) && decide (kindOf (codes t) = 3)))) := by
          show _ = _; unfold aloneB; rw [if_neg e1, if_pos e3]
        subst e3
        clear e1
        by_cases hn : n = 0
        · have b1 : (n == 0) = true := by rw [hn]; rfl
          have hk : ¬ (m + 1) = 0 := Nat.succ_ne_zero _
          have b2 : ((((m + 1) : Nat) : Int) == 0) = false := by rw [beq_eq_false_iff_ne]; omega
          have hr2 : Hid (aloneB ⟨3, t, n, a⟩ (m + 1) = false) := by show _ = _; rw [hr.out, decide_eq_false hk, Bool.false_and, Bool.and_false]
          clear hn hk
          go_enter Try.func81, Try.ntmps81
          go_wp2
          go_ret
          exact ⟨by rw [hr2.out]; rfl, HB1.out⟩
        · have hr2 : Hid (aloneB ⟨3, t, n, a⟩ (m + 1) = false) := by show _ = _; rw [hr.out, decide_eq_false hn, Bool.false_and]
          have b1 : (n == 0) = false := by simpa using hn
          clear hn
          go_enter Try.func81, Try.ntmps81
          go_wp2
          go_ret
          exact ⟨by rw [hr2.out]; rfl, HB1.out⟩
      · by_cases e4 : k = 4
        · have hr : Hid (aloneB ⟨k, t, n, a⟩ (m + 1) = (emptyB t && decide ((m + 1) = 0))) := by
            show _ = _; unfold aloneB; rw [if_neg e1, if_neg e3, if_pos e4]
          subst e4
          clear e1 e3
          by_cases hE : t.toList = []
          · have hE2 : t.toList.isEmpty = true := by rw [hE]; rfl
            have hk : ¬ (m + 1) = 0 := Nat.succ_ne_zero _
            have b2 : ((((m + 1) : Nat) : Int) == 0) = false := by rw [beq_eq_false_iff_ne]; omega
            have hr2 : Hid (aloneB ⟨4, t, n, a⟩ (m + 1) = false) := by show _ = _; rw [hr.out, decide_eq_false hk, Bool.and_false]
            clear hk
            go_enter Try.func81, Try.ntmps81
            go_wp2
            go_ret
            exact ⟨by rw [hr2.out]; rfl, HB1.out⟩
          · have hE2 : t.toList.isEmpty = false := by simpa using hE
            have hr2 : Hid (aloneB ⟨4, t, n, a⟩ (m + 1) = false) := by show _ = _; rw [hr.out]; unfold emptyB; rw [hE2, Bool.false_and]
            go_enter Try.func81, Try.ntmps81
            go_wp2
            go_ret
            exact ⟨by rw [hr2.out]; rfl, HB1.out⟩
        · have hr2 : Hid (aloneB ⟨k, t, n, a⟩ (m + 1) = false) := by
            show _ = _; unfold aloneB; rw [if_neg e1, if_neg e3, if_neg e4]
          have b1 : (k == 1) = false := by simpa using e1
          have b3 : (k == 3) = false := by simpa using e3
          have b4 : (k == 4) = false := by simpa using e4
          clear e1 e3 e4
          go_enter Try.func81, Try.ntmps81
          go_wp2
          go_ret
          exact ⟨by rw [hr2.out]; rfl, HB1.out⟩
end Go.Proofs.Ytiojfdgagdofiaa.HP
/-
The document's through over the translation: how far places lead.
-/
set_option linter.unusedVariables false
set_option linter.unusedSimpArgs false
namespace Go.Proofs.Ytiojfdgagdofiaa.HP
open Go.RowKit Go.Proofs.Ytiojfdgagdofiaa.HB Go.Proofs.Ytiojfdgagdofiaa.HK Go.Proofs.YtiojfdgagdofiaaW.PrintWords Go.Proofs.YtiojfdgagdofiaaW.PrintLast Go.Proofs.YtiojfdgagdofiaaW.PrintMore
/-- How the call ends. -/
def ThroughEnds (r : Option Nat) (e : Ending) : Prop :=
  match r with
  | some y => e = .returned (.int .i64 (y : Int))
  | none => e = .returned (.int .i64 (-1))
theorem throughEnds_no {r : Option Nat} (h : r = none) : ThroughEnds r (.returned (.int .i64 (-1))) := by
  subst h; rfl
set_option maxHeartbeats 4000000 in
set_option maxRecDepth 100000 in
theorem through_calls (w : World) (A : Option Addr) (c : Nat) (fs : List FormP) (ks : Nat → List Int) (hF : FRow w A fs ks) (hN : fs.length ≤ 1000000) (hk : ∀ j, (ks j).length ≤ 140737488351232) :
    ∀ (f : Nat) (B : Option Addr) (d : Nat) (l : List Int) (m : Nat), IRow w B l → l.length ≤ 140737488351232 → m ≤ fs.length → fs.length ≤ m + f →
    Calls Try.prog 82 #[.slice A fs.length c, .slice B l.length d, .int .i64 (m : Int)] w fun e w' => ThroughEnds (goL fs.length (subF fs.length ks f) l m) e ∧ w' = w := by
  have HF := Lib.hid hF
  have HK := Lib.hid hk
  clear hF hk
  intro f
  induction f with
  | zero =>
    intro B d l m hB hl hm hf
    have HB := Lib.hid hB
    clear hB
    go_enter Try.func82, Try.ntmps82
    go_wp2_with (fail)
    go_loop [2, 7] (fun x i => ∃ (j y : Nat), x = .int .i64 (y : Int) ∧ i = .int .i64 (j : Int) ∧ j ≤ l.length ∧ Hid (WalkRel fs.length (subF fs.length ks 0) l m j y)) (fun _ i => l.length - (intOf i).toNat)
    case atStart => exact ⟨0, m, rfl, rfl, Nat.zero_le _, by rw [List.drop_zero], Nat.le_refl _, hm⟩
    case round =>
      obtain ⟨j, y, rfl, rfl, hj, hR⟩ := hrel
      by_cases hlt : j < l.length
      · obtain ⟨g, o, hA, _, c0⟩ := HB.out j hlt
        subst hA
        have hone := Lib.hid (hR.out.one hlt)
        have hy1 := hR.out.2.1
        have q1 : (j : Int) < (l.length : Int) := by omega
        have q0 : (0 : Int) ≤ (j : Int) := by omega
        have qd : decide ((j : Int) < (l.length : Int)) = true := decide_eq_true q1
        obtain ⟨p, hp⟩ : ∃ p, p = l.getD j 0 := ⟨_, rfl⟩
        rw [← hp] at c0 hone
        have hno : Hid (goL fs.length (subF fs.length ks 0) l m = none) := by
          show _ = _
          rw [hone.out, if_neg (by rintro ⟨_, h⟩; omega)]
        clear hp
        by_cases e : p = (y : Int)
        · have b1 : (p != (y : Int)) = false := by simpa using e
          have b2 : decide ((fs.length : Int) ≤ (y : Int)) = true := decide_eq_true (by omega)
          have b3 : decide ((y : Int) ≥ (fs.length : Int)) = true := decide_eq_true (by omega)
          clear e
          go_wp2
          exact bodyPost_ret (v := .int .i64 (-1)) (by simp [results, Try.results82, go_sem]) rfl ⟨throughEnds_no hno.out, rfl⟩
        · have b1 : (p != (y : Int)) = true := by simpa using e
          have b2 : decide ((fs.length : Int) ≤ (y : Int)) = true := decide_eq_true (by omega)
          have b3 : decide ((y : Int) ≥ (fs.length : Int)) = true := decide_eq_true (by omega)
          clear e
          go_wp2
          exact bodyPost_ret (v := .int .i64 (-1)) (by simp [results, Try.results82, go_sem]) rfl ⟨throughEnds_no hno.out, rfl⟩
      · obtain rfl : j = l.length := by omega
        have qd : decide ((l.length : Int) < (l.length : Int)) = false := decide_eq_false (by omega)
        have hyes : Hid (goL fs.length (subF fs.length ks 0) l m = some y) := by
          show _ = _
          rw [hR.out.1, List.drop_length]; rfl
        clear hR
        go_wp2
        exact bodyPost_ret (v := .int .i64 (y : Int)) (by simp [results, Try.results82, go_sem]) rfl ⟨by rw [hyes.out]; rfl, rfl⟩
  | succ f ih =>
    intro B d l m hB hl hm hf
    have HB := Lib.hid hB
    have IH := Lib.hid ih
    clear hB ih
    go_enter Try.func82, Try.ntmps82
    go_wp2_with (fail)
    go_loop [2, 7] (fun x i => ∃ (j y : Nat), x = .int .i64 (y : Int) ∧ i = .int .i64 (j : Int) ∧ j ≤ l.length ∧ Hid (WalkRel fs.length (subF fs.length ks (f + 1)) l m j y)) (fun _ i => l.length - (intOf i).toNat)
    case atStart => exact ⟨0, m, rfl, rfl, Nat.zero_le _, by rw [List.drop_zero], Nat.le_refl _, hm⟩
    case round =>
      obtain ⟨j, y, rfl, rfl, hj, hR⟩ := hrel
      by_cases hlt : j < l.length
      · obtain ⟨g, o, hA, _, c0⟩ := HB.out j hlt
        subst hA
        have hone := Lib.hid (hR.out.one hlt)
        have hy1 := hR.out.2.1
        have hy2 := hR.out.2.2
        have q1 : (j : Int) < (l.length : Int) := by omega
        have q0 : (0 : Int) ≤ (j : Int) := by omega
        have qd : decide ((j : Int) < (l.length : Int)) = true := decide_eq_true q1
        obtain ⟨p, hp⟩ : ∃ p, p = l.getD j 0 := ⟨_, rfl⟩
        rw [← hp] at c0 hone
        clear hp
        by_cases e : p = (y : Int)
        · by_cases e2 : y < fs.length
          · subst e
            have b1 : ((y : Int) != (y : Int)) = false := by simp
            have b2 : decide ((fs.length : Int) ≤ (y : Int)) = false := decide_eq_false (by omega)
            have b3 : decide ((y : Int) ≥ (fs.length : Int)) = false := decide_eq_false (by omega)
            have hyi : (y : Int) < (fs.length : Int) := by omega
            have hy0 : (0 : Int) ≤ (y : Int) := by omega
            obtain ⟨F, hFy⟩ : ∃ F, fs[y]? = some F := ⟨_, List.getElem?_eq_getElem e2⟩
            obtain ⟨g2, o2, B2, c2, hA2, _, _, _, _, d3, _, _, hI2⟩ := HF.out y F hFy
            have HI2 := Lib.hid hI2
            have hw1 : IntKind.i64.wrap ((y : Int) + 1) = ((y + 1 : Nat) : Int) := by rw [IntWalk.i64_in _ (by omega)]; omega
            have hw2 : IntKind.i64.wrap ((j : Int) + 1) = ((j + 1 : Nat) : Int) := by rw [IntWalk.i64_in _ (by omega)]; omega
            have hon : Hid (goL fs.length (subF fs.length ks (f + 1)) l m = (match goL fs.length (subF fs.length ks f) (ks y) (y + 1) with | none => none | some x => goL fs.length (subF fs.length ks (f + 1)) (l.drop (j + 1)) x)) := by
              show _ = _
              rw [hone.out, if_pos ⟨rfl, e2⟩]; rfl
            have hgt : Hid (∀ x, goL fs.length (subF fs.length ks f) (ks y) (y + 1) = some x → y + 1 ≤ x ∧ x ≤ fs.length) := fun x hx => ⟨goL_ge (fun a b hab => subF_gt f a b hab) _ _ _ hx, goL_le (fun a b ha hab => subF_le f a b ha hab) _ _ _ (by omega) hx⟩
            subst hA2
            clear hFy hI2 hone hR b1
            go_wp2_with (fail)
            refine (IH.out B2 c2 (ks y) (y + 1) HI2.out (HK.out y) (by omega) (by omega)).mono ?_
            rintro e w' ⟨hE, rfl⟩
            cases hg : goL fs.length (subF fs.length ks f) (ks y) (y + 1) with
            | none =>
              have hno : Hid (goL fs.length (subF fs.length ks (f + 1)) l m = none) := by show _ = _; rw [hon.out, hg]
              rw [hg] at hE
              replace hE : e = .returned (.int .i64 (-1)) := hE
              subst hE
              clear hg
              go_wp2
              exact bodyPost_ret (v := .int .i64 (-1)) (by simp [results, Try.results82, go_sem]) rfl ⟨throughEnds_no hno.out, rfl⟩
            | some x =>
              have hno : Hid (goL fs.length (subF fs.length ks (f + 1)) l m = goL fs.length (subF fs.length ks (f + 1)) (l.drop (j + 1)) x) := by show _ = _; rw [hon.out, hg]
              have hx := hgt.out x hg
              rw [hg] at hE
              replace hE : e = .returned (.int .i64 (x : Int)) := hE
              subst hE
              clear hg
              go_wp2
              go_round
              case measure => simp [intOf]; omega
              case rel => exact ⟨j + 1, x, rfl, by first | rfl | (rw [hw2]) | simp, by omega, hno.out, by omega, by omega⟩
          · have hno : Hid (goL fs.length (subF fs.length ks (f + 1)) l m = none) := by
              show _ = _
              rw [hone.out, if_neg (by rintro ⟨_, h⟩; omega)]
            have b1 : (p != (y : Int)) = false := by simpa using e
            have b2 : decide ((fs.length : Int) ≤ (y : Int)) = true := decide_eq_true (by omega)
            have b3 : decide ((y : Int) ≥ (fs.length : Int)) = true := decide_eq_true (by omega)
            clear e
            go_wp2
            exact bodyPost_ret (v := .int .i64 (-1)) (by simp [results, Try.results82, go_sem]) rfl ⟨throughEnds_no hno.out, rfl⟩
        · have hno : Hid (goL fs.length (subF fs.length ks (f + 1)) l m = none) := by
            show _ = _
            rw [hone.out, if_neg (by rintro ⟨h, _⟩; exact e h)]
          have b1 : (p != (y : Int)) = true := by simpa using e
          clear e
          by_cases e2 : y < fs.length
          · have b2 : decide ((fs.length : Int) ≤ (y : Int)) = false := decide_eq_false (by omega)
            have b3 : decide ((y : Int) ≥ (fs.length : Int)) = false := decide_eq_false (by omega)
            go_wp2
            exact bodyPost_ret (v := .int .i64 (-1)) (by simp [results, Try.results82, go_sem]) rfl ⟨throughEnds_no hno.out, rfl⟩
          · have b2 : decide ((fs.length : Int) ≤ (y : Int)) = true := decide_eq_true (by omega)
            have b3 : decide ((y : Int) ≥ (fs.length : Int)) = true := decide_eq_true (by omega)
            go_wp2
            exact bodyPost_ret (v := .int .i64 (-1)) (by simp [results, Try.results82, go_sem]) rfl ⟨throughEnds_no hno.out, rfl⟩
      · obtain rfl : j = l.length := by omega
        have qd : decide ((l.length : Int) < (l.length : Int)) = false := decide_eq_false (by omega)
        have hyes : Hid (goL fs.length (subF fs.length ks (f + 1)) l m = some y) := by
          show _ = _
          rw [hR.out.1, List.drop_length]; rfl
        clear hR
        go_wp2
        exact bodyPost_ret (v := .int .i64 (y : Int)) (by simp [results, Try.results82, go_sem]) rfl ⟨by rw [hyes.out]; rfl, rfl⟩
end Go.Proofs.Ytiojfdgagdofiaa.HP
/-
The document's Depth and Right over the translation.
-/
set_option linter.unusedVariables false
set_option linter.unusedSimpArgs false
namespace Go.Proofs.Ytiojfdgagdofiaa.HP
open Go.RowKit Go.Proofs.Ytiojfdgagdofiaa.HB Go.Proofs.Ytiojfdgagdofiaa.HK Go.Proofs.YtiojfdgagdofiaaW.PrintWords Go.Proofs.YtiojfdgagdofiaaW.PrintLast Go.Proofs.YtiojfdgagdofiaaW.PrintMore
/-- How deep, so far. -/
def DS (w W : World) (N : Nat) (dd : Nat → Nat) : Prop := W.heap[w.heap.size]? = some (.cells (dArr N dd) 3 (0, 0)) ∧ Below w.heap.size w W
theorem DS.congr {w W : World} {N : Nat} {dd dd' : Nat → Nat} (h : DS w W N dd) (hd : ∀ j, j < N → dd j = dd' j) : DS w W N dd' := by
  refine ⟨?_, h.2⟩
  rw [← dArr_congr N dd dd' hd]
  exact h.1
theorem DS.put {w W : World} {N i x : Nat} {dd : Nat → Nat} (h : DS w W N dd) : DS w (W.setCell ⟨w.heap.size, i, none⟩ (.int .i64 (x : Int))) N (upd dd i x) := by
  refine ⟨?_, h.2.setCell (p := ⟨w.heap.size, i, none⟩) (Nat.le_refl _) _⟩
  rw [← dArr_set]
  exact blk_set h.1 i _
theorem DS.get {w W : World} {N j : Nat} {dd : Nat → Nat} (h : DS w W N dd) (hj : j < N) : W.cell? ⟨w.heap.size, j, none⟩ = some (.int .i64 ((dd j : Nat) : Int)) := (blk_cell h.1 j).trans (dArr_get N dd j hj)
theorem DS.drewN {w W : World} {N : Nat} {dd : Nat → Nat} (h : DS w W N dd) (q : Nat) : DS w (W.drewN q) N dd := ⟨h.1, pw_below_drewN h.2 q⟩
def foldD (dm : Nat → Nat) (l : List Nat) : Nat := l.foldl (fun a k => max a (dm k)) 0
theorem foldD_snoc (dm : Nat → Nat) (l : List Nat) (k : Nat) : foldD dm (l ++ [k]) = max (foldD dm l) (dm k) := by unfold foldD; rw [List.foldl_append]; rfl
theorem deepA_op {N : Nat} {op : Nat → Bool} {ks : Nat → List Int} {m i : Nat} (hi : i + m + 1 = N) (ho : op i = true) : ∀ j, j < N → upd (deepA N op ks m) i (min (foldD (deepA N op ks m) (kidsB N i (ks i)) + 1) 13) j = deepA N op ks (m + 1) j := by
  intro j hj
  rw [deepA]
  by_cases e : j = i
  · subst e
    rw [upd_same, if_pos (by omega), if_pos ho]
    rfl
  · rw [upd_other _ _ e, if_neg (by omega)]
theorem deepA_no {N : Nat} {op : Nat → Bool} {ks : Nat → List Int} {m i : Nat} (hi : i + m + 1 = N) (ho : op i = false) : ∀ j, j < N → deepA N op ks m j = deepA N op ks (m + 1) j := by
  intro j hj
  rw [deepA]
  by_cases e : j = i
  · subst e
    rw [if_pos (by omega), ho]
    exact deepA_zero N op ks m j (by omega)
  · rw [if_neg (by omega)]
set_option maxHeartbeats 16000000 in
set_option maxRecDepth 100000 in
theorem refDepth_calls (w : World) (A B : Option Addr) (c d : Nat) (fs : List FormP) (ks : Nat → List Int) (top : List Int) (hF : FRow w A fs ks) (hT : IRow w B top) (hN : fs.length ≤ 1000000) (hk : ∀ j, (ks j).length ≤ 140737488351232) (ht : top.length ≤ 140737488351232) :
    Calls Try.prog 83 #[.slice A fs.length c, .slice B top.length d] w fun e W' => e = .returned (.int .i64 ((depthP fs.length (opOf fs) ks top : Nat) : Int)) ∧ Below w.heap.size w W' := by
  have hmk := fun W => make_full fs.length hN W
  have HF := Lib.hid hF
  have HT := Lib.hid hT
  have HK := Lib.hid hk
  clear hF hT hk
  have HST : Hid (DS w (w.alloc (.cells (dArr fs.length (fun _ => 0)) 3)) fs.length (deepA fs.length (opOf fs) ks 0)) := ⟨blk_new w _, (Below.refl _ w).alloc (Nat.le_refl _) _⟩
  have hw0 : IntKind.i64.wrap ((fs.length : Int) - 1) = (fs.length : Int) - 1 := IntWalk.i64_in _ (by omega)
  go_enter Try.func83, Try.ntmps83
  go_wp2_with (fail)
  clear hmk
  go_loopw [6] (fun x wr => ∃ m : Nat, x = .int .i64 ((fs.length : Int) - 1 - (m : Int)) ∧ m ≤ fs.length ∧ Hid (DS w wr fs.length (deepA fs.length (opOf fs) ks m))) (fun x _ => (intOf x + 1).toNat)
  case atStart => exact ⟨0, by simp, Nat.zero_le _, HST.out⟩
  case round =>
    clear HST hw0
    obtain ⟨m, rfl, hm, hD⟩ := hrel
    by_cases hlt : m < fs.length
    · obtain ⟨i, hi⟩ : ∃ i : Nat, i + m + 1 = fs.length := ⟨fs.length - 1 - m, by omega⟩
      have hie : (fs.length : Int) - 1 - (m : Int) = (i : Int) := by omega
      rw [hie]
      have hnext : Hid ((i : Int) - 1 = (fs.length : Int) - 1 - ((m + 1 : Nat) : Int)) := by show _ = _; omega
      have hiN : i < fs.length := by omega
      obtain ⟨F, hFi⟩ : ∃ F, fs[i]? = some F := ⟨_, List.getElem?_eq_getElem hiN⟩
      have HFR := Lib.hid (HF.out.below hD.out.2)
      obtain ⟨g2, o2, C, e2, hA2, _, d0, _, _, d3, _, _, hI⟩ := HFR.out i F hFi
      subst hA2
      have z1 : (i : Int) < (fs.length : Int) := by omega
      have z0 : (0 : Int) ≤ (i : Int) := by omega
      have q0 : decide ((i : Int) ≥ 0) = true := decide_eq_true z0
      have q0' : decide ((0 : Int) ≤ (i : Int)) = true := decide_eq_true z0
      have hwm : IntKind.i64.wrap ((i : Int) - 1) = (i : Int) - 1 := IntWalk.i64_in _ (by omega)
      have hop : opOf fs i = decide (F.k = 1) := by unfold opOf; rw [List.getD_eq_getElem?_getD, hFi]; rfl
      have HOP := Lib.hid hop
      have HI2 := Lib.hid hi
      have HI := Lib.hid hI
      have HFI := Lib.hid hFi
      clear hi hie hop hI hFi
      by_cases h1 : F.k = 1
      · have b1 : (F.k != 1) = false := by rw [h1]; rfl
        have HO1 : Hid (opOf fs i = true) := by show _ = _; rw [HOP.out, decide_eq_true h1]
        obtain ⟨dm, hdm⟩ : ∃ dm, dm = deepA fs.length (opOf fs) ks m := ⟨_, rfl⟩
        have H13 : Hid (∀ j, dm j ≤ 13) := fun j => by rw [hdm]; exact deepA_13 _ _ _ _ _
        have hz : dm i = 0 := by rw [hdm]; exact deepA_zero _ _ _ m i (by have := HI2.out; omega)
        have HD0 : Hid (DS w wr fs.length (upd dm i 0)) := by
          refine hD.out.congr (fun j _ => ?_)
          rw [← hdm]
          unfold upd
          split
          · rename_i e; rw [e, hz]
          · rfl
        have HDM := Lib.hid hdm
        clear hD hdm hz h1 d3
        go_wp2_with (fail)
        go_loopw [7] (fun x wq => ∃ (j cur : Nat), x = .int .i64 (j : Int) ∧ j ≤ (ks i).length ∧ cur ≤ 13 ∧ Hid (cur = foldD dm (kidsB fs.length i ((ks i).take j))) ∧ Hid (DS w wq fs.length (upd dm i cur))) (fun x _ => (ks i).length - (intOf x).toNat)
        case atStart => exact ⟨0, 0, rfl, Nat.zero_le _, by omega, rfl, HD0.out⟩
        case round =>
          obtain ⟨j, cur, rfl, hj, hc13, hcur, hD⟩ := hrel
          obtain ⟨gq, oq, Cq, eq, hAq, _, _, _, _, q3, _, _, hIq⟩ := (HF.out.below hD.out.2) i F HFI.out
          injection hAq with hAq
          injection hAq with x1 x2
          subst x1 x2
          have HIQ := Lib.hid hIq
          have HDS := Lib.hid hD.out
          have y2 : wr.cell? ⟨w.heap.size, i, none⟩ = some (.int .i64 (cur : Int)) := by rw [hD.out.get hiN, upd_same]
          have hlk := HK.out i
          clear hIq hD
          by_cases hlt : j < (ks i).length
          · obtain ⟨gc, oc, hAc, _, c0⟩ := HIQ.out j hlt
            subst hAc
            obtain ⟨p, hp⟩ : ∃ p, p = (ks i).getD j 0 := ⟨_, rfl⟩
            rw [← hp] at c0
            have qd : decide ((j : Int) < ((ks i).length : Int)) = true := decide_eq_true (by omega)
            have u1 : (j : Int) < ((ks i).length : Int) := by omega
            have u0 : (0 : Int) ≤ (j : Int) := by omega
            have hw : IntKind.i64.wrap ((j : Int) + 1) = ((j + 1 : Nat) : Int) := by rw [IntWalk.i64_in _ (by omega)]; omega
            have hsn := Lib.hid (kidsB_snoc fs.length i (ks i) j hlt)
            rw [← hp] at hsn
            by_cases hv : (i : Int) < p ∧ p < (fs.length : Int)
            · obtain ⟨k, rfl⟩ : ∃ k : Nat, p = (k : Int) := ⟨p.toNat, by omega⟩
              have hik : i < k := by omega
              have hkN : k < fs.length := by omega
              have a1 : decide ((i : Int) < (k : Int)) = true := decide_eq_true (by omega)
              have a1' : decide ((k : Int) > (i : Int)) = true := decide_eq_true (by omega)
              have a2 : decide ((k : Int) < (fs.length : Int)) = true := decide_eq_true (by omega)
              have hnx : Hid (kidsB fs.length i ((ks i).take (j + 1)) = kidsB fs.length i ((ks i).take j) ++ [k]) := by show _ = _; rw [hsn.out, if_pos hv, Int.toNat_natCast]
              have y1 : wr.cell? ⟨w.heap.size, k, none⟩ = some (.int .i64 ((dm k : Nat) : Int)) := by rw [HDS.out.get hkN, upd_other _ _ (by omega)]
              have h13k := H13.out k
              obtain ⟨dk, hdk⟩ : ∃ dk, dk = dm k := ⟨_, rfl⟩
              rw [← hdk] at y1 h13k
              have HDK := Lib.hid hdk
              have k0 : (0 : Int) ≤ (k : Int) := by omega
              have kN : (k : Int) < (fs.length : Int) := by omega
              have hfold : Hid (foldD dm (kidsB fs.length i ((ks i).take (j + 1))) = max cur dk) := by show _ = _; rw [hnx.out, foldD_snoc, ← hcur.out, ← HDK.out]
              clear hv hp hsn hdk
              by_cases hc : cur < dk
              · have b3 : decide ((cur : Int) < (dk : Int)) = true := decide_eq_true (by omega)
                have b3' : decide ((dk : Int) > (cur : Int)) = true := decide_eq_true (by omega)
                go_wp2_with (fail)
                go_quiet (fail)
                have HDQ := Lib.hid (HDS.out.drewN nq)
                have y3 : (wr.drewN nq).cell? ⟨w.heap.size, k, none⟩ = some (.int .i64 ((dk : Nat) : Int)) := y1
                have y4 : (wr.drewN nq).cell? ⟨w.heap.size, i, none⟩ = some (.int .i64 ((cur : Nat) : Int)) := y2
                have y5 : (wr.drewN nq).frozen? ⟨w.heap.size, i, none⟩ = false := blk_frozen HDQ.out.1 i
                have hput : Hid (DS w ((wr.drewN nq).setCell ⟨w.heap.size, i, none⟩ (.int .i64 (dk : Int))) fs.length (upd dm i dk)) := by
                  have h := HDQ.out.put (i := i) (x := dk)
                  refine h.congr (fun j _ => ?_)
                  unfold upd
                  split <;> rfl
                go_wp2
                go_roundw
                case measure => simp [intOf]; omega
                case rel => exact ⟨j + 1, dk, by first | rfl | (rw [hw]) | simp, by omega, h13k, by show _ = _; rw [hfold.out]; omega, hput.out⟩
              · have b3 : decide ((cur : Int) < (dk : Int)) = false := decide_eq_false (by omega)
                have b3' : decide ((dk : Int) > (cur : Int)) = false := decide_eq_false (by omega)
                go_wp2_with (fail)
                go_quiet (fail)
                have HDQ := Lib.hid (HDS.out.drewN nq)
                go_wp2
                go_roundw
                case measure => simp [intOf]; omega
                case rel => exact ⟨j + 1, cur, by first | rfl | (rw [hw]) | simp, by omega, hc13, by show _ = _; rw [hfold.out]; omega, HDQ.out⟩
            · have hnx : Hid (kidsB fs.length i ((ks i).take (j + 1)) = kidsB fs.length i ((ks i).take j)) := by show _ = _; rw [hsn.out, if_neg hv, List.append_nil]
              clear hp hsn
              by_cases h1 : (i : Int) < p
              · have a1 : decide ((i : Int) < p) = true := decide_eq_true (by omega)
                have a1' : decide (p > (i : Int)) = true := decide_eq_true (by omega)
                have a2 : decide (p < (fs.length : Int)) = false := decide_eq_false (by omega)
                clear hv h1
                go_wp2_with (fail)
                go_quiet (fail)
                have HDQ := Lib.hid (HDS.out.drewN nq)
                go_wp2
                go_roundw
                case measure => simp [intOf]; omega
                case rel => exact ⟨j + 1, cur, by first | rfl | (rw [hw]) | simp, by omega, hc13, by show _ = _; rw [hnx.out]; exact hcur.out, HDQ.out⟩
              · have a1 : decide ((i : Int) < p) = false := decide_eq_false (by omega)
                have a1' : decide (p > (i : Int)) = false := decide_eq_false (by omega)
                clear hv h1
                go_wp2_with (fail)
                go_quiet (fail)
                have HDQ := Lib.hid (HDS.out.drewN nq)
                go_wp2
                go_roundw
                case measure => simp [intOf]; omega
                case rel => exact ⟨j + 1, cur, by first | rfl | (rw [hw]) | simp, by omega, hc13, by show _ = _; rw [hnx.out]; exact hcur.out, HDQ.out⟩
          · obtain rfl : j = (ks i).length := by omega
            have qd : decide (((ks i).length : Int) < ((ks i).length : Int)) = false := decide_eq_false (by omega)
            have hall : Hid (cur = foldD dm (kidsB fs.length i (ks i))) := by show _ = _; have h := hcur.out; rw [List.take_length] at h; exact h
            have f2 : wr.frozen? ⟨w.heap.size, i, none⟩ = false := blk_frozen HDS.out.1 i
            have hfin : Hid (∀ W x, x = min (cur + 1) 13 → DS w W fs.length (upd dm i x) → DS w W fs.length (deepA fs.length (opOf fs) ks (m + 1))) := fun W x hx h => by
              refine h.congr (fun j hjN => ?_)
              rw [← deepA_op HI2.out HO1.out j hjN, ← HDM.out, ← hall.out, hx]
            clear hcur
            by_cases hc : cur ≤ 12
            · have b3 : decide ((cur : Int) ≤ 12) = true := decide_eq_true (by omega)
              have hwc : IntKind.i64.wrap ((cur : Int) + 1) = ((cur + 1 : Nat) : Int) := by rw [IntWalk.i64_in _ (by omega)]; omega
              have hput : Hid (DS w (wr.setCell ⟨w.heap.size, i, none⟩ (.int .i64 ((cur : Int) + 1))) fs.length (deepA fs.length (opOf fs) ks (m + 1))) := by
                refine hfin.out _ (cur + 1) (by omega) ?_
                have h := HDS.out.put (i := i) (x := cur + 1)
                refine h.congr (fun j _ => ?_)
                unfold upd
                split <;> rfl
              clear hlt
              go_wp2
              go_roundw
              case measure => simp [intOf]
              case rel => exact ⟨m + 1, by rw [← hnext.out], by omega, hput.out⟩
            · have b3 : decide ((cur : Int) ≤ 12) = false := decide_eq_false (by omega)
              have hput : Hid (DS w wr fs.length (deepA fs.length (opOf fs) ks (m + 1))) := hfin.out _ cur (by omega) HDS.out
              clear hlt
              go_wp2
              go_roundw
              case measure => simp [intOf]
              case rel => exact ⟨m + 1, by rw [← hnext.out], by omega, hput.out⟩
      · have b1 : (F.k != 1) = true := by simpa using h1
        have HD1 : Hid (DS w wr fs.length (deepA fs.length (opOf fs) ks (m + 1))) := hD.out.congr (deepA_no HI2.out (by rw [HOP.out, decide_eq_false h1]))
        clear h1
        go_wp2
        go_roundw
        case measure => simp [intOf]
        case rel => exact ⟨m + 1, by rw [← hnext.out], by omega, HD1.out⟩
    · obtain rfl : m = fs.length := by omega
      have hm1 : ((fs.length : Int) - 1 - (fs.length : Int)) = -1 := by omega
      rw [hm1]
      have q0 : decide ((-1 : Int) ≥ 0) = false := rfl
      have HX := Lib.hid (fun j (hj : j < fs.length) => hD.out.get (j := j) hj)
      have HB := Lib.hid hD.out.2
      have HI2 := Lib.hid (HT.out.below hD.out.2)
      obtain ⟨dd, hdd⟩ : ∃ dd, dd = deepA fs.length (opOf fs) ks fs.length := ⟨_, rfl⟩
      rw [← hdd] at HX
      have HDP : Hid (depthP fs.length (opOf fs) ks top = maxTop fs.length dd top) := by rw [hdd]; exact rfl
      have H13 : Hid (∀ j, dd j ≤ 13) := fun j => by rw [hdd]; exact deepA_13 _ _ _ _ _
      clear hdd hD hm1 hlt hm
      go_wp2_with (fail)
      go_loop [9, 10] (fun s i => ∃ k : Nat, k ≤ top.length ∧ i = .int .i64 (k : Int) ∧ s = .int .i64 ((maxTop fs.length dd (top.take k) : Nat) : Int)) (fun _ i => top.length - (intOf i).toNat)
      case atStart => exact ⟨0, Nat.zero_le _, rfl, rfl⟩
      case round =>
        obtain ⟨k, hk, rfl, rfl⟩ := hrel
        by_cases hlt : k < top.length
        · obtain ⟨g, o, hA, _, c0⟩ := HI2.out k hlt
          subst hA
          have hs := maxTop_snoc fs.length dd top k hlt
          obtain ⟨p, hp⟩ : ∃ p, p = top.getD k 0 := ⟨_, rfl⟩
          rw [← hp] at c0 hs
          obtain ⟨M, hM0⟩ : ∃ M, M = maxTop fs.length dd (top.take k) := ⟨_, rfl⟩
          rw [← hM0] at hs ⊢
          have HS := Lib.hid hs
          have q1 : (k : Int) < (top.length : Int) := by omega
          have q0 : (0 : Int) ≤ (k : Int) := by omega
          have qd : decide ((k : Int) < (top.length : Int)) = true := decide_eq_true q1
          have hw : IntKind.i64.wrap ((k : Int) + 1) = ((k + 1 : Nat) : Int) := by rw [IntWalk.i64_in _ (by omega)]; omega
          clear hp hs hM0
          by_cases h1 : 0 ≤ p
          · have a1 : decide (0 ≤ p) = true := decide_eq_true h1
            have a1' : decide (p ≥ 0) = true := decide_eq_true h1
            by_cases h2 : p < (fs.length : Int)
            · have a2 : decide (p < (fs.length : Int)) = true := decide_eq_true h2
              obtain ⟨n, rfl⟩ : ∃ n : Nat, p = (n : Int) := ⟨p.toNat, by omega⟩
              have hnN : n < fs.length := by omega
              have y0 := HX.out n (by omega)
              have HS2 : Hid (maxTop fs.length dd (top.take (k + 1)) = max M (dd n)) := by
                have := HS.out
                rw [if_pos ⟨h1, h2⟩, Int.toNat_natCast] at this
                exact this
              obtain ⟨v, hv⟩ : ∃ v, v = dd n := ⟨_, rfl⟩
              rw [← hv] at y0 HS2
              clear hv
              by_cases hc : M < v
              · have b3 : decide ((M : Int) < (v : Int)) = true := decide_eq_true (by omega)
                have b3' : decide ((v : Int) > (M : Int)) = true := decide_eq_true (by omega)
                have HS3 : Hid (maxTop fs.length dd (top.take (k + 1)) = v) := by show _ = _; rw [HS2.out]; omega
                go_wp2
                go_round
                case measure => simp [intOf]; omega
                case rel => exact ⟨k + 1, by omega, by first | rfl | (rw [hw]) | simp, by rw [HS3.out]⟩
              · have b3 : decide ((M : Int) < (v : Int)) = false := decide_eq_false (by omega)
                have b3' : decide ((v : Int) > (M : Int)) = false := decide_eq_false (by omega)
                have HS3 : Hid (maxTop fs.length dd (top.take (k + 1)) = M) := by show _ = _; rw [HS2.out]; omega
                go_wp2
                go_round
                case measure => simp [intOf]; omega
                case rel => exact ⟨k + 1, by omega, by first | rfl | (rw [hw]) | simp, by rw [HS3.out]⟩
            · have a2 : decide (p < (fs.length : Int)) = false := decide_eq_false h2
              have HS2 : Hid (maxTop fs.length dd (top.take (k + 1)) = M) := by
                have := HS.out
                rw [if_neg (by rintro ⟨_, h⟩; exact h2 h)] at this
                exact this
              go_wp2
              go_round
              case measure => simp [intOf]; omega
              case rel => exact ⟨k + 1, by omega, by first | rfl | (rw [hw]) | simp, by rw [HS2.out]⟩
          · have a1 : decide (0 ≤ p) = false := decide_eq_false h1
            have a1' : decide (p ≥ 0) = false := decide_eq_false h1
            have HS2 : Hid (maxTop fs.length dd (top.take (k + 1)) = M) := by
              have := HS.out
              rw [if_neg (by rintro ⟨h, _⟩; exact h1 h)] at this
              exact this
            go_wp2
            go_round
            case measure => simp [intOf]; omega
            case rel => exact ⟨k + 1, by omega, by first | rfl | (rw [hw]) | simp, by rw [HS2.out]⟩
        · obtain rfl : k = top.length := by omega
          have qd : decide ((top.length : Int) < (top.length : Int)) = false := decide_eq_false (by omega)
          rw [List.take_length, ← HDP.out]
          clear hlt
          go_wp2
          go_ret
          exact ⟨rfl, HB.out⟩
end Go.Proofs.Ytiojfdgagdofiaa.HP
/-
The document's Right over the translation.
-/
set_option linter.unusedVariables false
set_option linter.unusedSimpArgs false
namespace Go.Proofs.Ytiojfdgagdofiaa.HP
open Go.RowKit Go.Proofs.Ytiojfdgagdofiaa.HB Go.Proofs.Ytiojfdgagdofiaa.HK Go.Proofs.YtiojfdgagdofiaaW.PrintWords Go.Proofs.YtiojfdgagdofiaaW.PrintLast Go.Proofs.YtiojfdgagdofiaaW.PrintMore
set_option maxHeartbeats 8000000 in
set_option maxRecDepth 100000 in
theorem refRight_calls (w : World) (A B : Option Addr) (c d : Nat) (fs : List FormP) (ks : Nat → List Int) (top : List Int) (hF : FRow w A fs ks) (hT : IRow w B top) (hN : fs.length ≤ 140737488351232) (hk : ∀ j, (ks j).length ≤ 140737488351232) (ht : top.length ≤ 140737488351232)
    (htx : ∀ f ∈ fs, f.t.size ≤ 140737488351232) :
    Calls Try.prog 64 #[.slice A fs.length c, .slice B top.length d] w fun e W' => RightEnds (rightB fs ks top) w e W' := by
  have HF := Lib.hid hF
  have HT := Lib.hid hT
  have HK := Lib.hid hk
  have HX := Lib.hid htx
  clear hF hT hk htx
  by_cases h400 : fs.length ≤ 400
  · have q1 : decide ((fs.length : Int) > 400) = false := decide_eq_false (by omega)
    have q2 : decide ((400 : Int) < (fs.length : Int)) = false := decide_eq_false (by omega)
    have HR : Hid (rightB fs ks top = (allB fs ks && (decide (goP fs.length ks top = some fs.length) && decide (depthP fs.length (opOf fs) ks top ≤ 12)))) := by
      show _ = _
      unfold rightB
      rw [decide_eq_true h400, Bool.true_and]
    go_enter Try.func64, Try.ntmps64
    go_wp2_with (fail)
    go_loopw [5] (fun i wr => ∃ j : Nat, i = .int .i64 (j : Int) ∧ j ≤ fs.length ∧ Hid (∀ k, k < j → oneB fs ks k = true) ∧ Hid (Below w.heap.size w wr)) (fun i _ => fs.length - (intOf i).toNat)
    case atStart => exact ⟨0, rfl, Nat.zero_le _, fun k h => by omega, Below.refl _ _⟩
    case round =>
      obtain ⟨j, rfl, hj, hA, hB⟩ := hrel
      by_cases hlt : j < fs.length
      · obtain ⟨T, hT⟩ : ∃ T, fs[j]? = some T := ⟨_, List.getElem?_eq_getElem hlt⟩
        obtain ⟨g, o, C, e, hAd, hg, d0, d1, d2, d3, d4, _, _⟩ := (HF.out.below hB.out) j T hT
        subst hAd
        have hone : Hid (oneB fs ks j = aloneB T (ks j).length) := by
          show _ = _
          unfold oneB
          rw [List.getD_eq_getElem?_getD, hT]; rfl
        have htt := HX.out T (List.mem_of_getElem? hT)
        have HTT := Lib.hid htt
        have qd : decide ((j : Int) < (fs.length : Int)) = true := decide_eq_true (by omega)
        have z1 : (j : Int) < (fs.length : Int) := by omega
        have z0 : (0 : Int) ≤ (j : Int) := by omega
        have hw : IntKind.i64.wrap ((j : Int) + 1) = ((j + 1 : Nat) : Int) := by rw [IntWalk.i64_in _ (by omega)]; omega
        have hb1 : Hid (Below w.heap.size w wr) := hB
        clear hT htt
        go_wp2_with (fail)
        refine (plain_calls T C (ks j).length e _ HTT.out).mono ?_
        rintro e' w' ⟨he, hbe⟩
        have hb2 : Hid (Below w.heap.size w w') := below_then hb1.out hb1.out.size hbe
        rw [← hone.out] at he
        clear hbe
        by_cases hok : oneB fs ks j = true
        · rw [hok] at he
          subst he
          have hA2 : Hid (∀ k, k < j + 1 → oneB fs ks k = true) := by
            intro k hk
            by_cases e1 : k = j
            · subst e1; exact hok
            · exact hA.out k (by omega)
          clear hok
          go_wp2
          go_roundw
          case measure => simp [intOf]; omega
          case rel => exact ⟨j + 1, by first | rfl | (rw [hw]) | simp, by omega, hA2, hb2⟩
        · have hok' : oneB fs ks j = false := by simpa using hok
          rw [hok'] at he
          subst he
          have hno : Hid (rightB fs ks top = false) := by
            show _ = _
            rw [HR.out]
            have : allB fs ks = false := by
              unfold allB
              rw [List.all_eq_false]
              exact ⟨j, List.mem_range.2 hlt, hok⟩
            rw [this, Bool.false_and]
          clear hok hok'
          go_wp2
          go_ret
          exact ⟨by rw [hno.out]; rfl, hb2.out⟩
      · obtain rfl : j = fs.length := by omega
        have qd : decide ((fs.length : Int) < (fs.length : Int)) = false := decide_eq_false (by omega)
        have hall : Hid (allB fs ks = true) := by
          show _ = _
          unfold allB
          rw [List.all_eq_true]
          intro k hk
          exact hA.out k (List.mem_range.1 hk)
        have HFr := Lib.hid (HF.out.below hB.out)
        have HTr := Lib.hid (HT.out.below hB.out)
        have hn6 : fs.length ≤ 1000000 := by omega
        clear hA
        go_wp2_with (fail)
        refine (through_calls wr A c fs ks HFr.out hn6 HK.out fs.length B d top 0 HTr.out ht (Nat.zero_le _) (by omega)).mono ?_
        rintro e' w' ⟨he, rfl⟩
        have hgp : Hid (goL fs.length (subF fs.length ks fs.length) top 0 = goP fs.length ks top) := rfl
        rw [hgp.out] at he
        clear hgp
        cases hg : goP fs.length ks top with
        | none =>
          rw [hg] at he
          replace he : e' = .returned (.int .i64 (-1)) := he
          subst he
          have b1 : ((-1 : Int) == (fs.length : Int)) = false := by rw [beq_eq_false_iff_ne]; omega
          have hno : Hid (rightB fs ks top = false) := by
            show _ = _
            rw [HR.out, hg, decide_eq_false (by simp), Bool.false_and, Bool.and_false]
          clear hg
          go_wp2
          go_ret
          exact ⟨by rw [hno.out]; rfl, hB.out⟩
        | some y =>
          rw [hg] at he
          replace he : e' = .returned (.int .i64 (y : Int)) := he
          subst he
          by_cases hy : y = fs.length
          · have b1 : ((y : Int) == (fs.length : Int)) = true := by rw [hy]; simp
            obtain ⟨D, hD⟩ : ∃ D, D = depthP fs.length (opOf fs) ks top := ⟨_, rfl⟩
            have hR2 : Hid (rightB fs ks top = decide (D ≤ 12)) := by
              show _ = _
              rw [HR.out, hall.out, hg, hy, decide_eq_true rfl, Bool.true_and, Bool.true_and, hD]
            have hdc := refDepth_calls w' A B c d fs ks top HFr.out HTr.out hn6 HK.out ht
            rw [← hD] at hdc
            have HDC := Lib.hid hdc
            subst hy
            clear hg hdc hD
            go_wp2_with (fail)
            refine HDC.out.mono ?_
            rintro e' w'' ⟨rfl, hbd⟩
            have hb3 : Hid (Below w.heap.size w w'') := below_then hB.out hB.out.size hbd
            clear hbd
            by_cases hd : D ≤ 12
            · have q3 : decide ((D : Int) ≤ 12) = true := decide_eq_true (by omega)
              have hR3 : Hid (rightB fs ks top = true) := by show _ = _; rw [hR2.out, decide_eq_true hd]
              clear hd
              go_wp2
              go_ret
              exact ⟨by rw [hR3.out]; rfl, hb3.out⟩
            · have q3 : decide ((D : Int) ≤ 12) = false := decide_eq_false (by omega)
              have hR3 : Hid (rightB fs ks top = false) := by show _ = _; rw [hR2.out, decide_eq_false hd]
              clear hd
              go_wp2
              go_ret
              exact ⟨by rw [hR3.out]; rfl, hb3.out⟩
          · have b1 : ((y : Int) == (fs.length : Int)) = false := by rw [beq_eq_false_iff_ne]; omega
            have hno : Hid (rightB fs ks top = false) := by
              show _ = _
              rw [HR.out, hg, decide_eq_false (by simpa using hy), Bool.false_and, Bool.and_false]
            clear hg hy
            go_wp2
            go_ret
            exact ⟨by rw [hno.out]; rfl, hB.out⟩
  · have q1 : decide ((fs.length : Int) > 400) = true := decide_eq_true (by omega)
    have q2 : decide ((400 : Int) < (fs.length : Int)) = true := decide_eq_true (by omega)
    have HR : Hid (rightB fs ks top = false) := by
      show _ = _
      unfold rightB
      rw [decide_eq_false h400, Bool.false_and]
    go_enter Try.func64, Try.ntmps64
    go_wp2
    go_ret
    exact ⟨by rw [HR.out]; rfl, Below.refl _ _⟩
end Go.Proofs.Ytiojfdgagdofiaa.HP
/-
slices.Clone of whole numbers and tree.shifted over the translation; forms that are put together.
-/
set_option linter.unusedVariables false
set_option linter.unusedSimpArgs false
namespace Go.Proofs.Ytiojfdgagdofiaa.HP
open Go.RowKit Go.Proofs.Ytiojfdgagdofiaa.HB Go.Proofs.Ytiojfdgagdofiaa.HK Go.Proofs.YtiojfdgagdofiaaW.PrintWords Go.Proofs.YtiojfdgagdofiaaW.PrintLast Go.Proofs.YtiojfdgagdofiaaW.PrintMore
/-- A row of its own is handed back. -/
def RowEnds (w : World) (l : List Int) (e : Ending) (w' : World) : Prop := ∃ v, e = .returned v ∧ w'.ownsRow w.heap.size 3 1 v l.length (nums .i64 l) ∧ Below w.heap.size w w'
theorem clone_calls (w : World) (B : Option Addr) (d : Nat) (l : List Int) (hT : IRow w B l) (hl : l.length ≤ 17592186043904) : Calls Try.prog 63 #[.slice B l.length d] w fun e w' => RowEnds w l e w' := by
  cases B with
  | none =>
    have h0 : l = [] := by
      cases l with
      | nil => rfl
      | cons x r => obtain ⟨g, o, e, _⟩ := hT 0 (by simp); cases e
    subst h0
    refine (Try.slices_Clone_int_nil _ d w).mono ?_
    rintro e w' ⟨rfl, rfl⟩
    exact ⟨_, rfl, own_nil _ _ _ _, Below.refl _ _⟩
  | some a =>
    by_cases h0 : l = []
    · subst h0
      refine (Try.slices_Clone_int_zero a d w).mono ?_
      rintro e w' ⟨v, rfl, ho, _, hb⟩
      exact ⟨v, rfl, ho, hb⟩
    · have hp : 0 < l.length := List.length_pos_iff.2 h0
      obtain ⟨g, o, e, _, _⟩ := hT 0 hp
      injection e with e
      subst e
      refine (Try.slices_Clone_int g o l.length d l w (Nat.le_refl _) (by omega) (fun j hj => ?_)).mono ?_
      · obtain ⟨g', o', e, _, hc⟩ := hT j hj
        injection e with e
        injection e with e1 e2
        subst e1 e2
        exact hc
      · rintro e w' ⟨v, rfl, ho, _, hb⟩
        rw [List.take_length] at ho
        exact ⟨v, rfl, ho, hb⟩
def shiftW (n : Nat) (x : Int) : Int := IntKind.i64.wrap (x + (n : Int))
/-- The first j are shifted. -/
def shL (n : Nat) (l : List Int) (j : Nat) : List Int := (l.take j).map (shiftW n) ++ l.drop j
theorem shL_len (n : Nat) (l : List Int) (j : Nat) : (shL n l j).length = l.length := by unfold shL; simp; omega
theorem shL_zero (n : Nat) (l : List Int) : shL n l 0 = l := by unfold shL; simp
theorem shL_all (n : Nat) (l : List Int) : shL n l l.length = l.map (shiftW n) := by unfold shL; simp
theorem shL_get (n : Nat) (l : List Int) (j : Nat) (hj : j < l.length) : (shL n l j).getD j 0 = l.getD j 0 := by
  unfold shL
  rw [List.getD_eq_getElem?_getD, List.getD_eq_getElem?_getD, List.getElem?_append_right (by simp; omega), List.getElem?_drop]
  simp
  congr 2
  omega
theorem shL_set (n : Nat) (l : List Int) (j : Nat) (hj : j < l.length) : (shL n l j).set j (shiftW n (l.getD j 0)) = shL n l (j + 1) := by
  unfold shL
  rw [List.set_append_right _ _ (by simp; omega), List.take_succ_eq_append_getElem hj, List.map_append, List.drop_eq_getElem_cons hj, List.append_assoc]
  congr 1
  have : j - (List.map (shiftW n) (List.take j l)).length = 0 := by simp; omega
  rw [this, List.getD_eq_getElem?_getD, List.getElem?_eq_getElem hj]
  rfl
set_option maxHeartbeats 8000000 in
set_option maxRecDepth 100000 in
theorem shifted_calls (w : World) (B : Option Addr) (d : Nat) (l : List Int) (hT : IRow w B l) (hl : l.length ≤ 17592186043904) (n : Nat) : Calls Try.prog 62 #[.slice B l.length d, .int .i64 (n : Int)] w fun e w' => RowEnds w (l.map (shiftW n)) e w' := by
  have HC := Lib.hid (clone_calls w B d l hT hl)
  clear hT
  go_enter Try.func62, Try.ntmps62
  go_wp2_with (fail)
  refine HC.out.mono ?_
  rintro e w1 ⟨v, rfl, ho, hb⟩
  obtain ⟨A1, c1, rfl⟩ := own_slice ho
  have HO := Lib.hid ho
  have HB := Lib.hid hb
  clear ho hb
  go_wp2_with (fail)
  go_loopw [11] (fun x wr => ∃ j : Nat, x = .int .i64 (j : Int) ∧ j ≤ l.length ∧ Hid (wr.ownsRow w.heap.size 3 1 (.slice A1 l.length c1) l.length (nums .i64 (shL n l j)) ∧ Below w.heap.size w wr)) (fun x _ => l.length - (intOf x).toNat)
  case atStart => exact ⟨0, rfl, Nat.zero_le _, by rw [shL_zero]; exact HO.out, HB.out⟩
  case round =>
    obtain ⟨j, rfl, hj, hR⟩ := hrel
    by_cases hlt : j < l.length
    · obtain ⟨ho, hb⟩ := hR.out
      obtain ⟨g, cap, hf, _, _⟩ := ho.form (by omega)
      injection hf with hf1 _ hf3
      subst hf1 hf3
      have c0 : wr.cell? ⟨g, j, none⟩ = some (.int .i64 (l.getD j 0)) := by
        rw [ho.cellAt j (by omega), ← shL_get n l j hlt]
        have : j < (shL n l j).length := by rw [shL_len]; exact hlt
        simp [nums, List.getD_eq_getElem?_getD, List.getElem?_eq_getElem this]
      have f0 : wr.frozen? ⟨g, j, none⟩ = false := ho.frozenAt _
      have hst := own_store ho (j : Int) (shiftW n (l.getD j 0))
      rw [Int.toNat_natCast, shL_set n l j hlt] at hst
      obtain ⟨p, hp⟩ : ∃ p, p = l.getD j 0 := ⟨_, rfl⟩
      rw [← hp] at c0 hst
      have hsw : IntKind.i64.wrap (p + (n : Int)) = shiftW n p := rfl
      have hnew : Hid ((wr.setCell ⟨g, j, none⟩ (.int .i64 (shiftW n p))).ownsRow w.heap.size 3 1 (.slice (some ⟨g, 0, none⟩) l.length c1) l.length (nums .i64 (shL n l (j + 1))) ∧ Below w.heap.size w (wr.setCell ⟨g, j, none⟩ (.int .i64 (shiftW n p)))) :=
        ⟨hst.1, hb.setCell (p := ⟨g, j, none⟩) (own_base ho g rfl) _⟩
      have q1 : (j : Int) < (l.length : Int) := by omega
      have q0 : (0 : Int) ≤ (j : Int) := by omega
      have qd : decide ((j : Int) < (l.length : Int)) = true := decide_eq_true q1
      have hw : IntKind.i64.wrap ((j : Int) + 1) = ((j + 1 : Nat) : Int) := by rw [IntWalk.i64_in _ (by omega)]; omega
      clear ho hb hst hp hR
      go_wp2
      go_roundw
      case measure => simp [intOf]; omega
      case rel => exact ⟨j + 1, by first | rfl | (rw [hw]) | simp, by omega, hnew⟩
    · obtain rfl : j = l.length := by omega
      have qd : decide ((l.length : Int) < (l.length : Int)) = false := decide_eq_false (by omega)
      have hfin : Hid (wr.ownsRow w.heap.size 3 1 (.slice A1 l.length c1) (l.map (shiftW n)).length (nums .i64 (l.map (shiftW n))) ∧ Below w.heap.size w wr) := by
        have h := hR.out
        rw [shL_all] at h
        rw [List.length_map]
        exact h
      clear hR hlt
      go_wp2
      go_ret
      exact ⟨_, rfl, hfin.out.1, hfin.out.2⟩
end Go.Proofs.Ytiojfdgagdofiaa.HP
/-
What is right stands in bounds; both lists, one behind the other: plain.
-/
set_option linter.unusedVariables false
set_option linter.unusedSimpArgs false
namespace Go.Proofs.Ytiojfdgagdofiaa.HP
open Go.RowKit Go.Proofs.Ytiojfdgagdofiaa.HB Go.Proofs.Ytiojfdgagdofiaa.HK Go.Proofs.YtiojfdgagdofiaaW.PrintWords Go.Proofs.YtiojfdgagdofiaaW.PrintLast Go.Proofs.YtiojfdgagdofiaaW.PrintMore
/-- A row of places is in bounds, and short. -/
def RowOk (N : Nat) (l : List Int) : Prop := l.length ≤ N ∧ ∀ p ∈ l, 0 ≤ p ∧ p < (N : Int)
theorem goL_row {N : Nat} {g : Nat → Option Nat} (hg : ∀ m x, g m = some x → m < x) : ∀ (l : List Int) (m x : Nat), goL N g l m = some x → m + l.length ≤ x ∧ ∀ p ∈ l, 0 ≤ p ∧ p < (N : Int)
  | [], m, x, h => by
    have : m = x := by simpa [goL] using h
    exact ⟨by simp; omega, fun p hp => by cases hp⟩
  | p :: r, m, x, h => by
    rw [goL] at h
    split at h
    · rename_i hp
      cases he : g m with
      | none => rw [he] at h; cases h
      | some y =>
        rw [he] at h
        have h1 := hg m y he
        obtain ⟨h2, h3⟩ := goL_row hg r y x h
        refine ⟨by rw [List.length_cons]; omega, fun q hq => ?_⟩
        rcases List.mem_cons.1 hq with rfl | hq
        · omega
        · exact h3 q hq
    · cases h
/-- All forms between have rows in bounds. -/
theorem goL_all {N : Nat} {g : Nat → Option Nat} {P : Nat → Prop} (hg : ∀ m x, m < N → g m = some x → ∀ j, m ≤ j → j < x → P j) : ∀ (l : List Int) (m x : Nat), goL N g l m = some x → ∀ j, m ≤ j → j < x → P j
  | [], m, x, h, j, h1, h2 => by
    have : m = x := by simpa [goL] using h
    omega
  | p :: r, m, x, h, j, h1, h2 => by
    rw [goL] at h
    split at h
    · rename_i hp
      cases he : g m with
      | none => rw [he] at h; cases h
      | some y =>
        rw [he] at h
        by_cases hj : j < y
        · exact hg m y hp.2 he j h1 hj
        · exact goL_all hg r y x h j (by omega) h2
    · cases h
theorem subF_all {N : Nat} {ks : Nat → List Int} : ∀ (f m x : Nat), m < N → subF N ks f m = some x → ∀ j, m ≤ j → j < x → RowOk N (ks j)
  | 0, m, x, _, h => by cases h
  | f + 1, m, x, hm, h => by
    intro j h1 h2
    have hx := subF_le (f + 1) m x hm h
    rw [subF] at h
    by_cases hj : j = m
    · subst hj
      obtain ⟨h3, h4⟩ := goL_row (fun a b hab => subF_gt f a b hab) _ _ _ h
      exact ⟨by omega, h4⟩
    · exact goL_all (P := fun j => RowOk N (ks j)) (fun a b ha hab => subF_all f a b ha hab) _ _ _ h j (by omega) h2
theorem right_rows {fs : List FormP} {ks : Nat → List Int} {top : List Int} (h : rightB fs ks top = true) : fs.length ≤ 400 ∧ RowOk fs.length top ∧ ∀ j, j < fs.length → RowOk fs.length (ks j) := by
  unfold rightB at h
  simp only [Bool.and_eq_true, decide_eq_true_eq] at h
  obtain ⟨h4, _, hg, _⟩ := h
  unfold goP at hg
  obtain ⟨h1, h2⟩ := goL_row (fun a b hab => subF_gt fs.length a b hab) _ _ _ hg
  refine ⟨h4, ⟨by omega, h2⟩, fun j hj => ?_⟩
  exact goL_all (P := fun j => RowOk fs.length (ks j)) (fun a b ha hab => subF_all fs.length a b ha hab) _ _ _ hg j (Nat.zero_le _) hj
theorem shiftW_ok {N : Nat} {l : List Int} (h : RowOk N l) (hN : N ≤ 400) (n : Nat) (hn : n ≤ 400) : l.map (shiftW n) = l.map (fun x => x + (n : Int)) := by
  apply List.map_congr_left
  intro p hp
  have := h.2 p hp
  exact IntWalk.i64_in _ (by omega)
theorem shiftW_zero {N : Nat} {l : List Int} (h : RowOk N l) (hN : N ≤ 400) : l.map (shiftW 0) = l := by
  rw [shiftW_ok h hN 0 (by omega)]
  simp
/-- Kids of both lists, one behind the other. -/
def bothK (n : Nat) (ks hs : Nat → List Int) (j : Nat) : List Int := if j < n then ks j else (hs (j - n)).map (fun x => x + (n : Int))
def bothT (n : Nat) (top also : List Int) : List Int := top ++ also.map (fun x => x + (n : Int))
/-- Both lists, or why not. -/
def bothP (fs : List FormP) (ks : Nat → List Int) (top : List Int) (gs : List FormP) (hs : Nat → List Int) (also : List Int) : Except Int (List FormP × (Nat → List Int) × List Int) :=
  if rightB fs ks top = true ∧ rightB gs hs also = true then (if fs.length + gs.length ≤ 400 then .ok (fs ++ gs, bothK fs.length ks hs, bothT fs.length top also) else .error 4) else .error 3
def BothEnds (w : World) (r : Except Int (List FormP × (Nat → List Int) × List Int)) (e : Ending) (w' : World) : Prop :=
  match r with
  | .ok (fs, ks, top) => ∃ A c B d, e = .returned (.tuple #[.slice A fs.length c, .slice B top.length d, .int .i64 0]) ∧ FRow w' A fs ks ∧ IRow w' B top ∧ Below w.heap.size w w'
  | .error why => e = .returned (.tuple #[.slice none 0 0, .slice none 0 0, .int .i64 why]) ∧ Below w.heap.size w w'
/-- One row of kids more, with its form. -/
theorem RowsN.moreRow {w : World} {base n : Nat} {vs : Nat → Value} {ls : Nat → List Int} (h : RowsN w base n vs ls) {v : Value} {l : List Int} (hv : w.ownsRow base 3 1 v l.length (nums .i64 l)) (hne : ∀ i, i < n → v.ownBlock = none ∨ v.ownBlock ≠ (vs i).ownBlock) : RowsN w base (n + 1) (upd vs n v) (upd ls n l) := by
  refine ⟨fun i hi => ?_, fun i j hi hj hij => ?_⟩
  · by_cases e : i = n
    · subst e; rw [upd_same, upd_same]; exact hv
    · rw [upd_other _ _ e, upd_other _ _ e]; exact h.1 i (by omega)
  · by_cases e : i = n
    · subst e
      have e2 : j ≠ i := fun h => hij h.symm
      rw [upd_same, upd_other _ _ e2]
      exact hne j (by omega)
    · rw [upd_other _ _ e]
      by_cases e2 : j = n
      · subst e2
        rw [upd_same]
        rcases hne i (by omega) with h0 | h0
        · cases hk : (vs i).ownBlock with
          | none => exact .inl rfl
          | some k => right; rw [h0]; intro hh; cases hh
        · exact .inr (fun hh => h0 hh.symm)
      · rw [upd_other _ _ e2]; exact h.2 i j (by omega) (by omega) hij
/-- Forms that are put together, each with a row of its own. -/
structure FSt (n₀ : Nat) (w : World) (out : List FormP) (fv : Value) (vs : Nat → Value) (ls : Nat → List Int) : Prop where
  row : w.ownsRow n₀ 40 5 fv out.length (fcells out 2 vs)
  kids : RowsN w n₀ (out.length + 2) vs ls
theorem FSt.below {n₀ : Nat} {w w1 : World} {out : List FormP} {fv : Value} {vs : Nat → Value} {ls : Nat → List Int} (h : FSt n₀ w out fv vs ls) (hb : Below w.heap.size w w1) : FSt n₀ w1 out fv vs ls :=
  ⟨own_move h.row (fun k hk => hb.block k (own_lt h.row k hk)), h.kids.below hb⟩
theorem FSt.add {n₀ : Nat} {w : World} {out : List FormP} {fv : Value} {vs : Nat → Value} {ls : Nat → List Int} (h : FSt n₀ w out fv vs ls) {v : Value} {l : List Int} (hv : w.ownsRow n₀ 3 1 v l.length (nums .i64 l)) (hne : ∀ i, i < out.length + 2 → v.ownBlock = none ∨ v.ownBlock ≠ (vs i).ownBlock)
    {w3 : World} {fv3 : Value} {f : FormP} (hown : w3.ownsRow n₀ 40 5 fv3 (out.length + 1) (fcells out 2 vs ++ fcell f v)) (hg : w.grownBy w3 fv.ownBlock) :
    FSt n₀ w3 (out ++ [f]) fv3 (upd vs (out.length + 2) v) (upd ls (out.length + 2) l) := by
  refine ⟨?_, ?_⟩
  · rw [fcells_snoc, List.length_append, List.length_singleton, show 2 + out.length = out.length + 2 by omega, upd_same, fcells_congr out 2 (upd vs (out.length + 2) v) vs (fun j h1 h2 => upd_other _ _ (by omega))]
    exact hown
  · rw [List.length_append, List.length_singleton, show out.length + 1 + 2 = out.length + 2 + 1 by omega]
    exact (h.kids.grown h.row (by decide) hg).moreRow (own_other hv hg (own_type_ne hv h.row (by decide))) hne
end Go.Proofs.Ytiojfdgagdofiaa.HP
/-
The document's Both over the translation.
-/
set_option linter.unusedVariables false
set_option linter.unusedSimpArgs false
namespace Go.Proofs.Ytiojfdgagdofiaa.HP
open Go.RowKit Go.Proofs.Ytiojfdgagdofiaa.HB Go.Proofs.Ytiojfdgagdofiaa.HK Go.Proofs.YtiojfdgagdofiaaW.PrintWords Go.Proofs.YtiojfdgagdofiaaW.PrintLast Go.Proofs.YtiojfdgagdofiaaW.PrintMore
/-- So many forms have been put together. -/
def BoRel (w wr : World) (al : List FormP) (kk : Nat → List Int) (n : Nat) (vo : Value) : Prop :=
  ∃ vs ls, FSt w.heap.size wr (al.take n) vo vs ls ∧ (∀ i, i < n → ls (i + 2) = kk i) ∧ Below w.heap.size w wr
/-- A row put in the place of another. -/
theorem RowsN.setRow {w : World} {base n i : Nat} {vs : Nat → Value} {ls : Nat → List Int} (h : RowsN w base n vs ls) {v : Value} {l : List Int} (hv : w.ownsRow base 3 1 v l.length (nums .i64 l)) (hne : ∀ j, j < n → v.ownBlock = none ∨ v.ownBlock ≠ (vs j).ownBlock) : RowsN w base n (upd vs i v) (upd ls i l) := by
  refine ⟨fun a ha => ?_, fun a b ha hb hab => ?_⟩
  · by_cases e : a = i
    · subst e; rw [upd_same, upd_same]; exact hv
    · rw [upd_other _ _ e, upd_other _ _ e]; exact h.1 a ha
  · by_cases e : a = i
    · subst e
      have e2 : b ≠ a := fun h => hab h.symm
      rw [upd_same, upd_other _ _ e2]
      exact hne b hb
    · rw [upd_other _ _ e]
      by_cases e2 : b = i
      · subst e2
        rw [upd_same]
        rcases hne a ha with h0 | h0
        · cases hk : (vs a).ownBlock with
          | none => exact .inl rfl
          | some k => right; rw [h0]; intro hh; cases hh
        · exact .inr (fun hh => h0 hh.symm)
      · rw [upd_other _ _ e2]; exact h.2 a b ha hb hab
/-- The same, and the places stand in row 0. -/
def BoRelT (w wr : World) (al : List FormP) (kk : Nat → List Int) (n : Nat) (vo vp : Value) (tp : List Int) : Prop :=
  ∃ vs ls, FSt w.heap.size wr (al.take n) vo vs ls ∧ (∀ i, i < n → ls (i + 2) = kk i) ∧ Below w.heap.size w wr ∧ vs 0 = vp ∧ ls 0 = tp
theorem BoRel.places {w wr w1 : World} {al : List FormP} {kk : Nat → List Int} {n : Nat} {vo vp : Value} {tp : List Int} (h : BoRel w wr al kk n vo) (hb : Below wr.heap.size wr w1) (hv : w1.ownsRow w.heap.size 3 1 vp tp.length (nums .i64 tp)) (hf : vp.ownBlock = none ∨ ∃ b, vp.ownBlock = some b ∧ wr.heap.size ≤ b) : BoRelT w w1 al kk n vo vp tp := by
  obtain ⟨vs, ls, hS, hK, hW⟩ := h
  have hS1 := hS.below hb
  refine ⟨upd vs 0 vp, upd ls 0 tp, ⟨?_, hS1.kids.setRow hv (fun j hj => ?_)⟩, fun i hi => by rw [upd_other _ _ (by omega)]; exact hK i hi, below_then hW hW.size hb, upd_same _ _ _, upd_same _ _ _⟩
  · rw [fcells_congr _ 2 (upd vs 0 vp) vs (fun j h1 h2 => upd_other _ _ (by omega))]
    exact hS1.row
  · rcases hf with h | ⟨b, h, hle⟩
    · exact .inl h
    · right
      intro e
      rw [h] at e
      have := own_lt (hS.kids.1 j hj) b e.symm
      omega
theorem BoRelT.push {w wr w1 : World} {al : List FormP} {kk : Nat → List Int} {n : Nat} {vo vp v1 : Value} {tp : List Int} {x : Int} (h : BoRelT w wr al kk n vo vp tp) (hown : w1.ownsRow w.heap.size 3 1 v1 (tp.length + 1) (nums .i64 tp ++ [.int .i64 x])) (hg : wr.grownBy w1 vp.ownBlock)
    (hat : v1.ownBlock = vp.ownBlock ∨ ∃ b, v1.ownBlock = some b ∧ wr.heap.size ≤ b) (hb : Below w.heap.size w w1) : BoRelT w w1 al kk n vo v1 (tp ++ [x]) := by
  obtain ⟨vs, ls, hS, hK, hW, rfl, rfl⟩ := h
  have hr := hS.kids.1 0 (by omega)
  refine ⟨upd vs 0 v1, upd ls 0 (ls 0 ++ [x]), ⟨?_, hS.kids.appended (by omega) hown hg hat⟩, fun i hi => by rw [upd_other _ _ (by omega)]; exact hK i hi, hb, upd_same _ _ _, upd_same _ _ _⟩
  rw [fcells_congr _ 2 (upd vs 0 v1) vs (fun j h1 h2 => upd_other _ _ (by omega))]
  exact own_other hS.row hg (own_type_ne hS.row hr (by decide))
theorem BoRelT.own {w wr : World} {al : List FormP} {kk : Nat → List Int} {n : Nat} {vo vp : Value} {tp : List Int} (h : BoRelT w wr al kk n vo vp tp) : wr.ownsRow w.heap.size 3 1 vp tp.length (nums .i64 tp) := by
  obtain ⟨vs, ls, hS, hK, hW, rfl, rfl⟩ := h
  exact hS.kids.1 0 (by omega)
theorem BoRelT.below {w wr : World} {al : List FormP} {kk : Nat → List Int} {n : Nat} {vo vp : Value} {tp : List Int} (h : BoRelT w wr al kk n vo vp tp) : Below w.heap.size w wr := by
  obtain ⟨vs, ls, hS, hK, hW, _, _⟩ := h
  exact hW
theorem FRow.congr {w : World} {A : Option Addr} {fs : List FormP} {ks hs : Nat → List Int} (h : FRow w A fs ks) (he : ∀ j, j < fs.length → ks j = hs j) : FRow w A fs hs := by
  intro j f hj
  have := h j f hj
  rw [he j (List.getElem?_eq_some_iff.1 hj).1] at this
  exact this
theorem BoRelT.ends {w wr : World} {al : List FormP} {kk : Nat → List Int} {Ao Ap : Option Addr} {co cp : Nat} {tp : List Int} (h : BoRelT w wr al kk al.length (.slice Ao al.length co) (.slice Ap tp.length cp) tp) : FRow wr Ao al kk ∧ IRow wr Ap tp := by
  have ho := h.own
  obtain ⟨vs, ls, hS, hK, hW, _, _⟩ := h
  rw [List.take_length] at hS
  obtain ⟨A1, c1, hv, _, hF⟩ := own_frow hS.row hS.kids
  injection hv with hv _ _
  subst hv
  obtain ⟨A2, c2, hv2, _, hI⟩ := own_irow ho
  injection hv2 with hv2 _ _
  subst hv2
  exact ⟨hF.congr hK, hI⟩
set_option maxHeartbeats 16000000 in
set_option maxRecDepth 100000 in
theorem refBoth_calls (w : World) (A B A' B' : Option Addr) (c d c' d' : Nat) (fs gs : List FormP) (ks hs : Nat → List Int) (top also : List Int) (hF : FRow w A fs ks) (hT : IRow w B top) (hG : FRow w A' gs hs) (hU : IRow w B' also) (hN : fs.length ≤ 1000000) (hN' : gs.length ≤ 1000000)
    (hk : ∀ j, (ks j).length ≤ 17592186043904) (hk' : ∀ j, (hs j).length ≤ 17592186043904) (ht : top.length ≤ 17592186043904) (ht' : also.length ≤ 17592186043904) (hx : ∀ f ∈ fs, f.t.size ≤ 140737488351232) (hx' : ∀ f ∈ gs, f.t.size ≤ 140737488351232) :
    Calls Try.prog 39 #[.slice A fs.length c, .slice B top.length d, .slice A' gs.length c', .slice B' also.length d'] w fun e w' => BothEnds w (bothP fs ks top gs hs also) e w' := by
  have HR1 := Lib.hid (refRight_calls w A B c d fs ks top hF hT (by omega) (fun j => Nat.le_trans (hk j) (by decide)) (by omega) hx)
  have HF := Lib.hid hF
  have HT := Lib.hid hT
  have HG := Lib.hid hG
  have HU := Lib.hid hU
  have HK := Lib.hid hk
  have HK' := Lib.hid hk'
  have HX' := Lib.hid hx'
  clear hF hT hG hU hk hk' hx hx'
  by_cases hr1 : rightB fs ks top = true
  · have HRW1 := Lib.hid (right_rows hr1)
    have HRT1 := Lib.hid hr1
    rw [hr1] at HR1
    go_enter Try.func39, Try.ntmps39
    go_wp2_with (fail)
    refine HR1.out.mono ?_
    rintro e w1 ⟨rfl, hb1⟩
    have HB1 := Lib.hid hb1
    have HR2 := Lib.hid (refRight_calls w1 A' B' c' d' gs hs also (HG.out.below hb1) (HU.out.below hb1) (by omega) (fun j => Nat.le_trans (HK'.out j) (by decide)) (by omega) HX'.out)
    clear hb1 HR1 hr1
    go_wp2_with (fail)
    by_cases hr2 : rightB gs hs also = true
    · have HRW2 := Lib.hid (right_rows hr2)
      have HRT2 := Lib.hid hr2
      rw [hr2] at HR2
      refine HR2.out.mono ?_
      rintro e w2 ⟨rfl, hb2⟩
      have HB2 := Lib.hid (below_then HB1.out HB1.out.size hb2)
      clear hb2 hr2
      by_cases h4 : fs.length + gs.length ≤ 400
      · have hp : bothP fs ks top gs hs also = .ok (fs ++ gs, bothK fs.length ks hs, bothT fs.length top also) := by
          unfold bothP
          rw [if_pos ⟨HRT1.out, HRT2.out⟩, if_pos h4]
        have HPP := Lib.hid hp
        clear hp
        have hws : IntKind.i64.wrap ((fs.length : Int) + (gs.length : Int)) = ((fs.length : Int) + (gs.length : Int)) := IntWalk.i64_in _ (by omega)
        have q4 : decide ((fs.length : Int) + (gs.length : Int) > 400) = false := decide_eq_false (by omega)
        have q4' : decide ((400 : Int) < (fs.length : Int) + (gs.length : Int)) = false := decide_eq_false (by omega)
        have q4n : ¬ 400 < fs.length + gs.length := by omega
        go_wp2_with (fail)
        go_loopw [11, 12] (fun vo x wr => ∃ j : Nat, x = .int .i64 (j : Int) ∧ j ≤ fs.length ∧ Hid (BoRel w wr (fs ++ gs) (bothK fs.length ks hs) j vo)) (fun _ x _ => fs.length - (intOf x).toNat)
        case atStart => exact ⟨0, rfl, Nat.zero_le _, fun _ => .slice none 0 0, fun _ => [], ⟨own_nil _ _ _ _, ⟨fun i _ => own_nil _ _ _ _, fun i j _ _ _ => .inl rfl⟩⟩, fun i hi => absurd hi (Nat.not_lt_zero _), HB2.out⟩
        case round =>
          obtain ⟨j, rfl, hj, hR⟩ := hrel
          obtain ⟨vs, ls, hS, hK, hW⟩ := hR.out
          have htl : ((fs ++ gs).take j).length = j := by rw [List.length_take, List.length_append]; omega
          obtain ⟨Ao, co, rfl⟩ := own_slice hS.row
          rw [htl]
          by_cases hlt : j < fs.length
          · obtain ⟨F, hFj⟩ : ∃ F, fs[j]? = some F := ⟨_, List.getElem?_eq_getElem hlt⟩
            have hsnoc : (fs ++ gs).take (j + 1) = (fs ++ gs).take j ++ [F] := by
              have h1 : j < (fs ++ gs).length := by rw [List.length_append]; omega
              rw [List.take_succ_eq_append_getElem h1]
              have h2 : (fs ++ gs)[j] = F := by
                have := List.getElem?_append_left (l₂ := gs) hlt
                rw [hFj, List.getElem?_eq_getElem h1] at this
                injection this
              rw [h2]
            obtain ⟨g2, o2, C, e2, hA2, hg2, d0, d1, d2, d3, d4, _, hI⟩ := (HF.out.below hW) j F hFj
            subst hA2
            have z1 : (j : Int) < (fs.length : Int) := by omega
            have z0 : (0 : Int) ≤ (j : Int) := by omega
            have qd : decide ((j : Int) < (fs.length : Int)) = true := decide_eq_true z1
            have hw : IntKind.i64.wrap ((j : Int) + 1) = ((j + 1 : Nat) : Int) := by rw [IntWalk.i64_in _ (by omega)]; omega
            have hkl := HK.out j
            obtain ⟨wa, hwa⟩ : ∃ wa, wa = wr.alloc (.cells #[.int .u8 F.k, .string F.t, .int .i64 F.n, .slice C (ks j).length e2, .int .i64 F.at_] 40) := ⟨_, rfl⟩
            have hba : Below wr.heap.size wr wa := by rw [hwa]; exact (Below.refl _ wr).alloc (Nat.le_refl _) _
            have hsa : wa.heap.size = wr.heap.size + 1 := by rw [hwa]; exact Array.size_push _
            have hxa : wa.heap[wr.heap.size]? = some (.cells #[.int .u8 F.k, .string F.t, .int .i64 F.n, .slice C (ks j).length e2, .int .i64 F.at_] 40 (0, 0)) := by rw [hwa]; exact blk_new wr _
            have hOE := own_lit wa w.heap.size 3 .i64 [] (Nat.le_trans hW.size hba.size) (by simp)
            rw [hsa] at hOE
            have HOE := Lib.hid hOE
            have HBB : Hid (Below wr.heap.size wr (wa.alloc (.cells #[] 3))) := hba.alloc hba.size _
            have HBW2 : Hid (Below w.heap.size w (wa.alloc (.cells #[] 3))) := below_then hW hW.size HBB.out
            have hrd := irow_reads (hI.below HBB.out) (by omega)
            have HRD := Lib.hid hrd
            have HXA : Hid ((wa.alloc (.cells #[] 3)).heap[wr.heap.size]? = some (.cells #[.int .u8 F.k, .string F.t, .int .i64 F.n, .slice C (ks j).length e2, .int .i64 F.at_] 40 (0, 0))) := blk_alloc hxa _
            have y3 : (wa.alloc (.cells #[] 3)).cell? ⟨wr.heap.size, 3, none⟩ = some (.slice C (ks j).length e2) := by rw [blk_cell HXA.out]; rfl
            have hlong : (0 + (ks j).length) * 8 ≤ 140737488355328 := by omega
            have HS := Lib.hid hS
            have HKK := Lib.hid hK
            have HW := Lib.hid hW
            have HSN := Lib.hid hsnoc
            have HTL := Lib.hid htl
            have HSA := Lib.hid hsa
            have HWA := Lib.hid hwa
            clear hS hK hW hR hFj hI hsnoc htl hba hsa hxa hOE hrd
            rw [hwa] at HOE HRD HBW2 y3
            clear hwa
            go_wp2_with (at_builtin; refine print_append_row (w0 := w) w.heap.size rfl (.tmp 48) (.tmp 50) 24 3 .i64 8 rfl Try.underlying24 info3 (Nat.succ_pos 7) (.slice (some ⟨wr.heap.size + 1, 0, none⟩) 0 0) [] (ks j) C (ks j).length e2 rfl rfl HOE.out HRD.out HBW2.out HBW2.out.size hlong ?_)
            intro v1 w1 hown1 hb1 hg1 hat1
            rw [← HWA.out] at hg1
            obtain ⟨A1, c1, hv1⟩ := own_slice hown1
            try rw [List.nil_append] at hown1 hv1
            have hbw1 : Below wr.heap.size wr w1 := fresh_below (v := .slice (some ⟨wr.heap.size + 1, 0, none⟩) 0 0) (g := wr.heap.size + 1) rfl (Nat.le_succ _) HBB.out hg1
            have hfr := fresh_at (wr := wr) (v := .slice (some ⟨wr.heap.size + 1, 0, none⟩) 0 0) (g := wr.heap.size + 1) rfl (Nat.le_succ _) (N := wr.heap.size + 1 + 1) (by omega) hat1
            have hx1 : w1.heap[wr.heap.size]? = some (.cells #[.int .u8 F.k, .string F.t, .int .i64 F.n, .slice C (ks j).length e2, .int .i64 F.at_] 40 (0, 0)) := blk_grown HXA.out hg1 (by intro e; have e2 : wr.heap.size = wr.heap.size + 1 := Option.some.inj e; omega)
            have hw1s := hbw1.size
            obtain ⟨w2x, hw2x⟩ : ∃ w2x, w2x = w1.setCell ⟨wr.heap.size, 3, none⟩ v1 := ⟨_, rfl⟩
            have hx2 : w2x.heap[wr.heap.size]? = some (.cells #[.int .u8 F.k, .string F.t, .int .i64 F.n, v1, .int .i64 F.at_] 40 (0, 0)) := by rw [hw2x]; exact blk_set hx1 3 v1
            have hb2x : Below wr.heap.size wr w2x := by rw [hw2x]; exact hbw1.setCell (p := ⟨wr.heap.size, 3, none⟩) (Nat.le_refl _) _
            have hown2 : w2x.ownsRow w.heap.size 3 1 v1 (ks j).length (nums .i64 (ks j)) := by rw [hw2x]; exact own_setCell hown1 (own_ne hown1 hx1 (by decide)) _
            have hS2 := HS.out.below hb2x
            have hW2 : Below w.heap.size w w2x := below_then HW.out HW.out.size hb2x
            have y1 : w1.cell? ⟨wr.heap.size, 3, none⟩ = some (.slice C (ks j).length e2) := by rw [blk_cell hx1]; rfl
            have f1 : w1.frozen? ⟨wr.heap.size, 3, none⟩ = false := blk_frozen hx1 3
            have hne : ∀ i, i < ((fs ++ gs).take j).length + 2 → v1.ownBlock = none ∨ v1.ownBlock ≠ (vs i).ownBlock := by
              intro i hi
              rcases hfr with h | ⟨b, h, hle⟩
              · exact .inl h
              · right
                intro e
                rw [h] at e
                have := own_lt (HS.out.kids.1 i hi) b e.symm
                omega
            have HOWN2 := Lib.hid hown2
            have HS2 := Lib.hid hS2
            have HW2 := Lib.hid hW2
            have HX2 := Lib.hid hx2
            have HNE := Lib.hid hne
            have HW2X := Lib.hid hw2x
            clear hown1 hb1 hg1 hat1 hbw1 hfr hx1 hx2 hb2x hown2 hS2 hW2 hne y3 hw2x hw1s
            subst hv1
            go_upto_region 11 with (fail)
            rw [← HW2X.out]
            obtain ⟨b0, b1, b2, b3, b4, _, _, _, _, _⟩ := form_cells HX2.out
            have hlong2 : (j + 1) * 64 ≤ 140737488355328 := by omega
            have hrow : Hid (w2x.ownsRow w.heap.size 40 5 (.slice Ao j co) j (fcells ((fs ++ gs).take j) 2 vs)) := by have h := HS2.out.row; rw [HTL.out] at h; exact h
            clear y1 f1 d0 d1 d2 d3 d4
            go_wp2_with (at_builtin; refine print_append_cells (w0 := w) w.heap.size rfl (.tmp 53) (.tmp 55) 23 40 (.agg #[.int .u8 0, .string ⟨#[]⟩, .int .i64 0, .slice none 0 0, .int .i64 0]) 5 64 rfl Try.underlying23 info40 rfl (by decide) (by decide) (.slice Ao j co) j (fcells ((fs ++ gs).take j) 2 vs) (fcell F (.slice A1 (ks j).length c1)) rfl rfl rfl (by intro u hu; simp [fcell] at hu; rcases hu with rfl | rfl | rfl | rfl | rfl <;> rfl) hrow.out HW2.out HW2.out.size hlong2 ?_)
            intro v3 w3 hown3 hb3 hg3 hat3
            have hfin : Hid (BoRel w w3 (fs ++ gs) (bothK fs.length ks hs) (j + 1) v3) := by
              have hown3' : w3.ownsRow w.heap.size 40 5 v3 (((fs ++ gs).take j).length + 1) (fcells ((fs ++ gs).take j) 2 vs ++ fcell F (.slice A1 (ks j).length c1)) := by rw [HTL.out]; exact hown3
              have hg3' : w2x.grownBy w3 (Value.slice Ao ((fs ++ gs).take j).length co).ownBlock := by rw [HTL.out]; exact hg3
              have h := HS2.out.add (f := F) HOWN2.out HNE.out hown3' hg3'
              rw [← HSN.out, HTL.out] at h
              refine ⟨_, _, h, fun i hi => ?_, hb3⟩
              by_cases e : i = j
              · subst e
                rw [upd_same]
                unfold bothK
                rw [if_pos hlt]
              · rw [upd_other _ _ (by omega)]
                exact HKK.out i (by omega)
            clear hown3 hb3 hg3 hat3
            go_wp2
            go_roundw
            case measure => simp [intOf]; omega
            case rel => exact ⟨j + 1, by first | rfl | (rw [hw]) | simp, by omega, hfin⟩
          · obtain rfl : j = fs.length := by omega
            have qd : decide ((fs.length : Int) < (fs.length : Int)) = false := decide_eq_false (by omega)
            have hsa : (wr.alloc (.cells #[] 3)).heap.size = wr.heap.size + 1 := World.size_alloc _ _
            have HOE := Lib.hid (own_lit wr w.heap.size 3 .i64 [] hW.size (by simp))
            have HBB : Hid (Below wr.heap.size wr (wr.alloc (.cells #[] 3))) := (Below.refl _ wr).alloc (Nat.le_refl _) _
            have HBW2 : Hid (Below w.heap.size w (wr.alloc (.cells #[] 3))) := below_then hW hW.size HBB.out
            have HRD := Lib.hid (irow_reads ((HT.out.below hW).below HBB.out) (by omega))
            have hlong : (0 + top.length) * 8 ≤ 140737488355328 := by omega
            have HR := Lib.hid hR.out
            clear hS hK hW hR htl hlt hsa
            go_wp2_with (at_builtin; refine print_append_row (w0 := w) w.heap.size rfl (.tmp 57) (.tmp 58) 24 3 .i64 8 rfl Try.underlying24 info3 (Nat.succ_pos 7) (.slice (some ⟨wr.heap.size, 0, none⟩) 0 0) [] top B top.length d rfl rfl HOE.out HRD.out HBW2.out HBW2.out.size hlong ?_)
            intro v1 w1 hown1 hb1 hg1 hat1
            try rw [List.nil_append] at hown1
            have hbw1 : Below wr.heap.size wr w1 := fresh_below (v := .slice (some ⟨wr.heap.size, 0, none⟩) 0 0) (g := wr.heap.size) rfl (Nat.le_refl _) HBB.out hg1
            have hfr := fresh_at (wr := wr) (v := .slice (some ⟨wr.heap.size, 0, none⟩) 0 0) (g := wr.heap.size) rfl (Nat.le_refl _) (N := wr.heap.size + 1) (by omega) hat1
            have HRT := Lib.hid (BoRel.places HR.out hbw1 hown1 hfr)
            obtain ⟨Ap, cp, hvp⟩ := own_slice hown1
            clear hown1 hb1 hg1 hat1 hbw1 hfr HR HOE HBB HBW2 HRD
            subst hvp
            go_wp2_with (fail)
            go_loopw [11, 15] (fun vo x wr => ∃ j : Nat, x = .int .i64 (j : Int) ∧ j ≤ gs.length ∧ Hid (BoRelT w wr (fs ++ gs) (bothK fs.length ks hs) (fs.length + j) vo (.slice Ap top.length cp) top)) (fun _ x _ => gs.length - (intOf x).toNat)
            case atStart => exact ⟨0, rfl, Nat.zero_le _, by have h := HRT.out; rw [show ((fs ++ gs).take fs.length).length = fs.length by rw [List.length_take, List.length_append]; omega] at h; exact h⟩
            case round =>
              clear HRT
              obtain ⟨j, rfl, hj, hR⟩ := hrel
              obtain ⟨wo, hwo⟩ : ∃ wo, wo = wr := ⟨_, rfl⟩
              subst hwo
              obtain ⟨vs, ls, hS, hK, hW, hv0, hl0⟩ := hR.out
              have htl : ((fs ++ gs).take (fs.length + j)).length = fs.length + j := by rw [List.length_take, List.length_append]; omega
              obtain ⟨Ao, co, rfl⟩ := own_slice hS.row
              rw [htl]
              by_cases hlt : j < gs.length
              · obtain ⟨F, hFj⟩ : ∃ F, gs[j]? = some F := ⟨_, List.getElem?_eq_getElem hlt⟩
                have hsnoc : (fs ++ gs).take (fs.length + j + 1) = (fs ++ gs).take (fs.length + j) ++ [F] := by
                  have h1 : fs.length + j < (fs ++ gs).length := by rw [List.length_append]; omega
                  rw [List.take_succ_eq_append_getElem h1]
                  have h2 : (fs ++ gs)[fs.length + j] = F := by
                    have := List.getElem?_append_right (l₁ := fs) (l₂ := gs) (i := fs.length + j) (by omega)
                    rw [show fs.length + j - fs.length = j by omega, hFj, List.getElem?_eq_getElem h1] at this
                    injection this
                  rw [h2]
                have HFJ := Lib.hid hFj
                obtain ⟨g2, o2, C, e2, hA2, hg2, d0, d1, d2, d3, d4, _, hI⟩ := (HG.out.below hW) j F hFj
                subst hA2
                have z1 : (j : Int) < (gs.length : Int) := by omega
                have z0 : (0 : Int) ≤ (j : Int) := by omega
                have qd : decide ((j : Int) < (gs.length : Int)) = true := decide_eq_true z1
                have hw : IntKind.i64.wrap ((j : Int) + 1) = ((j + 1 : Nat) : Int) := by rw [IntWalk.i64_in _ (by omega)]; omega
                have hkl := HK'.out j
                obtain ⟨wa, hwa⟩ : ∃ wa, wa = wo.alloc (.cells #[.int .u8 F.k, .string F.t, .int .i64 F.n, .slice C (hs j).length e2, .int .i64 F.at_] 40) := ⟨_, rfl⟩
                have hba : Below wo.heap.size wo wa := by rw [hwa]; exact (Below.refl _ wo).alloc (Nat.le_refl _) _
                have hsa : wa.heap.size = wo.heap.size + 1 := by rw [hwa]; exact Array.size_push _
                have hxa : wa.heap[wo.heap.size]? = some (.cells #[.int .u8 F.k, .string F.t, .int .i64 F.n, .slice C (hs j).length e2, .int .i64 F.at_] 40 (0, 0)) := by rw [hwa]; exact blk_new wo _
                have HXA := Lib.hid hxa
                have HIA := Lib.hid (hI.below hba)
                have HBA := Lib.hid hba
                have HS := Lib.hid hS
                have HKK := Lib.hid hK
                have HW := Lib.hid hW
                have HSN := Lib.hid hsnoc
                have HTL := Lib.hid htl
                have HSA := Lib.hid hsa
                have HWA := Lib.hid hwa
                have HV0 := Lib.hid hv0
                have HL0 := Lib.hid hl0
                have hrok := (HRW2.out.2.2 j hlt)
                have HROK := Lib.hid hrok
                have hn2 := HRW2.out.1
                clear hS hK hW hR hFj hI hsnoc htl hba hsa hxa hv0 hl0 hrok
                go_upto_region 17 with (fail)
                rw [← HWA.out]
                clear d0 d1 d2 d3 d4 hwa
                go_wp2_with (fail)
                go_loopw [17, 18] (fun vk x wq => ∃ k : Nat, x = .int .i64 (k : Int) ∧ k ≤ (hs j).length ∧ Hid (wq.ownsRow wa.heap.size 3 1 vk (((hs j).take k).map (fun x => x + (fs.length : Int))).length (nums .i64 (((hs j).take k).map (fun x => x + (fs.length : Int)))) ∧ Below wa.heap.size wa wq)) (fun _ x _ => (hs j).length - (intOf x).toNat)
                case atStart => exact ⟨0, rfl, Nat.zero_le _, own_nil _ _ _ _, Below.refl _ _⟩
                case round =>
                  obtain ⟨k, rfl, hk, hQ⟩ := hrel
                  obtain ⟨hOk, hBq⟩ := hQ.out
                  have hlk : (((hs j).take k).map (fun x => x + (fs.length : Int))).length = k := by rw [List.length_map, List.length_take]; omega
                  obtain ⟨Ak, ck, rfl⟩ := own_slice hOk
                  rw [hlk]
                  have hxq : wr.heap[wo.heap.size]? = some (.cells #[.int .u8 F.k, .string F.t, .int .i64 F.n, .slice C (hs j).length e2, .int .i64 F.at_] 40 (0, 0)) := blk_below HXA.out hBq
                  have y3 : wr.cell? ⟨wo.heap.size, 3, none⟩ = some (.slice C (hs j).length e2) := by rw [blk_cell hxq]; rfl
                  have f3 : wr.frozen? ⟨wo.heap.size, 3, none⟩ = false := blk_frozen hxq 3
                  have HXQ := Lib.hid hxq
                  have HLK := Lib.hid hlk
                  have HOK := Lib.hid hOk
                  have HBQ := Lib.hid hBq
                  have HIQ := Lib.hid (HIA.out.below hBq)
                  clear hlk hOk hBq hQ hxq
                  by_cases hlk : k < (hs j).length
                  · obtain ⟨gc, oc, hAc, _, c0⟩ := HIQ.out k hlk
                    subst hAc
                    obtain ⟨p, hp⟩ : ∃ p, p = (hs j).getD k 0 := ⟨_, rfl⟩
                    rw [← hp] at c0
                    have hpm : p ∈ hs j := by rw [hp, List.getD_eq_getElem?_getD, List.getElem?_eq_getElem hlk]; exact List.getElem_mem _
                    have hpr := HROK.out.2 p hpm
                    have hsn : Hid (((hs j).take (k + 1)).map (fun x => x + (fs.length : Int)) = ((hs j).take k).map (fun x => x + (fs.length : Int)) ++ [p + (fs.length : Int)]) := by
                      show _ = _
                      rw [List.take_succ_eq_append_getElem hlk, List.map_append, hp, List.getD_eq_getElem?_getD, List.getElem?_eq_getElem hlk]
                      rfl
                    have qd : decide ((k : Int) < ((hs j).length : Int)) = true := decide_eq_true (by omega)
                    have u1 : (k : Int) < ((hs j).length : Int) := by omega
                    have u0 : (0 : Int) ≤ (k : Int) := by omega
                    have hwk : IntKind.i64.wrap ((k : Int) + 1) = ((k + 1 : Nat) : Int) := by rw [IntWalk.i64_in _ (by omega)]; omega
                    have hwp : IntKind.i64.wrap (p + (fs.length : Int)) = p + (fs.length : Int) := IntWalk.i64_in _ (by omega)
                    have hlongk : ((((hs j).take k).map (fun x => x + (fs.length : Int))).length + 1) * 8 ≤ 140737488355328 := by rw [HLK.out]; have := HROK.out.1; omega
                    have hOK2 : Hid (wr.ownsRow wa.heap.size 3 1 (.slice Ak k ck) (((hs j).take k).map (fun x => x + (fs.length : Int))).length (nums .i64 (((hs j).take k).map (fun x => x + (fs.length : Int))))) := by have h := HOK.out; rw [HLK.out] at h ⊢; exact h
                    obtain ⟨Lk, hLk⟩ : ∃ Lk, Lk = ((hs j).take k).map (fun x => x + (fs.length : Int)) := ⟨_, rfl⟩
                    rw [← hLk] at hOK2 hsn hlongk
                    clear hp hpm hLk
                    go_wp2_with (at_builtin; refine print_append_num (w0 := wa) wa.heap.size rfl (.tmp 77) (.tmp 86) 24 3 .i64 8 rfl Try.underlying24 info3 (Nat.succ_pos 7) (.slice Ak k ck) Lk (p + (fs.length : Int)) rfl rfl hOK2.out HBQ.out HBQ.out.size hlongk ?_)
                    intro v5 w5 hown5 hb5 hg5 hat5
                    have hfin : Hid (w5.ownsRow wa.heap.size 3 1 v5 (((hs j).take (k + 1)).map (fun x => x + (fs.length : Int))).length (nums .i64 (((hs j).take (k + 1)).map (fun x => x + (fs.length : Int)))) ∧ Below wa.heap.size wa w5) := by
                      refine ⟨?_, hb5⟩
                      rw [hsn.out]
                      simpa using hown5
                    clear hown5 hb5 hg5 hat5
                    go_wp2
                    go_roundw
                    case measure => simp [intOf]; omega
                    case rel => exact ⟨k + 1, by first | rfl | (rw [hwk]) | simp, by omega, hfin⟩
                  · obtain rfl : k = (hs j).length := by omega
                    have qd : decide (((hs j).length : Int) < ((hs j).length : Int)) = false := decide_eq_false (by omega)
                    obtain ⟨l2, hl2⟩ : ∃ l2, l2 = (hs j).map (fun x => x + (fs.length : Int)) := ⟨_, rfl⟩
                    have hl2n : l2.length = (hs j).length := by rw [hl2, List.length_map]
                    have hO2 : wr.ownsRow wa.heap.size 3 1 (.slice Ak (hs j).length ck) l2.length (nums .i64 l2) := by
                      have h := HOK.out
                      rw [HLK.out, List.take_length, ← hl2] at h
                      rw [hl2n]; exact h
                    have hbr : Below wo.heap.size wo wr := below_then HBA.out HBA.out.size HBQ.out
                    have hwos : w.heap.size ≤ wo.heap.size := HW.out.size
                    have hO3 : wr.ownsRow w.heap.size 3 1 (.slice Ak (hs j).length ck) l2.length (nums .i64 l2) := own_weaken hO2 (by have := HSA.out; omega)
                    obtain ⟨w2x, hw2x⟩ : ∃ w2x, w2x = wr.setCell ⟨wo.heap.size, 3, none⟩ (.slice Ak (hs j).length ck) := ⟨_, rfl⟩
                    have hx2 : w2x.heap[wo.heap.size]? = some (.cells #[.int .u8 F.k, .string F.t, .int .i64 F.n, .slice Ak (hs j).length ck, .int .i64 F.at_] 40 (0, 0)) := by rw [hw2x]; exact blk_set HXQ.out 3 _
                    have hb2x : Below wo.heap.size wo w2x := by rw [hw2x]; exact hbr.setCell (p := ⟨wo.heap.size, 3, none⟩) (Nat.le_refl _) _
                    have hown2 : w2x.ownsRow w.heap.size 3 1 (.slice Ak (hs j).length ck) l2.length (nums .i64 l2) := by rw [hw2x]; exact own_setCell hO3 (own_ne hO3 HXQ.out (by decide)) _
                    have hne : ∀ i, i < ((fs ++ gs).take (fs.length + j)).length + 2 → (Value.slice Ak (hs j).length ck).ownBlock = none ∨ (Value.slice Ak (hs j).length ck).ownBlock ≠ (vs i).ownBlock := by
                      intro i hi
                      cases hk2 : (Value.slice Ak (hs j).length ck).ownBlock with
                      | none => exact .inl rfl
                      | some b =>
                        right
                        intro e
                        have h1 := own_base hO2 b hk2
                        have h2 := own_lt (HS.out.kids.1 i hi) b e.symm
                        have h3 := HSA.out
                        omega
                    have HOWN2 := Lib.hid hown2
                    have HS2 := Lib.hid (HS.out.below hb2x)
                    have HW2 : Hid (Below w.heap.size w w2x) := below_then HW.out HW.out.size hb2x
                    have HX2 := Lib.hid hx2
                    have HNE := Lib.hid hne
                    have HW2X := Lib.hid hw2x
                    have HL2 := Lib.hid hl2
                    clear hO2 hbr hO3 hx2 hb2x hown2 hne hw2x hl2n hl2
                    go_upto_region 23 with (fail)
                    rw [← HW2X.out]
                    obtain ⟨b0, b1, b2, b3, b4, _, _, _, _, _⟩ := form_cells HX2.out
                    have hlong2 : (fs.length + j + 1) * 64 ≤ 140737488355328 := by omega
                    have hrow : Hid (w2x.ownsRow w.heap.size 40 5 (.slice Ao (fs.length + j) co) (fs.length + j) (fcells ((fs ++ gs).take (fs.length + j)) 2 vs)) := by have h := HS2.out.row; rw [HTL.out] at h; exact h
                    clear y3 f3
                    go_wp2_with (at_builtin; refine print_append_cells (w0 := w) w.heap.size rfl (.tmp 90) (.tmp 92) 23 40 (.agg #[.int .u8 0, .string ⟨#[]⟩, .int .i64 0, .slice none 0 0, .int .i64 0]) 5 64 rfl Try.underlying23 info40 rfl (by decide) (by decide) (.slice Ao (fs.length + j) co) (fs.length + j) (fcells ((fs ++ gs).take (fs.length + j)) 2 vs) (fcell F (.slice Ak (hs j).length ck)) rfl rfl rfl (by intro u hu; simp [fcell] at hu; rcases hu with rfl | rfl | rfl | rfl | rfl <;> rfl) hrow.out HW2.out HW2.out.size hlong2 ?_)
                    intro v3 w3 hown3 hb3 hg3 hat3
                    have hfin : Hid (BoRelT w w3 (fs ++ gs) (bothK fs.length ks hs) (fs.length + (j + 1)) v3 (.slice Ap top.length cp) top) := by
                      have hown3' : w3.ownsRow w.heap.size 40 5 v3 (((fs ++ gs).take (fs.length + j)).length + 1) (fcells ((fs ++ gs).take (fs.length + j)) 2 vs ++ fcell F (.slice Ak (hs j).length ck)) := by rw [HTL.out]; exact hown3
                      have hg3' : w2x.grownBy w3 (Value.slice Ao ((fs ++ gs).take (fs.length + j)).length co).ownBlock := by rw [HTL.out]; exact hg3
                      have h := HS2.out.add (f := F) HOWN2.out HNE.out hown3' hg3'
                      rw [← HSN.out, HTL.out] at h
                      refine ⟨_, _, h, fun i hi => ?_, hb3, ?_, ?_⟩
                      · by_cases e : i = fs.length + j
                        · subst e
                          rw [upd_same, HL2.out]
                          unfold bothK
                          rw [if_neg (by omega), show fs.length + j - fs.length = j by omega]
                        · rw [upd_other _ _ (by omega)]
                          exact HKK.out i (by omega)
                      · rw [upd_other _ _ (by omega)]; exact HV0.out
                      · rw [upd_other _ _ (by omega)]; exact HL0.out
                    clear hown3 hb3 hg3 hat3
                    go_wp2
                    go_roundw
                    case measure => simp [intOf]; omega
                    case rel => exact ⟨j + 1, by first | rfl | (rw [hw]) | simp, by omega, hfin⟩
              · obtain rfl : j = gs.length := by omega
                have qd : decide ((gs.length : Int) < (gs.length : Int)) = false := decide_eq_false (by omega)
                have hRT : BoRelT w wo (fs ++ gs) (bothK fs.length ks hs) (fs.length + gs.length) (.slice Ao (fs.length + gs.length) co) (.slice Ap top.length cp) top := by
                  have h := hR.out
                  rw [htl] at h
                  exact h
                have HRT := Lib.hid hRT
                have HTW := Lib.hid HRW2.out.2.1
                clear hRT hR hS hK hW hv0 hl0 htl hlt
                go_wp2_with (fail)
                go_loopw [14, 19] (fun vp x wr => ∃ j : Nat, x = .int .i64 (j : Int) ∧ j ≤ also.length ∧ Hid (BoRelT w wr (fs ++ gs) (bothK fs.length ks hs) (fs.length + gs.length) (.slice Ao (fs.length + gs.length) co) vp (top ++ (also.take j).map (fun x => x + (fs.length : Int))))) (fun _ x _ => also.length - (intOf x).toNat)
                case atStart => exact ⟨0, rfl, Nat.zero_le _, by rw [List.take_zero, List.map_nil, List.append_nil]; exact HRT.out⟩
                case round =>
                  clear HRT
                  obtain ⟨j, rfl, hj, hR⟩ := hrel
                  have hO := hR.out.own
                  have hW := hR.out.below
                  obtain ⟨Aq, cq, rfl⟩ := own_slice hO
                  have hlq : (top ++ (also.take j).map (fun x => x + (fs.length : Int))).length = top.length + j := by rw [List.length_append, List.length_map, List.length_take]; omega
                  rw [hlq]
                  by_cases hlt : j < also.length
                  · obtain ⟨gc, oc, hAc, _, c0⟩ := (HU.out.below hW) j hlt
                    subst hAc
                    obtain ⟨p, hp⟩ : ∃ p, p = also.getD j 0 := ⟨_, rfl⟩
                    rw [← hp] at c0
                    have hpm : p ∈ also := by rw [hp, List.getD_eq_getElem?_getD, List.getElem?_eq_getElem hlt]; exact List.getElem_mem _
                    have hpr := HTW.out.2 p hpm
                    have ht4 := HRW1.out.2.1.1
                    have ht5 := HTW.out.1
                    have hsn : Hid (top ++ (also.take (j + 1)).map (fun x => x + (fs.length : Int)) = (top ++ (also.take j).map (fun x => x + (fs.length : Int))) ++ [p + (fs.length : Int)]) := by
                      show _ = _
                      rw [List.take_succ_eq_append_getElem hlt, List.map_append, ← List.append_assoc, hp, List.getD_eq_getElem?_getD, List.getElem?_eq_getElem hlt]
                      rfl
                    have qd : decide ((j : Int) < (also.length : Int)) = true := decide_eq_true (by omega)
                    have u1 : (j : Int) < (also.length : Int) := by omega
                    have u0 : (0 : Int) ≤ (j : Int) := by omega
                    have hw : IntKind.i64.wrap ((j : Int) + 1) = ((j + 1 : Nat) : Int) := by rw [IntWalk.i64_in _ (by omega)]; omega
                    have hwp : IntKind.i64.wrap (p + (fs.length : Int)) = p + (fs.length : Int) := IntWalk.i64_in _ (by omega)
                    obtain ⟨Lq, hLq⟩ : ∃ Lq, Lq = top ++ (also.take j).map (fun x => x + (fs.length : Int)) := ⟨_, rfl⟩
                    rw [← hLq] at hsn hO hlq hR
                    have hO2 : wr.ownsRow w.heap.size 3 1 (.slice Aq (top.length + j) cq) Lq.length (nums .i64 Lq) := by have h := hO; rw [hlq] at h ⊢; exact h
                    have hR2 : BoRelT w wr (fs ++ gs) (bothK fs.length ks hs) (fs.length + gs.length) (.slice Ao (fs.length + gs.length) co) (.slice Aq (top.length + j) cq) Lq := by have h := hR.out; rw [hlq] at h; exact h
                    have hlong : (Lq.length + 1) * 8 ≤ 140737488355328 := by rw [hlq]; omega
                    have HO2 := Lib.hid hO2
                    have HR2 := Lib.hid hR2
                    have HW := Lib.hid hW
                    clear hp hpm hLq hO hO2 hR hR2 hW hlq
                    go_wp2_with (at_builtin; refine print_append_num (w0 := w) w.heap.size rfl (.tmp 100) (.tmp 108) 24 3 .i64 8 rfl Try.underlying24 info3 (Nat.succ_pos 7) (.slice Aq (top.length + j) cq) Lq (p + (fs.length : Int)) rfl rfl HO2.out HW.out HW.out.size hlong ?_)
                    intro v5 w5 hown5 hb5 hg5 hat5
                    have hfin : Hid (BoRelT w w5 (fs ++ gs) (bothK fs.length ks hs) (fs.length + gs.length) (.slice Ao (fs.length + gs.length) co) v5 (top ++ (also.take (j + 1)).map (fun x => x + (fs.length : Int)))) := by
                      show BoRelT _ _ _ _ _ _ _ _
                      rw [hsn.out]
                      exact HR2.out.push (by simpa [nums] using hown5) hg5 hat5 hb5
                    clear hown5 hb5 hg5 hat5
                    go_wp2
                    go_roundw
                    case measure => simp [intOf]; omega
                    case rel => exact ⟨j + 1, by first | rfl | (rw [hw]) | simp, by omega, hfin⟩
                  · obtain rfl : j = also.length := by omega
                    have qd : decide ((also.length : Int) < (also.length : Int)) = false := decide_eq_false (by omega)
                    have hR2 := hR.out
                    rw [hlq, List.take_length] at hR2
                    have HR2 := Lib.hid hR2
                    clear hR hR2 hO hW hlq hlt
                    have hlen : (fs ++ gs).length = fs.length + gs.length := List.length_append
                    have hR3 : BoRelT w wr (fs ++ gs) (bothK fs.length ks hs) (fs ++ gs).length (.slice Ao (fs ++ gs).length co) (.slice Aq (bothT fs.length top also).length cq) (bothT fs.length top also) := by
                      have h := HR2.out
                      rw [← hlen] at h
                      unfold bothT
                      rw [show (top ++ also.map (fun x => x + (fs.length : Int))).length = top.length + also.length by rw [List.length_append, List.length_map]]
                      exact h
                    have HEND := Lib.hid hR3.ends
                    have HBL := Lib.hid hR3.below
                    have HLEN := Lib.hid hlen
                    clear hlen hR3
                    go_wp2
                    refine bodyPost_ret (v := .tuple #[.slice Ao (fs.length + gs.length) co, .slice Aq (top.length + also.length) cq, .int .i64 0]) (by simp [results, Try.results39, go_sem]) rfl ?_
                    rw [HPP.out]
                    refine ⟨Ao, co, Aq, cq, ?_, HEND.out.1, HEND.out.2, HBL.out⟩
                    rw [HLEN.out]
                    unfold bothT
                    rw [show (top ++ also.map (fun x => x + (fs.length : Int))).length = top.length + also.length by rw [List.length_append, List.length_map]]
      · have hp : bothP fs ks top gs hs also = .error 4 := by
          unfold bothP
          rw [if_pos ⟨HRT1.out, HRT2.out⟩, if_neg h4]
        have HPP := Lib.hid hp
        clear hp
        have hws : IntKind.i64.wrap ((fs.length : Int) + (gs.length : Int)) = ((fs.length : Int) + (gs.length : Int)) := IntWalk.i64_in _ (by omega)
        have q4 : decide ((fs.length : Int) + (gs.length : Int) > 400) = true := decide_eq_true (by omega)
        have q4' : decide ((400 : Int) < (fs.length : Int) + (gs.length : Int)) = true := decide_eq_true (by omega)
        have q4n : 400 < fs.length + gs.length := by omega
        go_wp2
        exact bodyPost_ret (v := .tuple #[.slice none 0 0, .slice none 0 0, .int .i64 4]) (by simp [results, Try.results39, go_sem]) rfl (by rw [HPP.out]; exact ⟨rfl, HB2.out⟩)
    · have hp : bothP fs ks top gs hs also = .error 3 := by
        unfold bothP
        rw [if_neg (fun h => hr2 h.2)]
      have HPP := Lib.hid hp
      clear hp
      have hr2' : rightB gs hs also = false := by simpa using hr2
      rw [hr2'] at HR2
      refine HR2.out.mono ?_
      rintro e w2 ⟨rfl, hb2⟩
      have HB2 := Lib.hid (below_then HB1.out HB1.out.size hb2)
      clear hb2 hr2 hr2'
      go_wp2
      exact bodyPost_ret (v := .tuple #[.slice none 0 0, .slice none 0 0, .int .i64 3]) (by simp [results, Try.results39, go_sem]) rfl (by rw [HPP.out]; exact ⟨rfl, HB2.out⟩)
  · have hp : bothP fs ks top gs hs also = .error 3 := by
      unfold bothP
      rw [if_neg (fun h => hr1 h.1)]
    have HPP := Lib.hid hp
    clear hp
    have hr1' : rightB fs ks top = false := by simpa using hr1
    rw [hr1'] at HR1
    clear hr1 hr1'
    go_enter Try.func39, Try.ntmps39
    go_wp2_with (fail)
    refine HR1.out.mono ?_
    rintro e w1 ⟨rfl, hb1⟩
    have HB1 := Lib.hid hb1
    clear hb1
    go_wp2
    exact bodyPost_ret (v := .tuple #[.slice none 0 0, .slice none 0 0, .int .i64 3]) (by simp [results, Try.results39, go_sem]) rfl (by rw [HPP.out]; exact ⟨rfl, HB1.out⟩)
end Go.Proofs.Ytiojfdgagdofiaa.HP
