/- Functions of the program as plain Lean functions, and the proof that the code comes to just their answers. Written by hookprint.py (wip/); Lean checks it. -/
import Derived.Test.YtiojfdgagdofiaaHBx0
import Derived.Test.YtiojfdgagdofiaaHBx4
import Derived.Test.YtiojfdgagdofiaaHk1
namespace Go.Proofs.Ytiojfdgagdofiaa.HB
open Go.RowKit Go.Proofs.Ytiojfdgagdofiaa.HK Go.Proofs.YtiojfdgagdofiaaW.PrintWords Go.Proofs.YtiojfdgagdofiaaW.PrintLast Go.Proofs.YtiojfdgagdofiaaW.PrintMore
attribute [local go_sem] max2_int min2_int max_two min_two max_three min_three max_four min_four   -- for this text's walks alone
set_option linter.unusedVariables false
set_option linter.unusedSimpArgs false

/-! ### lex_WordKind: function 31 -/
def lex_WordKind.j0 : Nat → ByteArray → Bool → Option (Int)
  | 0, _, _ => none
  | k + 1, x0, x13 => if x13 = true then (some 3) else ((lex_named.f x0).bind fun t105 => (if t105 = true then (some 3) else (some 0)))
def lex_WordKind.f (k : Nat) (a0 : ByteArray) : Option (Int) := (num_Parse.f k a0).bind fun bt103 => (if bt103.2 = 0 then (some 4) else (if a0.toList = ([43] : List UInt8) then (lex_WordKind.j0 k a0 (a0.toList == ([43] : List UInt8))) else (if a0.toList = ([45] : List UInt8) then (lex_WordKind.j0 k a0 (a0.toList == ([45] : List UInt8))) else (if a0.toList = ([42] : List UInt8) then (lex_WordKind.j0 k a0 (a0.toList == ([42] : List UInt8))) else (if a0.toList = ([47] : List UInt8) then (lex_WordKind.j0 k a0 (a0.toList == ([47] : List UInt8))) else (if a0.toList = ([37] : List UInt8) then (lex_WordKind.j0 k a0 (a0.toList == ([37] : List UInt8))) else (if a0.toList = ([38] : List UInt8) then (lex_WordKind.j0 k a0 (a0.toList == ([38] : List UInt8))) else (if a0.toList = ([124] : List UInt8) then (lex_WordKind.j0 k a0 (a0.toList == ([124] : List UInt8))) else (if a0.toList = ([94] : List UInt8) then (lex_WordKind.j0 k a0 (a0.toList == ([94] : List UInt8))) else (if a0.toList = ([61] : List UInt8) then (lex_WordKind.j0 k a0 (a0.toList == ([61] : List UInt8))) else (lex_WordKind.j0 k a0 (a0.toList == ([60] : List UInt8)))))))))))))
theorem lex_WordKind.mono_l : ∀ k, (∀ y0 y1, LeO (lex_WordKind.j0 k y0 y1) (lex_WordKind.j0 (k + 1) y0 y1))
  | 0 => fun _ _ r h => by simp [lex_WordKind.j0] at h
  | k + 1 => by
    have ih0 := lex_WordKind.mono_l k
    · intro y0 y1
      unfold lex_WordKind.j0
      repeat' first
      | (with_reducible exact ih0 _ _)
      | (with_reducible exact num_Parse.mono _ _)
      | (with_reducible exact LeO.refl _)
      | (with_reducible exact LeO.none _)
      | (with_reducible refine LeO.ite ?_ ?_)
      | (with_reducible refine LeO.bind ?_ (fun _ => ?_))
      | exact ih0 _ _
      | exact num_Parse.mono _ _
      | exact LeO.none _
      | refine LeO.ite ?_ ?_
      | refine LeO.bind ?_ (fun _ => ?_)
theorem lex_WordKind.mono : ∀ a0 k, LeO (lex_WordKind.f k a0) (lex_WordKind.f (k + 1) a0) := by
  intro a0 k
  have ih0 := lex_WordKind.mono_l k
  unfold lex_WordKind.f
  repeat' first
      | (with_reducible exact ih0 _ _)
      | (with_reducible exact num_Parse.mono _ _)
      | (with_reducible exact LeO.refl _)
      | (with_reducible exact LeO.none _)
      | (with_reducible refine LeO.ite ?_ ?_)
      | (with_reducible refine LeO.bind ?_ (fun _ => ?_))
      | exact ih0 _ _
      | exact num_Parse.mono _ _
      | exact LeO.none _
      | refine LeO.ite ?_ ?_
      | refine LeO.bind ?_ (fun _ => ?_)
set_option maxHeartbeats 8000000 in
set_option maxRecDepth 100000 in
theorem lex_WordKind.calls (k : Nat) (a0 : ByteArray) (r : Int) (w : World) (h : lex_WordKind.f k a0 = some r) :
    Calls Try.prog 31 #[.string a0] w fun e w' => e = .returned (.int .u8 r) ∧ Below w.heap.size w w' := by
  have HB := Aside0.mk (Below.refl w.heap.size w)
  have H : ((num_Parse.f k a0).bind fun bt103 => (if bt103.2 = 0 then (some 4) else (if a0.toList = ([43] : List UInt8) then (lex_WordKind.j0 k a0 (a0.toList == ([43] : List UInt8))) else (if a0.toList = ([45] : List UInt8) then (lex_WordKind.j0 k a0 (a0.toList == ([45] : List UInt8))) else (if a0.toList = ([42] : List UInt8) then (lex_WordKind.j0 k a0 (a0.toList == ([42] : List UInt8))) else (if a0.toList = ([47] : List UInt8) then (lex_WordKind.j0 k a0 (a0.toList == ([47] : List UInt8))) else (if a0.toList = ([37] : List UInt8) then (lex_WordKind.j0 k a0 (a0.toList == ([37] : List UInt8))) else (if a0.toList = ([38] : List UInt8) then (lex_WordKind.j0 k a0 (a0.toList == ([38] : List UInt8))) else (if a0.toList = ([124] : List UInt8) then (lex_WordKind.j0 k a0 (a0.toList == ([124] : List UInt8))) else (if a0.toList = ([94] : List UInt8) then (lex_WordKind.j0 k a0 (a0.toList == ([94] : List UInt8))) else (if a0.toList = ([61] : List UInt8) then (lex_WordKind.j0 k a0 (a0.toList == ([61] : List UInt8))) else (lex_WordKind.j0 k a0 (a0.toList == ([60] : List UInt8)))))))))))))) = some r := h
  clear h
  replace H := Option.bind_eq_some_iff.mp H
  obtain ⟨⟨t103, t104⟩, A20, H⟩ := H
  replace H : (if t104 = 0 then (some 4) else (if a0.toList = ([43] : List UInt8) then (lex_WordKind.j0 k a0 (a0.toList == ([43] : List UInt8))) else (if a0.toList = ([45] : List UInt8) then (lex_WordKind.j0 k a0 (a0.toList == ([45] : List UInt8))) else (if a0.toList = ([42] : List UInt8) then (lex_WordKind.j0 k a0 (a0.toList == ([42] : List UInt8))) else (if a0.toList = ([47] : List UInt8) then (lex_WordKind.j0 k a0 (a0.toList == ([47] : List UInt8))) else (if a0.toList = ([37] : List UInt8) then (lex_WordKind.j0 k a0 (a0.toList == ([37] : List UInt8))) else (if a0.toList = ([38] : List UInt8) then (lex_WordKind.j0 k a0 (a0.toList == ([38] : List UInt8))) else (if a0.toList = ([124] : List UInt8) then (lex_WordKind.j0 k a0 (a0.toList == ([124] : List UInt8))) else (if a0.toList = ([94] : List UInt8) then (lex_WordKind.j0 k a0 (a0.toList == ([94] : List UInt8))) else (if a0.toList = ([61] : List UInt8) then (lex_WordKind.j0 k a0 (a0.toList == ([61] : List UInt8))) else (lex_WordKind.j0 k a0 (a0.toList == ([60] : List UInt8))))))))))))) = some r := H
  have A2 := Aside0.mk A20
  clear A20
  by_cases c3 : t104 = 0
  · rw [if_pos c3] at H
    have c3b0 : (t104 == 0) = true := beq_iff_eq.mpr c3
    have c3b1 : (t104 != 0) = false := bne_eq_false_iff_eq.mpr c3
    clear c3
    obtain rfl := Option.some.inj H
    go_enter Try.func31, Try.ntmps31
    go_wp2_with (first | ((with_reducible refine gate_callee (f := 56) rfl ?_); refine goesL_ (some 7) rfl rfl Try.func56 (by kernel_rfl) rfl #[.string a0] rfl (by (try simp only [List.map_toArray, List.map_cons, List.map_nil]); first | done | rfl | (simp only [List.length_drop, List.length_take]; rfl)) ?_; (with_reducible refine (num_Parse.calls k a0 t103 t104 _ A2.out).mono ?_); rintro e w4 ⟨rfl, hb⟩; refine ⟨_, rfl, ?_⟩; have n0_ := Aside0.mk (below_step (by repeat (first | (with_reducible first | exact HB.out | apply below_alloc | apply pw_below_drewN | apply below_drew1) | exact HB.out)) hb); clear HB; have HB := n0_; clear n0_; (try clear hb); (try clear hb2); (try clear hk); (try clear hi)))
    go_ret
    exact ⟨by first | rfl | (simp [errW_none, errW_some] <;> rfl) | (simp [*, errW_none, errW_some] <;> rfl), by repeat (first | (with_reducible first | exact HB.out | apply below_alloc | apply pw_below_drewN | apply below_drew1) | exact HB.out)⟩
  · rw [if_neg c3] at H
    have c3b0 : (t104 == 0) = false := beq_eq_false_iff_ne.mpr c3
    have c3b1 : (t104 != 0) = true := bne_iff_ne.mpr c3
    have HC5 := Aside0.mk H
    clear H
    go_enter Try.func31, Try.ntmps31
    go_upto_if 13 with (first | ((with_reducible refine gate_callee (f := 56) rfl ?_); refine goesL_ (some 7) rfl rfl Try.func56 (by kernel_rfl) rfl #[.string a0] rfl (by (try simp only [List.map_toArray, List.map_cons, List.map_nil]); first | done | rfl | (simp only [List.length_drop, List.length_take]; rfl)) ?_; (with_reducible refine (num_Parse.calls k a0 t103 t104 _ A2.out).mono ?_); rintro e w6 ⟨rfl, hb⟩; refine ⟨_, rfl, ?_⟩; have n0_ := Aside0.mk (below_step (by repeat (first | (with_reducible first | exact HB.out | apply below_alloc | apply pw_below_drewN | apply below_drew1) | exact HB.out)) hb); clear HB; have HB := n0_; clear n0_; (try clear hb); (try clear hb2); (try clear hk); (try clear hi)))
    (try simp only [Act.put, List.setIfInBounds_toArray, List.set_cons_zero, List.set_cons_succ])
    go_cut [13] (fun v13 wc => ∃ (kq : Nat) (x13_4 : Bool), v13 = .bool x13_4 ∧ Aside0 (lex_WordKind.j0 kq a0 x13_4 = some r) ∧ Aside0 (kq ≤ k) ∧ Aside0 (Below w.heap.size w wc))
    case first =>
      have H := HC5.out
      clear HC5
      by_cases c7 : a0.toList = ([43] : List UInt8)
      · rw [if_pos c7] at H
        have c7b0 : (a0.toList == ([43] : List UInt8)) = true := beq_iff_eq.mpr c7
        have c7b1 : (a0.toList != ([43] : List UInt8)) = false := bne_eq_false_iff_eq.mpr c7
        clear c7
        (first | rw [c7b0] | (simp only [i64_w, i32_w]; rw [c7b0]) | skip)
        have H' := Aside0.mk H
        clear H
        go_wp2
        go_meet
        case rel => exact ⟨_, ((a0.toList == ([43] : List UInt8))), (by first | rfl | (simp; done) | (simp [*]; done)), H', ⟨by first | omega | exact Nat.le_refl _⟩, ⟨by repeat (first | (with_reducible first | exact HB.out | apply below_alloc | apply pw_below_drewN | apply below_drew1) | exact HB.out)⟩⟩
      · rw [if_neg c7] at H
        have c7b0 : (a0.toList == ([43] : List UInt8)) = false := beq_eq_false_iff_ne.mpr c7
        have c7b1 : (a0.toList != ([43] : List UInt8)) = true := bne_iff_ne.mpr c7
        (first | rw [c7b0] | (simp only [i64_w, i32_w]; rw [c7b0]) | skip)
        by_cases c8 : a0.toList = ([45] : List UInt8)
        · rw [if_pos c8] at H
          have c8b0 : (a0.toList == ([45] : List UInt8)) = true := beq_iff_eq.mpr c8
          have c8b1 : (a0.toList != ([45] : List UInt8)) = false := bne_eq_false_iff_eq.mpr c8
          clear c8
          have H' := Aside0.mk H
          clear H
          go_wp2
          go_meet
          case rel => exact ⟨_, ((a0.toList == ([45] : List UInt8))), (by first | rfl | (simp; done) | (simp [*]; done)), H', ⟨by first | omega | exact Nat.le_refl _⟩, ⟨by repeat (first | (with_reducible first | exact HB.out | apply below_alloc | apply pw_below_drewN | apply below_drew1) | exact HB.out)⟩⟩
        · rw [if_neg c8] at H
          have c8b0 : (a0.toList == ([45] : List UInt8)) = false := beq_eq_false_iff_ne.mpr c8
          have c8b1 : (a0.toList != ([45] : List UInt8)) = true := bne_iff_ne.mpr c8
          by_cases c9 : a0.toList = ([42] : List UInt8)
          · rw [if_pos c9] at H
            have c9b0 : (a0.toList == ([42] : List UInt8)) = true := beq_iff_eq.mpr c9
            have c9b1 : (a0.toList != ([42] : List UInt8)) = false := bne_eq_false_iff_eq.mpr c9
            clear c9
            have H' := Aside0.mk H
            clear H
            go_wp2
            go_meet
            case rel => exact ⟨_, ((a0.toList == ([42] : List UInt8))), (by first | rfl | (simp; done) | (simp [*]; done)), H', ⟨by first | omega | exact Nat.le_refl _⟩, ⟨by repeat (first | (with_reducible first | exact HB.out | apply below_alloc | apply pw_below_drewN | apply below_drew1) | exact HB.out)⟩⟩
          · rw [if_neg c9] at H
            have c9b0 : (a0.toList == ([42] : List UInt8)) = false := beq_eq_false_iff_ne.mpr c9
            have c9b1 : (a0.toList != ([42] : List UInt8)) = true := bne_iff_ne.mpr c9
            by_cases c10 : a0.toList = ([47] : List UInt8)
            · rw [if_pos c10] at H
              have c10b0 : (a0.toList == ([47] : List UInt8)) = true := beq_iff_eq.mpr c10
              have c10b1 : (a0.toList != ([47] : List UInt8)) = false := bne_eq_false_iff_eq.mpr c10
              clear c10
              have H' := Aside0.mk H
              clear H
              go_wp2
              go_meet
              case rel => exact ⟨_, ((a0.toList == ([47] : List UInt8))), (by first | rfl | (simp; done) | (simp [*]; done)), H', ⟨by first | omega | exact Nat.le_refl _⟩, ⟨by repeat (first | (with_reducible first | exact HB.out | apply below_alloc | apply pw_below_drewN | apply below_drew1) | exact HB.out)⟩⟩
            · rw [if_neg c10] at H
              have c10b0 : (a0.toList == ([47] : List UInt8)) = false := beq_eq_false_iff_ne.mpr c10
              have c10b1 : (a0.toList != ([47] : List UInt8)) = true := bne_iff_ne.mpr c10
              by_cases c11 : a0.toList = ([37] : List UInt8)
              · rw [if_pos c11] at H
                have c11b0 : (a0.toList == ([37] : List UInt8)) = true := beq_iff_eq.mpr c11
                have c11b1 : (a0.toList != ([37] : List UInt8)) = false := bne_eq_false_iff_eq.mpr c11
                clear c11
                have H' := Aside0.mk H
                clear H
                go_wp2
                go_meet
                case rel => exact ⟨_, ((a0.toList == ([37] : List UInt8))), (by first | rfl | (simp; done) | (simp [*]; done)), H', ⟨by first | omega | exact Nat.le_refl _⟩, ⟨by repeat (first | (with_reducible first | exact HB.out | apply below_alloc | apply pw_below_drewN | apply below_drew1) | exact HB.out)⟩⟩
              · rw [if_neg c11] at H
                have c11b0 : (a0.toList == ([37] : List UInt8)) = false := beq_eq_false_iff_ne.mpr c11
                have c11b1 : (a0.toList != ([37] : List UInt8)) = true := bne_iff_ne.mpr c11
                by_cases c12 : a0.toList = ([38] : List UInt8)
                · rw [if_pos c12] at H
                  have c12b0 : (a0.toList == ([38] : List UInt8)) = true := beq_iff_eq.mpr c12
                  have c12b1 : (a0.toList != ([38] : List UInt8)) = false := bne_eq_false_iff_eq.mpr c12
                  clear c12
                  have H' := Aside0.mk H
                  clear H
                  go_wp2
                  go_meet
                  case rel => exact ⟨_, ((a0.toList == ([38] : List UInt8))), (by first | rfl | (simp; done) | (simp [*]; done)), H', ⟨by first | omega | exact Nat.le_refl _⟩, ⟨by repeat (first | (with_reducible first | exact HB.out | apply below_alloc | apply pw_below_drewN | apply below_drew1) | exact HB.out)⟩⟩
                · rw [if_neg c12] at H
                  have c12b0 : (a0.toList == ([38] : List UInt8)) = false := beq_eq_false_iff_ne.mpr c12
                  have c12b1 : (a0.toList != ([38] : List UInt8)) = true := bne_iff_ne.mpr c12
                  by_cases c13 : a0.toList = ([124] : List UInt8)
                  · rw [if_pos c13] at H
                    have c13b0 : (a0.toList == ([124] : List UInt8)) = true := beq_iff_eq.mpr c13
                    have c13b1 : (a0.toList != ([124] : List UInt8)) = false := bne_eq_false_iff_eq.mpr c13
                    clear c13
                    have H' := Aside0.mk H
                    clear H
                    go_wp2
                    go_meet
                    case rel => exact ⟨_, ((a0.toList == ([124] : List UInt8))), (by first | rfl | (simp; done) | (simp [*]; done)), H', ⟨by first | omega | exact Nat.le_refl _⟩, ⟨by repeat (first | (with_reducible first | exact HB.out | apply below_alloc | apply pw_below_drewN | apply below_drew1) | exact HB.out)⟩⟩
                  · rw [if_neg c13] at H
                    have c13b0 : (a0.toList == ([124] : List UInt8)) = false := beq_eq_false_iff_ne.mpr c13
                    have c13b1 : (a0.toList != ([124] : List UInt8)) = true := bne_iff_ne.mpr c13
                    by_cases c14 : a0.toList = ([94] : List UInt8)
                    · rw [if_pos c14] at H
                      have c14b0 : (a0.toList == ([94] : List UInt8)) = true := beq_iff_eq.mpr c14
                      have c14b1 : (a0.toList != ([94] : List UInt8)) = false := bne_eq_false_iff_eq.mpr c14
                      clear c14
                      have H' := Aside0.mk H
                      clear H
                      go_wp2
                      go_meet
                      case rel => exact ⟨_, ((a0.toList == ([94] : List UInt8))), (by first | rfl | (simp; done) | (simp [*]; done)), H', ⟨by first | omega | exact Nat.le_refl _⟩, ⟨by repeat (first | (with_reducible first | exact HB.out | apply below_alloc | apply pw_below_drewN | apply below_drew1) | exact HB.out)⟩⟩
                    · rw [if_neg c14] at H
                      have c14b0 : (a0.toList == ([94] : List UInt8)) = false := beq_eq_false_iff_ne.mpr c14
                      have c14b1 : (a0.toList != ([94] : List UInt8)) = true := bne_iff_ne.mpr c14
                      by_cases c15 : a0.toList = ([61] : List UInt8)
                      · rw [if_pos c15] at H
                        have c15b0 : (a0.toList == ([61] : List UInt8)) = true := beq_iff_eq.mpr c15
                        have c15b1 : (a0.toList != ([61] : List UInt8)) = false := bne_eq_false_iff_eq.mpr c15
                        clear c15
                        have H' := Aside0.mk H
                        clear H
                        go_wp2
                        go_meet
                        case rel => exact ⟨_, ((a0.toList == ([61] : List UInt8))), (by first | rfl | (simp; done) | (simp [*]; done)), H', ⟨by first | omega | exact Nat.le_refl _⟩, ⟨by repeat (first | (with_reducible first | exact HB.out | apply below_alloc | apply pw_below_drewN | apply below_drew1) | exact HB.out)⟩⟩
                      · rw [if_neg c15] at H
                        have c15b0 : (a0.toList == ([61] : List UInt8)) = false := beq_eq_false_iff_ne.mpr c15
                        have c15b1 : (a0.toList != ([61] : List UInt8)) = true := bne_iff_ne.mpr c15
                        have H' := Aside0.mk H
                        clear H
                        go_wp2
                        go_meet
                        case rel => exact ⟨_, ((a0.toList == ([60] : List UInt8))), (by first | rfl | (simp; done) | (simp [*]; done)), H', ⟨by first | omega | exact Nat.le_refl _⟩, ⟨by repeat (first | (with_reducible first | exact HB.out | apply below_alloc | apply pw_below_drewN | apply below_drew1) | exact HB.out)⟩⟩
    case rest =>
      clear HC5
      try clear c1
      try clear p2
      try clear c3
      try clear c3b0
      try clear c3b1
      try clear c5
      try clear c7
      try clear c7b0
      try clear c7b1
      try clear c8
      try clear c8b0
      try clear c8b1
      try clear c9
      try clear c9b0
      try clear c9b1
      try clear c10
      try clear c10b0
      try clear c10b1
      try clear c11
      try clear c11b0
      try clear c11b1
      try clear c12
      try clear c12b0
      try clear c12b1
      try clear c13
      try clear c13b0
      try clear c13b1
      try clear c14
      try clear c14b0
      try clear c14b1
      try clear c15
      try clear c15b0
      try clear c15b1
      obtain ⟨kq, x13_4, rfl, HA, HJ4, HB⟩ := hcut
      cases kq with
      | zero => exact absurd HA.out (by simp [lex_WordKind.j0])
      | succ kj4 =>
        have H := HA.out
        clear HA
        simp only [lex_WordKind.j0] at H
        by_cases c16 : x13_4 = true
        · subst c16
          have H1 : (some 3) = some r := by rw [if_pos rfl] at H; exact H
          clear H
          have H := H1
          clear H1
          obtain rfl := Option.some.inj H
          go_wp2
          go_ret
          exact ⟨by first | rfl | (simp [errW_none, errW_some] <;> rfl) | (simp [*, errW_none, errW_some] <;> rfl), by repeat (first | (with_reducible first | exact HB.out | apply below_alloc | apply pw_below_drewN | apply below_drew1) | exact HB.out)⟩
        · replace c16 := Bool.eq_false_iff.mpr c16
          subst c16
          have H1 : ((lex_named.f a0).bind fun t105 => (if t105 = true then (some 3) else (some 0))) = some r := by rw [if_neg (show ¬ (false = true) by decide)] at H; exact H
          clear H
          have H := H1
          clear H1
          replace H := Option.bind_eq_some_iff.mp H
          obtain ⟨t105, A170, H⟩ := H
          replace H : (if t105 = true then (some 3) else (some 0)) = some r := H
          have A17 := Aside0.mk A170
          clear A170
          by_cases c18 : t105 = true
          · subst c18
            have H1 : (some 3) = some r := by rw [if_pos rfl] at H; exact H
            clear H
            have H := H1
            clear H1
            obtain rfl := Option.some.inj H
            go_wp2_with (first | ((with_reducible refine gate_callee (f := 57) rfl ?_); refine goesL_ (some 25) rfl rfl Try.func57 (by kernel_rfl) rfl #[.string a0] rfl (by (try simp only [List.map_toArray, List.map_cons, List.map_nil]); first | done | rfl | (simp only [List.length_drop, List.length_take]; rfl)) ?_; (with_reducible refine (lex_named.calls a0 true _ A17.out).mono ?_); rintro e w19 ⟨rfl, hb⟩; refine ⟨_, rfl, ?_⟩; have n0_ := Aside0.mk (below_step (by repeat (first | (with_reducible first | exact HB.out | apply below_alloc | apply pw_below_drewN | apply below_drew1) | exact HB.out)) hb); clear HB; have HB := n0_; clear n0_; (try clear hb); (try clear hb2); (try clear hk); (try clear hi)))
            go_ret
            exact ⟨by first | rfl | (simp [errW_none, errW_some] <;> rfl) | (simp [*, errW_none, errW_some] <;> rfl), by repeat (first | (with_reducible first | exact HB.out | apply below_alloc | apply pw_below_drewN | apply below_drew1) | exact HB.out)⟩
          · replace c18 := Bool.eq_false_iff.mpr c18
            subst c18
            have H1 : (some 0) = some r := by rw [if_neg (show ¬ (false = true) by decide)] at H; exact H
            clear H
            have H := H1
            clear H1
            obtain rfl := Option.some.inj H
            go_wp2_with (first | ((with_reducible refine gate_callee (f := 57) rfl ?_); refine goesL_ (some 25) rfl rfl Try.func57 (by kernel_rfl) rfl #[.string a0] rfl (by (try simp only [List.map_toArray, List.map_cons, List.map_nil]); first | done | rfl | (simp only [List.length_drop, List.length_take]; rfl)) ?_; (with_reducible refine (lex_named.calls a0 false _ A17.out).mono ?_); rintro e w20 ⟨rfl, hb⟩; refine ⟨_, rfl, ?_⟩; have n0_ := Aside0.mk (below_step (by repeat (first | (with_reducible first | exact HB.out | apply below_alloc | apply pw_below_drewN | apply below_drew1) | exact HB.out)) hb); clear HB; have HB := n0_; clear n0_; (try clear hb); (try clear hb2); (try clear hk); (try clear hi)))
            go_ret
            exact ⟨by first | rfl | (simp [errW_none, errW_some] <;> rfl) | (simp [*, errW_none, errW_some] <;> rfl), by repeat (first | (with_reducible first | exact HB.out | apply below_alloc | apply pw_below_drewN | apply below_drew1) | exact HB.out)⟩

-- NOT PRINTED: function 52 (lex_token)

end Go.Proofs.Ytiojfdgagdofiaa.HB
