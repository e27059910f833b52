/-
TreeWhole: a form that is alone is right, as large as it was; both lists together are right, and as large as both.
For every two tokens, and a place.
-/
import Derived.Test.YtiojfdgagdofiaaRows
import Derived.Test.YtiojfdgagdofiaaP9
import Derived.Test.YtiojfdgagdofiaaP4
import Derived.WalkKit
import Derived.ProofKit
import Derived.OpenShut
import Derived.ShutString
import Derived.ChangeOld
import Derived.Below
import Derived.SizedLaws
set_option linter.unusedVariables false
set_option linter.unusedSimpArgs false
namespace Go.Proofs.Ytiojfdgagdofiaa.treeWhole
open Go.ChangeShapes Go.WideShapes Go.ChangeAt Go.RowKit
open Go.ChangeMaps (open_string shut_string)
theorem own : ownKnob Try.prog.godebug = none := by kernel_rfl
theorem laidOut : laidOutB Try.prog = true := by kernel_rfl
set_option maxRecDepth 100000 in
theorem lifted (os : Os) (started : os.Started) (H : Type) (enc : TypeId × Value → H) :
    ReturnsInHanded {} Try.checked os 10 .any (Rows.treeWholeSpec.pre6 enc Try.prog Try.f10 Rows.treeWholeRow.domain false) (Rows.treeWholeSpec.post enc Try.prog Try.f10 false true false false) := by
  refine returnsInHanded_of_change_sized (C := Try.checked) own started (by kernel_rfl) Try.func10
    (ChangeSpec.witness6 (enc := enc) (C := Try.checked) false ⟨#[], #[.slice none 0 0, .slice none 0 0, .int .u8 0], []⟩ 8 (by kernel_rfl) (by kernel_rfl) (by kernel_rfl) (by kernel_rfl)) ?_
  intro W base args ds gs before hval0 hW hcnd hsz0 _
  have hval : ∀ (j : Nat) t v, Try.f10.params[j]? = some t → args[j]? = some v → Value.okWide Try.prog W .any base t v := hval0
  have hW' := hW
  obtain ⟨p, q, hA0, hV, rfl, hfz, hnd⟩ := hW
  have hA : DataW.TrodAll enc Try.prog W 0 (fun _ => true) true Try.f10.params.toList args.toList ds p := hA0
  rw [Try.params10] at hA hval
  obtain ⟨v0, vs0, d0, ds0, p0, q0, hargs, rfl, rfl, h0, r0⟩ := trodAll_cons hA
  obtain ⟨v1, vs1, d1, ds1, p1, q1, rfl, rfl, rfl, h1, r1⟩ := trodAll_cons r0
  obtain ⟨v2, vs2, d2, ds2, p2, q2, rfl, rfl, rfl, h2, r2⟩ := trodAll_cons r1
  obtain ⟨rfl, rfl, rfl⟩ := trodAll_nil r2
  obtain rfl : args = #[v0, v1, v2] := by cases args; simp_all
  obtain ⟨rfl, rfl⟩ := trodVars_none hV
  obtain ⟨a0, len0, cap0, rfl⟩ := okWide_slice Try.underlying22 (hval 0 22 v0 rfl rfl)
  have lt0 : ∀ x ∈ p0, x.block < W.heap.size := by obtain ⟨m, hm⟩ := h0; exact DataW.trod_lt m _ _ _ hm
  obtain ⟨a1, len1, cap1, rfl⟩ := okWide_slice Try.underlying22 (hval 1 22 v1 rfl rfl)
  have lt1 : ∀ x ∈ p1, x.block < W.heap.size := by obtain ⟨m, hm⟩ := h1; exact DataW.trod_lt m _ _ _ hm
  obtain ⟨a2, rfl, rfl, rfl, w2⟩ := open_int Try.underlying5 (hval 2 5 v2 rfl rfl) h2
  have hz0 : ∀ k ∈ DataW.weights Try.prog 22 d0, k ≤ 140737488351232 := fun k hk => by
    have := List.all_eq_true.1 hsz0 k (DataW.weights_mem_each (j := 0) (t := 22) (d := d0) rfl rfl k hk)
    exact of_decide_eq_true this
  have hz1 : ∀ k ∈ DataW.weights Try.prog 22 d1, k ≤ 140737488351232 := fun k hk => by
    have := List.all_eq_true.1 hsz0 k (DataW.weights_mem_each (j := 1) (t := 22) (d := d1) rfl rfl k hk)
    exact of_decide_eq_true this
  clear hA0 hval0 hsz0
  obtain ⟨ts, rfl, hcap, hT, htx⟩ := HP.arg_tokens_sized h0 lt0 hz0
  obtain ⟨us, rfl, hcap1, hU, hux⟩ := HP.arg_tokens_sized h1 lt1 hz1
  have rr2 : 0 ≤ a2 ∧ a2 ≤ 255 := by simpa [Lit.wf, IntKind.min, IntKind.max, IntKind.bits, IntKind.signed] using w2
  obtain ⟨k2, rfl, hk2⟩ : ∃ k2 : Nat, a2 = (k2 : Int) ∧ k2 < 256 := ⟨a2.toNat, by omega, by omega⟩
  refine (HP.whole_walk W a0 a1 cap0 cap1 ts us k2 hk2 hT hU hcap hcap1 htx hux).mono fun e W' ⟨he, bel⟩ => ?_
  subst he
  exact ⟨_, rfl, _, _, _, [], _, [], hW', trodAll_mk1 (shut_bool Try.underlying4 _), (trodAll_cons_mk (Below.trod laidOut (by kernel_rfl) (of_decide_eq_true (by kernel_rfl)) h0 bel lt0) (trodAll_cons_mk (Below.trod laidOut (by kernel_rfl) (of_decide_eq_true (by kernel_rfl)) h1 bel lt1) (trodAll_cons_mk (shut_int Try.underlying5 w2) trodAll_mk0))), rfl, bel.frame _, fun h => by cases h⟩
theorem over : Rows.treeWholeRow.holds Try.pinned (OpenSpec.ofChange Rows.treeWholeSpec) :=
  OpenClaim.holds_of_wide 10 Try.f10 rfl rfl rfl rfl rfl rfl rfl ⟨rfl, rfl, rfl, rfl, rfl⟩ rfl rfl rfl rfl rfl (by kernel_rfl) Try.func10 (by kernel_rfl)
    (of_decide_eq_true (by kernel_rfl)) (by unfold Func.isWrapper; first | (rw [if_pos (by decide +kernel)]; kernel_rfl) | (rw [if_neg (by decide +kernel)]; exact ⟨rfl, rfl⟩))
    (fun os started H enc _ => lifted os started H enc)
theorem proved : Rows.TreeWholeSaid := over
#print axioms proved
end Go.Proofs.Ytiojfdgagdofiaa.treeWhole
namespace Go.Proofs.Ytiojfdgagdofiaa
/-- The row, under a short name, for the claim. -/
theorem treeWhole_holds : Rows.TreeWholeSaid := treeWhole.proved
end Go.Proofs.Ytiojfdgagdofiaa
