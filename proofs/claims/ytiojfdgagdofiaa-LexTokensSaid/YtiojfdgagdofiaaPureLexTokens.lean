/-
LexTokens: a text's tokens, or the error, and where, are the document's. For every text: the plain law, without program and memory.
-/
import Derived.Test.YtiojfdgagdofiaaLexG
set_option linter.unusedVariables false
set_option linter.unusedSimpArgs false
namespace Go.Proofs.Ytiojfdgagdofiaa.Pure
open Go.RowKit Go.Proofs.Ytiojfdgagdofiaa.HB Go.Proofs.Ytiojfdgagdofiaa.HK Go.Proofs.YtiojfdgagdofiaaW.PrintWords Go.Proofs.YtiojfdgagdofiaaW.PrintLast

theorem LexTokens : reticulelaw06_LexTokens.Pure := by
  intro s hs
  obtain ⟨t, ht, ht2⟩ := short_is s
  obtain ⟨k, hk⟩ := (same_ev (tokensOf (codes t)).1 (by have := tokensOf_few (codes t); omega)).rounds
  refine ⟨k, ?_⟩
  unfold reticulelaw06_LexTokens.f
  rw [ht, live_true]
  simp only [Option.bind_some, lex_Tokens.f, reticuleref06_Tokens.f, hk, if_true]
  simp
end Go.Proofs.Ytiojfdgagdofiaa.Pure
