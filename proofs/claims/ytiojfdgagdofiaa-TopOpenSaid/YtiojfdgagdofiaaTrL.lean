/-
TopOpen's plain part: what the texts with a bracket too many are read as; a row of tokens in memory, out of the form that the lexer's contract has.
-/
import Derived.Test.YtiojfdgagdofiaaTrK
set_option linter.unusedVariables false
set_option linter.unusedSimpArgs false
namespace Go.Proofs.Ytiojfdgagdofiaa.HP
open Go.RowKit Go.Proofs.Ytiojfdgagdofiaa.HB Go.Proofs.Ytiojfdgagdofiaa.HK Go.Proofs.YtiojfdgagdofiaaW.PrintWords Go.Proofs.YtiojfdgagdofiaaW.PrintLast Go.Proofs.YtiojfdgagdofiaaW.PrintMore
def unitT : ByteArray := ⟨#[40, 98, 32, 49, 41, 32]⟩
def rep : Nat → ByteArray
  | 0 => ⟨#[]⟩
  | n + 1 => rep n ++ unitT
theorem rep_size : ∀ n, (rep n).size = 6 * n
  | 0 => rfl
  | n + 1 => by rw [rep, ByteArray.size_append, rep_size n]; show 6 * n + 6 = _; omega
/-- A text with one more sign. -/
def moreT (b : UInt8) (n k : Nat) : ByteArray := ((rep n).extract 0 (6 * k) ++ ⟨#[b]⟩) ++ (rep n).extract (6 * k) (rep n).size
def badAt (s : ByteArray) (p : Int) : Bool :=
  match tokensOf (codes s) with
  | (ts, _, e) => decide (e = 0) && decide (ts.length ≤ 1000000) && match parseP ts with
    | .error (a, why) => decide (a = p) && decide (why = 8)
    | .ok _ => false
theorem more_bad : ∀ n, n < 11 → ∀ k, k < n → badAt (moreT 40 n k) ((6 * k : Nat) : Int) = true ∧ badAt (moreT 41 n k) ((6 * k : Nat) : Int) = true := by decide +kernel
theorem bad_is {s : ByteArray} {p : Int} (h : badAt s p = true) : ∃ ts q, lex_Tokens.f s = some (ts, q, 0) ∧ ts.length ≤ 1000000 ∧ parseP ts = .error (p, 8) := by
  unfold badAt at h
  unfold lex_Tokens.f
  rcases htok : tokensOf (codes s) with ⟨ts, q, e⟩
  rw [htok] at h
  simp only [Bool.and_eq_true, decide_eq_true_eq] at h
  obtain ⟨⟨rfl, h1⟩, h2⟩ := h
  refine ⟨ts, q, rfl, h1, ?_⟩
  cases hp : parseP ts with
  | ok x => rw [hp] at h2; cases h2
  | error x =>
    obtain ⟨a, why⟩ := x
    rw [hp] at h2
    simp only [Bool.and_eq_true, decide_eq_true_eq] at h2
    rw [h2.1, h2.2]
theorem TRow_of_R {w : World} {base : Nat} {v : Value} {ts : List S37} (h : Kd.R k37 37 w base (fun _ => True) v ts) : ∃ A c, v = .slice A ts.length c ∧ TRow w A ts := by
  obtain ⟨_, cs, ho, hl, hc⟩ := h
  have ho' : w.ownsRow base 37 4 v ts.length cs := ho
  have hl' : cs.length = ts.length * 4 := hl
  rcases ho'.2 with ⟨rfl, h0⟩ | ⟨g, cap, cur, rfl, _, hg, _⟩
  · refine ⟨none, 0, by rw [h0], fun j T hj => ?_⟩
    have := (List.getElem?_eq_some_iff.1 hj).1
    omega
  · refine ⟨some ⟨g, 0, none⟩, cap, rfl, fun j T hj => ⟨g, 0, rfl, own_lt ho' g rfl, ?_⟩⟩
    have hlt := (List.getElem?_eq_some_iff.1 hj).1
    have hk := k37_openM (hc j T hj)
    have hk' : (cs.drop (j * 4)).take 4 = [.int .u8 T.f0, .string T.f1, .int .i64 T.f2, .int .i64 T.f3] := hk
    have hat : ∀ c, c < 4 → w.cell? ⟨g, j * 4 + c, none⟩ = ([.int .u8 T.f0, .string T.f1, .int .i64 T.f2, .int .i64 T.f3] : List Value)[c]? := by
      intro c hc4
      rw [ho'.cellAt (j * 4 + c) (by omega), ← hk', List.getElem?_take, if_pos hc4, List.getElem?_drop]
    rw [Nat.zero_add]
    exact ⟨hat 0 (by decide), hat 1 (by decide), hat 2 (by decide), hat 3 (by decide)⟩
theorem TRow.nil (w : World) : TRow w none [] := fun j T hj => by simp at hj
end Go.Proofs.Ytiojfdgagdofiaa.HP
