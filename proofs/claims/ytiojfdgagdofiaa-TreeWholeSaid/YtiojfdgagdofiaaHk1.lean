/-
Contracts over the translation: which words are names; and the library's IndexByte, Count of one byte, LastIndexByte.
-/
import Derived.Test.YtiojfdgagdofiaaPre
import Derived.Test.YtiojfdgagdofiaaLexA
import Derived.Test.YtiojfdgagdofiaaShelf
import Derived.Laws.RangeAny
set_option linter.unusedVariables false
set_option linter.unusedSimpArgs false
namespace Go.Proofs.Ytiojfdgagdofiaa.HK
open Go.RowKit Go.Proofs.YtiojfdgagdofiaaW.PrintWords Go.Proofs.YtiojfdgagdofiaaW.PrintLast Go.Proofs.YtiojfdgagdofiaaW.PrintMore

def strings_IndexByte.f (s : ByteArray) (c : Int) : Option Int := some (Lib.indexByte s.data.toList c.toNat.toUInt8)
theorem strings_IndexByte.calls (s : ByteArray) (c : Int) (r : Int) (w : World) (h : strings_IndexByte.f s c = some r) :
    Calls Try.prog 73 #[.string s, .int .u8 c] w fun e w' => e = .returned (.int .i64 r) ∧ Drawn0 w w' := by
  obtain rfl := Option.some.inj h
  refine (Try.strings_IndexByte s c w).mono ?_
  rintro e w' ⟨rfl, rfl⟩
  exact ⟨rfl, Drawn0.refl _⟩
def strings_Count.f (s sub : ByteArray) : Option Int := if h : sub.data.size = 1 then some (Lib.countByte s.data.toList sub.data[0]) else none
theorem strings_Count.calls (s sub : ByteArray) (r : Int) (w : World) (h : strings_Count.f s sub = some r) :
    Calls Try.prog 54 #[.string s, .string sub] w fun e w' => e = .returned (.int .i64 r) ∧ Drawn0 w w' := by
  unfold strings_Count.f at h
  split at h
  case isFalse => cases h
  case isTrue h1 =>
    obtain rfl := Option.some.inj h
    have e : sub = ⟨#[sub.data[0]]⟩ := by
      apply ByteArray.ext
      apply Array.ext
      · simpa using h1
      · intro i hi hj
        have : i = 0 := by omega
        subst this
        rfl
    have hc := Try.strings_Count_one s sub.data[0] w
    rw [← e] at hc
    refine hc.mono ?_
    rintro e w' ⟨rfl, rfl⟩
    exact ⟨rfl, Drawn0.refl _⟩
def strings_LastIndexByte.f (s : ByteArray) (c : Int) : Option Int := if s.size < 4611686018427387904 then some (Lib.lastIndexByte s c) else none
theorem strings_LastIndexByte.calls (s : ByteArray) (c : Int) (r : Int) (w : World) (h : strings_LastIndexByte.f s c = some r) :
    Calls Try.prog 55 #[.string s, .int .u8 c] w fun e w' => e = .returned (.int .i64 r) ∧ Drawn0 w w' := by
  unfold strings_LastIndexByte.f at h
  split at h
  case isFalse => cases h
  case isTrue h1 =>
    obtain rfl := Option.some.inj h
    refine (Try.strings_LastIndexByte s c h1 w).mono ?_
    rintro e w' ⟨rfl, rfl⟩
    exact ⟨rfl, Drawn0.refl _⟩

theorem ret_bool {a b : Bool} (h : a = b) : Ending.returned (.bool a) = Ending.returned (.bool b) := by rw [h]
/-! ### names -/
theorem rune_at (s : ByteArray) (pos : Nat) (h : pos < s.size) : ∃ (c : Int) (p : Nat), Utf8.decode s pos = (c.toNat, p) ∧ 0 ≤ c ∧ c ≤ 2147483647 ∧ pos < pos + p ∧ ((c = (codes s).getD pos 0 ∧ p = 1) ∨ (128 ≤ c ∧ 128 ≤ (codes s).getD pos 0)) := by
  have hb : (codes s).getD pos 0 = ((s[pos]'h).toNat : Int) := by
    have := bt_codes s (pos : Int)
    rw [Int.toNat_natCast] at this
    rw [← this]
    unfold bt
    rw [dif_pos (by simpa using h)]
    rfl
  have hle := decode_le s pos
  by_cases ha : (s[pos]'h).toNat < 128
  · have hd := decode_ascii s pos h ha
    refine ⟨((s[pos]'h).toNat : Int), 1, by rw [hd]; simp, by omega, by omega, by omega, .inl ⟨hb.symm, rfl⟩⟩
  · have hd := decode_high s pos h (by omega)
    refine ⟨((Utf8.decode s pos).1 : Int), (Utf8.decode s pos).2, by simp, by omega, by omega, by omega, .inr ⟨by omega, by rw [hb]; omega⟩⟩
theorem okAt_char {l : List Int} {pos : Nat} {c : Int} (h : c = l.getD pos 0 ∨ (128 ≤ c ∧ 128 ≤ l.getD pos 0)) : okAt l pos = (letterB c || (digitB c && decide (0 < pos))) := by
  unfold okAt
  rcases h with h | ⟨h1, h2⟩
  · rw [h]
  · have e1 : letterB c = false := by unfold letterB; simp; omega
    have e2 : digitB c = false := by unfold digitB; simp; omega
    have e3 : letterB (l.getD pos 0) = false := by unfold letterB; rw [decide_eq_false (show ¬ l.getD pos 0 ≤ 122 by omega), Bool.and_false]
    have e4 : digitB (l.getD pos 0) = false := by unfold digitB; rw [decide_eq_false (show ¬ l.getD pos 0 ≤ 57 by omega), Bool.and_false]
    rw [e1, e2, e3, e4]
theorem named_not {l : List Int} {pos : Nat} (hp : pos < l.length) (h : okAt l pos = false) : namedOf l = false := by
  unfold namedOf
  have : (List.range l.length).all (okAt l) = false := by
    rw [List.all_eq_false]
    exact ⟨pos, by simpa using hp, by simp [h]⟩
  rw [this, Bool.and_false]
theorem named_all {l : List Int} (h : ∀ j, j < l.length → okAt l j = true) : namedOf l = (decide (1 ≤ l.length) && decide (l.length ≤ 8)) := by
  unfold namedOf
  have : (List.range l.length).all (okAt l) = true := by
    rw [List.all_eq_true]
    intro j hj
    exact h j (by simpa using hj)
  rw [this, Bool.and_true]
theorem below_iter (w : World) (s : ByteArray) (pos : Nat) : Below w.heap.size w (w.iter s pos) := (Below.refl _ w).alloc (Nat.le_refl _) _
set_option maxHeartbeats 2000000 in
set_option maxRecDepth 100000 in
theorem named_calls (s : ByteArray) (w : World) (hs : s.size ≤ 9223372036854775807) :
    Calls Try.prog 57 #[.string s] w fun e w' => e = .returned (.bool (namedOf (codes s))) ∧ Below w.heap.size w w' := by
  have HL := Lib.hid (codes_length s)
  go_enter Try.func57, Try.ntmps57
  go_wp2
  go_loopw [3] (fun _ wr => ∃ pos : Nat, pos ≤ s.size ∧ wr = w.iter s pos ∧ Hid (∀ j, j < pos → okAt (codes s) j = true)) (fun _ wr => s.size - wr.iterPos w.heap.size)
  case atStart => exact ⟨0, Nat.zero_le _, rfl, fun j hj => absurd hj (Nat.not_lt_zero _)⟩
  case round =>
    obtain ⟨pos, hps, rfl, hok⟩ := hrel
    by_cases hp : pos < s.size
    · obtain ⟨c, p, hdec, hc0, hc1, hpp, hch⟩ := rune_at s pos hp
      have hnx : ∀ ty, (Instr.next (.pointer (some ⟨w.heap.size, 0, none⟩)) true ty).run Try.prog (w.iter s pos) = .ok (.tuple #[.bool true, .int .i64 pos, .int .i32 c]) (w.iter s (pos + p)) := by
        intro ty
        rw [run_next_any w s pos ty hp, hdec]
        simp only [Int.toNat_of_nonneg hc0]
      have hat := Lib.hid (okAt_char (l := codes s) (pos := pos) (c := c) (by rcases hch with h | h; exact .inl h.1; exact .inr h))
      clear hdec
      have hcase : (97 ≤ c ∧ c ≤ 122) ∨ ((48 ≤ c ∧ c ≤ 57) ∧ 0 < pos) ∨ ((48 ≤ c ∧ c ≤ 57) ∧ pos = 0) ∨ c < 48 ∨ (57 < c ∧ c < 97) ∨ 122 < c := by omega
      rcases hcase with ⟨hA1, hA2⟩ | ⟨⟨hA1, hA2⟩, hA3⟩ | ⟨⟨hA1, hA2⟩, rfl⟩ | hA1 | ⟨hA1, hA2⟩ | hA1
      · have hat' : Hid (okAt (codes s) pos = true) := by
          show _ = _
          rw [hat.out]; unfold letterB digitB; simp; omega
        go_wp2
        go_roundw
        case measure => simp; omega
        case rel =>
          have hp1 : p = 1 := by rcases hch with ⟨_, h⟩ | ⟨h, _⟩ <;> omega
          refine ⟨pos + p, by omega, rfl, fun j hj => ?_⟩
          by_cases hj2 : j < pos
          · exact hok.out j hj2
          · obtain rfl : j = pos := by omega
            exact hat'.out
      · have hat' : Hid (okAt (codes s) pos = true) := by
          show _ = _
          rw [hat.out]; unfold letterB digitB; simp; omega
        go_wp2
        go_roundw
        case measure => simp; omega
        case rel =>
          have hp1 : p = 1 := by rcases hch with ⟨_, h⟩ | ⟨h, _⟩ <;> omega
          refine ⟨pos + p, by omega, rfl, fun j hj => ?_⟩
          by_cases hj2 : j < pos
          · exact hok.out j hj2
          · obtain rfl : j = pos := by omega
            exact hat'.out
      · have hat' : Hid (namedOf (codes s) = false) := by
          refine named_not (pos := 0) (by rw [HL.out]; exact hp) ?_
          rw [hat.out]; unfold letterB digitB; simp; omega
        go_wp2
        go_ret
        exact ⟨ret_bool hat'.out.symm, below_iter _ _ _⟩
      · have hat' : Hid (namedOf (codes s) = false) := by
          refine named_not (pos := pos) (by rw [HL.out]; exact hp) ?_
          rw [hat.out]; unfold letterB digitB; simp; omega
        go_wp2
        go_ret
        exact ⟨ret_bool hat'.out.symm, below_iter _ _ _⟩
      · have hat' : Hid (namedOf (codes s) = false) := by
          refine named_not (pos := pos) (by rw [HL.out]; exact hp) ?_
          rw [hat.out]; unfold letterB digitB; simp; omega
        go_wp2
        go_ret
        exact ⟨ret_bool hat'.out.symm, below_iter _ _ _⟩
      · have hat' : Hid (namedOf (codes s) = false) := by
          refine named_not (pos := pos) (by rw [HL.out]; exact hp) ?_
          rw [hat.out]; unfold letterB digitB; simp; omega
        have d1 : decide (c ≤ 122) = false := by simp; omega
        have d2 : decide (c ≤ 57) = false := by simp; omega
        have d3 : 97 ≤ c := by omega
        have d4 : 48 ≤ c := by omega
        go_wp2
        go_ret
        exact ⟨ret_bool hat'.out.symm, below_iter _ _ _⟩
    · have hnx : ∀ ty, (Instr.next (.pointer (some ⟨w.heap.size, 0, none⟩)) true ty).run Try.prog (w.iter s pos) = .ok (.tuple #[.bool false]) (w.iter s pos) := fun ty => run_next_end w s pos ty hp
      have hall := Lib.hid (named_all (l := codes s) (fun j hj => hok.out j (by rw [HL.out] at hj; omega)))
      rw [HL.out] at hall
      by_cases h0 : s.size = 0
      · have hf : Hid (namedOf (codes s) = false) := hall.out.trans (by rw [h0]; rfl)
        have he : s.toList = [] := by rw [ByteArray.toList_eq]; exact List.eq_nil_of_length_eq_zero (by simpa using h0)
        clear hall h0
        go_wp2
        go_ret
        exact ⟨ret_bool hf.out.symm, below_iter _ _ _⟩
      · have he : s.toList.isEmpty = false := by
          rw [ByteArray.toList_eq, List.isEmpty_eq_false_iff]
          intro h
          exact h0 (by have := congrArg List.length h; simpa using this)
        have he2 : (!s.toList.isEmpty) = true := by rw [he]; rfl
        by_cases h8 : s.size ≤ 8
        · have hf : Hid (namedOf (codes s) = true) := hall.out.trans (by simp; omega)
          have h9 : decide ((s.size : Int) ≤ 8) = true := by simp; omega
          clear hall h0
          go_wp2
          all_goals (go_ret; exact ⟨ret_bool hf.out.symm, below_iter _ _ _⟩)
        · have hf : Hid (namedOf (codes s) = false) := hall.out.trans (by simp; omega)
          have h9 : decide ((s.size : Int) ≤ 8) = false := by simp; omega
          clear hall h0
          go_wp2
          all_goals (go_ret; exact ⟨ret_bool hf.out.symm, below_iter _ _ _⟩)
def lex_named.f (s : ByteArray) : Option Bool := if s.size ≤ 9223372036854775807 then some (namedOf (codes s)) else none
theorem lex_named.calls (s : ByteArray) (r : Bool) (w : World) (h : lex_named.f s = some r) :
    Calls Try.prog 57 #[.string s] w fun e w' => e = .returned (.bool r) ∧ Below w.heap.size w w' := by
  unfold lex_named.f at h
  split at h
  case isFalse => cases h
  case isTrue h1 =>
    obtain rfl := Option.some.inj h
    exact named_calls s w h1
end Go.Proofs.Ytiojfdgagdofiaa.HK
