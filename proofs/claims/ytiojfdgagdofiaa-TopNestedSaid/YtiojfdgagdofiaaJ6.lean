/-
Texts joined: UaA, UaB, UaC, UaD, UaE, UaF.
-/
import Derived.Test.YtiojfdgagdofiaaJ5
import Derived.Test.YtiojfdgagdofiaaShelfB
import Derived.Lib.Builder
import Derived.Lib.AppendStr
import Derived.StillTailTactics
import Derived.Test.YtiojfdgagdofiaaJ4
/-
A text's builder over the translation: what its writers do, and what they leave as it was.
-/
set_option linter.unusedVariables false
set_option linter.unusedSimpArgs false
namespace Go.Proofs.Ytiojfdgagdofiaa.HP
open Go.RowKit Go.Proofs.Ytiojfdgagdofiaa.HB Go.Proofs.Ytiojfdgagdofiaa.HK Go.Proofs.YtiojfdgagdofiaaW.PrintWords Go.Proofs.YtiojfdgagdofiaaW.PrintLast Go.Proofs.YtiojfdgagdofiaaW.PrintMore
/-- All that is neither the builder's block nor a row of bytes is as it was. -/
structure KeptB (n₀ b : Nat) (W W' : World) : Prop where
  block : ∀ (k : Nat) (o : Obj), W.heap[k]? = some o → k ≠ b → (∀ cs fr, o ≠ .cells cs 5 fr) → W'.heap[k]? = some o
  below : Below n₀ W W'
theorem KeptB.refl (n₀ b : Nat) (W : World) : KeptB n₀ b W W := ⟨fun _ _ h _ _ => h, Below.refl _ _⟩
theorem KeptB.trans {n₀ b : Nat} {A B C : World} (h : KeptB n₀ b A B) (k : KeptB n₀ b B C) : KeptB n₀ b A C :=
  ⟨fun j o hj hb ho => k.block j o (h.block j o hj hb ho) hb ho, h.below.trans k.below⟩
/-- A builder at block b that holds the bytes l. -/
def IsBd (n₀ b : Nat) (W : World) (l : List UInt8) : Prop :=
  n₀ ≤ b ∧ ∃ p v, (p = .pointer none ∨ p = .pointer (some ⟨b, 0, none⟩)) ∧ W.heap[b]? = some (.cells #[p, v] 100 (0, 0)) ∧ W.ownsRow n₀ 5 1 v l.length (Lib.byteCells l)
theorem IsBd.new (W : World) : IsBd W.heap.size W.heap.size (W.alloc (.cells #[.pointer none, .slice none 0 0] 100)) [] :=
  ⟨Nat.le_refl _, _, _, .inl rfl, blk_new W _, own_nil _ _ _ _⟩
theorem IsBd.lt {n₀ b : Nat} {W : World} {l : List UInt8} (h : IsBd n₀ b W l) : b < W.heap.size := by
  obtain ⟨_, p, v, _, hb, _⟩ := h
  exact blk_lt hb
theorem IsBd.alloc {n₀ b : Nat} {W : World} {l : List UInt8} (h : IsBd n₀ b W l) (o : Obj) : IsBd n₀ b (W.alloc o) l := by
  obtain ⟨h0, p, v, hp, hb, hr⟩ := h
  exact ⟨h0, p, v, hp, blk_alloc hb o, own_move hr (fun k hk => Below.heap_alloc W o k (own_lt hr k hk))⟩
theorem IsBd.setCell {n₀ b g : Nat} {W : World} {l : List UInt8} (h : IsBd n₀ b W l) {cs : Array Value} {t : TypeId} (hg : W.heap[g]? = some (.cells cs t (0, 0))) (hne : b ≠ g) (ht : t ≠ 5) (j : Nat) (u : Value) : IsBd n₀ b (W.setCell ⟨g, j, none⟩ u) l := by
  obtain ⟨h0, p, v, hp, hb, hr⟩ := h
  exact ⟨h0, p, v, hp, blk_far hb hne u, own_setCell hr (own_ne hr hg ht.symm) u⟩
theorem IsBd.is {n₀ b : Nat} {W : World} {l : List UInt8} (h : IsBd n₀ b W l) : Lib.IsBuilder 100 5 n₀ b (Lib.byteCells l) W := by
  obtain ⟨h0, p, v, hp, hb, hr⟩ := h
  have hr' : W.ownsRow n₀ 5 1 v (Lib.byteCells l).length (Lib.byteCells l) := by rw [Lib.byteCells_length]; exact hr
  have hne : v.ownBlock ≠ some b := fun e => own_ne hr hb (by decide) e.symm
  rcases hp with rfl | rfl
  · exact .inl ⟨h0, v, hb, hr', hne⟩
  · exact .inr ⟨h0, v, hb, hr', hne⟩
set_option maxHeartbeats 4000000 in
set_option maxRecDepth 100000 in
theorem copyCheck_calls (n₀ b : Nat) (W : World) (l : List UInt8) (h : IsBd n₀ b W l) :
    Calls Try.prog 86 #[.pointer (some ⟨b, 0, none⟩)] W fun e W' => e = .returned (.tuple #[]) ∧ (∃ v, W'.heap[b]? = some (.cells #[.pointer (some ⟨b, 0, none⟩), v] 100 (0, 0)) ∧ W'.ownsRow n₀ 5 1 v l.length (Lib.byteCells l)) ∧ KeptB n₀ b W W' := by
  obtain ⟨h0, p, v, hp, hb, hr⟩ := h
  have hjj : (Try.prog.info? 100).map (·.size) = some 2 := by kernel_rfl
  obtain ⟨j, hj, hjs⟩ := Option.map_eq_some_iff.1 hjj
  have c0 : W.cell? ⟨b, 0, none⟩ = some p := by rw [blk_cell hb]; rfl
  have f0 : W.frozen? ⟨b, 0, none⟩ = false := blk_frozen hb 0
  have hsh : W.shape? b = some (100, 2) := by simp [World.shape?, hb]
  have HB := Lib.hid hb
  have HR := Lib.hid hr
  clear hb hr
  rcases hp with rfl | rfl
  · go_enter Try.func86, Try.ntmps86
    go_wp2
    rw [Lib.run_to_unsafe W ⟨b, 0, none⟩ Try.underlying98 Try.underlying125 hj (by rw [hjs]; decide) hsh (Nat.zero_lt_succ 1)]
    simp only [Result.andThen]
    rw [Oper.upon_value]
    go_wp2
    rw [run_callFunc_extern Try.func90 (by kernel_rfl) (by kernel_rfl) (by kernel_rfl) (e := Extern.AbiNoEscape.same) (by kernel_rfl)]
    rw [Lib.run_noEscape]
    simp only [Result.andThen]
    rw [Oper.upon_value]
    go_wp2
    rw [Lib.run_from_unsafe W ⟨b, 0, none⟩ Try.underlying125 Try.underlying98 hj hsh (by kernel_rfl)]
    simp only [Result.andThen]
    rw [Oper.upon_value]
    go_wp2
    go_end0
    refine ⟨rfl, ⟨v, blk_set HB.out 0 _, own_setCell HR.out (own_ne HR.out HB.out (by decide)) _⟩, ⟨fun k o hk hne _ => (Below.heap_setCell _ _ _ _ hne).trans hk, (Below.refl n₀ W).setCell (p := ⟨b, 0, none⟩) h0 _⟩⟩
  · go_enter Try.func86, Try.ntmps86
    go_wp2
    rw [Lib.run_neq_ptr_same W _ Try.underlying98 hj]
    go_wp2
    go_end0
    exact ⟨rfl, ⟨v, HB.out, HR.out⟩, KeptB.refl _ _ _⟩
theorem strCells_bytes (s : ByteArray) : Lib.strCells s = Lib.byteCells s.data.toList := rfl
theorem byteCells_append (l m : List UInt8) : Lib.byteCells (l ++ m) = Lib.byteCells l ++ Lib.byteCells m := by simp [Lib.byteCells]
theorem info5N : (Try.prog.info? 5).map (fun i => (i.zero, i.size, i.bytes)) = some (some (.int .u8 0), 1, 1) := by kernel_rfl
/-- An append to the builder's row, and its store: what is left as it was. -/
theorem kept_append {n₀ b : Nat} {W W1 W2 : World} {v : Value} {n : Nat} {xs : List Value} (hk : KeptB n₀ b W W1) (hr : W1.ownsRow n₀ 5 1 v n xs) (hn : n₀ ≤ W1.heap.size) (h0 : n₀ ≤ b) (hg : W1.grownBy W2 v.ownBlock) (j : Nat) (u : Value) : KeptB n₀ b W (W2.setCell ⟨b, j, none⟩ u) := by
  refine hk.trans ⟨fun k o hko hne hc => (Below.heap_setCell _ _ _ _ hne).trans ((hg.block k (blk_lt hko) (fun e => ?_)).trans hko), ?_⟩
  · obtain ⟨cells, hcc⟩ := own_typed hr k e.symm
    rw [hcc] at hko
    injection hko with hko
    exact hc _ _ hko.symm
  · exact ((Below.refl n₀ W1).grown hg hn (fun k e => own_base hr k e)).setCell (p := ⟨b, j, none⟩) h0 u
set_option maxHeartbeats 4000000 in
set_option maxRecDepth 100000 in
theorem writeString_calls (n₀ b : Nat) (W : World) (l : List UInt8) (s : ByteArray) (h : IsBd n₀ b W l) (hs : l.length + s.size ≤ 1000000) :
    Calls Try.prog 66 #[.pointer (some ⟨b, 0, none⟩), .string s] W fun e W' => e = .returned (.tuple #[.int .i64 (s.size : Int), .nilIface]) ∧ IsBd n₀ b W' (l ++ s.data.toList) ∧ KeptB n₀ b W W' := by
  obtain ⟨i0, hi, hz0, hz1, hz2⟩ := info_parts info5N
  have h0 := h.1
  have hlt := h.lt
  have HC := Lib.hid (copyCheck_calls n₀ b W l h)
  clear h
  go_enter Try.func66, Try.ntmps66
  go_wp2_with (fail)
  refine HC.out.mono ?_
  rintro e W1 ⟨rfl, ⟨v, hb, hr⟩, hk⟩
  have c1 : W1.cell? ⟨b, 1, none⟩ = some v := by rw [blk_cell hb]; rfl
  have HB := Lib.hid hb
  have HR := Lib.hid hr
  have HK := Lib.hid hk
  have hn1 : n₀ ≤ W1.heap.size := by have := hk.below.size; omega
  clear hb hr hk
  go_wp2_with (at_builtin; refine Lib.wpList_append_own_string _ rfl (.tmp 12) (.tmp 13) 52 9 rfl n₀ 5 i0 Try.underlying52 Try.underlying9 hi hz0 hz1 hz2 v l.length (Lib.byteCells l) rfl HR.out s rfl ?c3 ?c4 hn1 ?_)
  case c3 => unfold maxLen; omega
  case c4 => omega
  intro v' W2 hown hg _
  have hb2 : W2.heap[b]? = some (.cells #[.pointer (some ⟨b, 0, none⟩), v] 100 (0, 0)) := blk_grown HB.out hg (own_ne HR.out HB.out (by decide))
  have d1 : W2.cell? ⟨b, 1, none⟩ = some v := by rw [blk_cell hb2]; rfl
  have f1 : W2.frozen? ⟨b, 1, none⟩ = false := blk_frozen hb2 1
  obtain ⟨ao, cap, rfl⟩ := own_slice hown
  have hfin : Hid (IsBd n₀ b (W2.setCell ⟨b, 1, none⟩ (.slice ao (l.length + s.size) cap)) (l ++ s.data.toList) ∧ KeptB n₀ b W (W2.setCell ⟨b, 1, none⟩ (.slice ao (l.length + s.size) cap))) := by
    refine ⟨⟨h0, _, _, .inr rfl, blk_set hb2 1 _, ?_⟩, kept_append HK.out HR.out hn1 h0 hg _ _⟩
    rw [List.length_append, byteCells_append, ← strCells_bytes]
    exact own_setCell hown (own_ne hown hb2 (by decide)) _
  clear hown hg hb2
  go_wp2
  exact bodyPost_ret (v := .tuple #[.int .i64 (s.size : Int), .nilIface]) (by simp [results, Try.results66, go_sem]) rfl ⟨rfl, hfin.out.1, hfin.out.2⟩
set_option maxHeartbeats 4000000 in
set_option maxRecDepth 100000 in
theorem writeByte_calls (n₀ b : Nat) (W : World) (l : List UInt8) (c : UInt8) (h : IsBd n₀ b W l) (hs : l.length + 1 ≤ 1000000) :
    Calls Try.prog 67 #[.pointer (some ⟨b, 0, none⟩), .int .u8 (c.toNat : Int)] W fun e W' => e = .returned .nilIface ∧ IsBd n₀ b W' (l ++ [c]) ∧ KeptB n₀ b W W' := by
  have h0 := h.1
  have hlt := h.lt
  have HC := Lib.hid (copyCheck_calls n₀ b W l h)
  clear h
  go_enter Try.func67, Try.ntmps67
  go_wp2_with (fail)
  refine HC.out.mono ?_
  rintro e W1 ⟨rfl, ⟨v, hb, hr⟩, hk⟩
  have c1 : W1.cell? ⟨b, 1, none⟩ = some v := by rw [blk_cell hb]; rfl
  have HB := Lib.hid hb
  have HK := Lib.hid hk
  have hn1 : n₀ ≤ W1.heap.size := by have := hk.below.size; omega
  have HR := Lib.hid hr
  have hBB : Hid (Below n₀ W1 W1) := Below.refl _ _
  clear hb hr hk
  go_wp2_with (at_builtin; refine print_append (w0 := W1) n₀ rfl (.tmp 11) (.tmp 13) 52 5 (.int .u8 0) 1 rfl Try.underlying52 info5N rfl (by decide) v (Lib.byteCells l) (.int .u8 (c.toNat : Int)) rfl rfl rfl (by rw [Lib.byteCells_length]; exact HR.out) hBB.out hn1 (by rw [Lib.byteCells_length]; omega) ?_)
  intro v' W2 hown _ hg _
  have hb2 : W2.heap[b]? = some (.cells #[.pointer (some ⟨b, 0, none⟩), v] 100 (0, 0)) := blk_grown HB.out hg (own_ne HR.out HB.out (by decide))
  have d1 : W2.cell? ⟨b, 1, none⟩ = some v := by rw [blk_cell hb2]; rfl
  have f1 : W2.frozen? ⟨b, 1, none⟩ = false := blk_frozen hb2 1
  rw [Lib.byteCells_length] at hown
  obtain ⟨ao, cap, rfl⟩ := own_slice hown
  have hfin : Hid (IsBd n₀ b (W2.setCell ⟨b, 1, none⟩ (.slice ao (l.length + 1) cap)) (l ++ [c]) ∧ KeptB n₀ b W (W2.setCell ⟨b, 1, none⟩ (.slice ao (l.length + 1) cap))) := by
    refine ⟨⟨h0, _, _, .inr rfl, blk_set hb2 1 _, ?_⟩, kept_append HK.out HR.out hn1 h0 hg _ _⟩
    have := own_setCell hown (own_ne hown hb2 (by decide)) (p := ⟨b, 1, none⟩) (.slice ao (l.length + 1) cap)
    rw [List.length_append, List.length_singleton, byteCells_append]
    exact this
  clear hown hg hb2
  go_wp2
  go_ret
  exact ⟨rfl, hfin.out.1, hfin.out.2⟩
set_option maxHeartbeats 4000000 in
set_option maxRecDepth 100000 in
/-- One's function value: it writes on. -/
theorem tell_calls (n₀ b : Nat) (W : World) (l : List UInt8) (s : ByteArray) (h : IsBd n₀ b W l) (hs : l.length + s.size ≤ 1000000) :
    Calls Try.prog 84 #[.string s, .pointer (some ⟨b, 0, none⟩)] W fun e W' => e = .returned (.tuple #[]) ∧ IsBd n₀ b W' (l ++ s.data.toList) ∧ KeptB n₀ b W W' := by
  have HC := Lib.hid (writeString_calls n₀ b W l s h hs)
  clear h
  go_enter Try.func84, Try.ntmps84
  go_wp2_with (fail)
  refine HC.out.mono ?_
  rintro e W1 ⟨rfl, hb, hk⟩
  go_wp2
  go_end0
  exact ⟨rfl, hb, hk⟩
end Go.Proofs.Ytiojfdgagdofiaa.HP
/-
show's walker over the translation: a form, and all below it, as text.
-/
set_option linter.unusedVariables false
set_option linter.unusedSimpArgs false
namespace Go.Proofs.Ytiojfdgagdofiaa.HP
open Go.RowKit Go.Proofs.Ytiojfdgagdofiaa.HB Go.Proofs.Ytiojfdgagdofiaa.HK Go.Proofs.YtiojfdgagdofiaaW.PrintWords Go.Proofs.YtiojfdgagdofiaaW.PrintLast Go.Proofs.YtiojfdgagdofiaaW.PrintMore
/-- Kids as text, with blanks between; how many forms. -/
def kidsTxt (g : Nat → Option (List UInt8 × Nat)) (N i : Nat) : Bool → List Int → Option (List UInt8 × Nat)
  | _, [] => some ([], 0)
  | first, k :: r => if (i : Int) < k ∧ k < (N : Int) then (match g k.toNat with
    | none => none
    | some (t, n) => match kidsTxt g N i false r with
      | none => none
      | some (t', n') => some ((if first then [] else [32]) ++ (t ++ t'), n + n')) else none
/-- A form as text, where it is a name, or a bracket of such. -/
def oneT (fs : List FormP) (ks : Nat → List Int) : Nat → Nat → Option (List UInt8 × Nat)
  | 0, _ => none
  | f + 1, i => match fs[i]? with
    | none => none
    | some F => if F.k = 3 then some (F.t.data.toList, 1) else if F.k = 1 then (match kidsTxt (oneT fs ks f) fs.length i true (ks i) with
      | none => none
      | some (t, n) => some (40 :: (t ++ [41]), n + 1)) else none
theorem kidsTxt_cons {g : Nat → Option (List UInt8 × Nat)} {N i : Nat} {b : Bool} {k : Int} {r : List Int} {T : List UInt8} {M : Nat} (h : kidsTxt g N i b (k :: r) = some (T, M)) :
    ∃ t n t' n', (i : Int) < k ∧ k < (N : Int) ∧ g k.toNat = some (t, n) ∧ kidsTxt g N i false r = some (t', n') ∧ T = (if b then [] else [32]) ++ (t ++ t') ∧ M = n + n' := by
  rw [kidsTxt] at h
  split at h
  · rename_i hk
    cases hg : g k.toNat with
    | none => rw [hg] at h; cases h
    | some p =>
      obtain ⟨t, n⟩ := p
      rw [hg] at h
      dsimp only at h
      cases hr : kidsTxt g N i false r with
      | none => rw [hr] at h; cases h
      | some p =>
        obtain ⟨t', n'⟩ := p
        rw [hr] at h
        injection h with h
        injection h with h1 h2
        exact ⟨t, n, t', n', hk.1, hk.2, rfl, rfl, h1.symm, h2.symm⟩
  · cases h
/-- The walker at block g, which writes to the builder at block b. -/
def PSt (n₀ b g : Nat) (A : Option Addr) (N c : Nat) (W : World) (txt : List UInt8) (left : Nat) : Prop :=
  IsBd n₀ b W txt ∧ W.heap[g]? = some (.cells #[.slice A N c, .int .i64 (left : Int), .func (.func 84) #[] #[.pointer (some ⟨b, 0, none⟩)]] 120 (0, 0)) ∧ b ≠ g ∧ n₀ ≤ g
theorem PSt.told {n₀ b g N c : Nat} {A : Option Addr} {W W' : World} {txt txt' : List UInt8} {left : Nat} (h : PSt n₀ b g A N c W txt left) (hb : IsBd n₀ b W' txt') (hk : KeptB n₀ b W W') : PSt n₀ b g A N c W' txt' left :=
  ⟨hb, hk.block g _ h.2.1 (Ne.symm h.2.2.1) (fun cs fr e => by cases e), h.2.2⟩
theorem PSt.alloc {n₀ b g N c : Nat} {A : Option Addr} {W : World} {txt : List UInt8} {left : Nat} (h : PSt n₀ b g A N c W txt left) (o : Obj) : PSt n₀ b g A N c (W.alloc o) txt left :=
  ⟨h.1.alloc o, blk_alloc h.2.1 o, h.2.2⟩
theorem PSt.less {n₀ b g N c : Nat} {A : Option Addr} {W : World} {txt : List UInt8} {left : Nat} (h : PSt n₀ b g A N c W txt (left + 1)) : PSt n₀ b g A N c (W.setCell ⟨g, 1, none⟩ (.int .i64 (left : Int))) txt left :=
  ⟨h.1.setCell h.2.1 h.2.2.1 (by decide) _ _, blk_set h.2.1 1 _, h.2.2⟩
theorem PSt.drewN {n₀ b g N c : Nat} {A : Option Addr} {W : World} {txt : List UInt8} {left : Nat} (h : PSt n₀ b g A N c W txt left) : PSt n₀ b g A N c W.drew txt left := h
/-- How the calls end. -/
def OneEnds (n₀ b g : Nat) (A : Option Addr) (N c : Nat) (W : World) (txt : List UInt8) (left : Nat) (e : Ending) (W' : World) : Prop :=
  e = .returned (.bool true) ∧ PSt n₀ b g A N c W' txt left ∧ Below n₀ W W'
def BrRel (n₀ b g : Nat) (A : Option Addr) (N c : Nat) (W : World) (G : Nat → Option (List UInt8 × Nat)) (i : Nat) (l : List Int) (txt : List UInt8) (rest : Nat) (wr : World) (j : Nat) (txt' : List UInt8) (left' : Nat) : Prop :=
  ∃ tr nr, kidsTxt G N i (decide (j = 0)) (l.drop j) = some (tr, nr) ∧ txt' ++ tr = txt ∧ left' = rest + nr ∧ PSt n₀ b g A N c wr txt' left' ∧ Below n₀ W wr ∧ left' ≤ 400
set_option maxHeartbeats 8000000 in
set_option maxRecDepth 100000 in
theorem bracket_calls (w : World) (A : Option Addr) (c b g : Nat) (fs : List FormP) (ks : Nat → List Int) (f : Nat) (hF : FRow w A fs ks) (hN : fs.length ≤ 400)
    (ih : ∀ (i : Nat) (W : World) (txt : List UInt8) (left : Nat) (t : List UInt8) (n : Nat), oneT fs ks f i = some (t, n) → txt.length + t.length ≤ 100000 → left + n ≤ 400 → PSt w.heap.size b g A fs.length c W txt (left + n) → Below w.heap.size w W →
      Calls Try.prog 85 #[.pointer (some ⟨g, 0, none⟩), .int .i64 (i : Int)] W fun e W' => OneEnds w.heap.size b g A fs.length c W (txt ++ t) left e W')
    (i : Nat) (B : Option Addr) (d : Nat) (W : World) (txt : List UInt8) (left : Nat) (t : List UInt8) (n : Nat) (hi : IRow w B (ks i)) (hk : (ks i).length ≤ 400)
    (ht : kidsTxt (oneT fs ks f) fs.length i true (ks i) = some (t, n)) (hlen : txt.length + t.length + 2 ≤ 100000) (hleft : left + n ≤ 400) (hP : PSt w.heap.size b g A fs.length c W txt (left + n)) (hW : Below w.heap.size w W) :
    Calls Try.prog 89 #[.pointer (some ⟨g, 0, none⟩), .int .i64 (i : Int), .slice B (ks i).length d] W fun e W' => OneEnds w.heap.size b g A fs.length c W (txt ++ (40 :: (t ++ [41]))) left e W' := by
  have IH := Lib.hid ih
  have HI := Lib.hid hi
  have HP := Lib.hid hP
  have HW := Lib.hid hW
  have y2 : W.cell? ⟨g, 2, none⟩ = some (.func (.func 84) #[] #[.pointer (some ⟨b, 0, none⟩)]) := by rw [blk_cell hP.2.1]; rfl
  have hT1 := tell_calls w.heap.size b W txt ⟨#[40]⟩ hP.1 (by show txt.length + 1 ≤ 1000000; omega)
  have HT1 := Lib.hid hT1
  have HKT := Lib.hid ht
  clear ih hi hP hW hT1 ht hF
  go_enter Try.func89, Try.ntmps89
  go_wp2_with (fail)
  refine HT1.out.mono ?_
  rintro e W1 ⟨rfl, hb1, hk1⟩
  have HP1 := Lib.hid (HP.out.told hb1 hk1)
  have HB1 := Lib.hid hk1.below
  clear hb1 hk1 y2
  go_wp2_with (fail)
  go_loopw [16] (fun x wr => ∃ (j : Nat) (txt' : List UInt8) (left' : Nat), x = .int .i64 (j : Int) ∧ j ≤ (ks i).length ∧ Hid (BrRel w.heap.size b g A fs.length c W (oneT fs ks f) i (ks i) (txt ++ (40 :: t)) left wr j txt' left')) (fun x _ => (ks i).length - (intOf x).toNat)
  case atStart => exact ⟨0, txt ++ [40], left + n, rfl, Nat.zero_le _, t, n, HKT.out, by simp, rfl, HP1.out, HB1.out, hleft⟩
  case round =>
    obtain ⟨j, txt', left', rfl, hj, hR⟩ := hrel
    obtain ⟨tr, nr, hkt, htxt, hlf, hPr, hBr, hl4⟩ := hR.out
    have htl : txt'.length + tr.length = txt.length + 1 + t.length := by
      have := congrArg List.length htxt
      simp at this
      omega
    have y0 : wr.cell? ⟨g, 0, none⟩ = some (.slice A fs.length c) := by rw [blk_cell hPr.2.1]; rfl
    have y2 : wr.cell? ⟨g, 2, none⟩ = some (.func (.func 84) #[] #[.pointer (some ⟨b, 0, none⟩)]) := by rw [blk_cell hPr.2.1]; rfl
    have HPr := Lib.hid hPr
    have HBr := Lib.hid hBr
    have HTX := Lib.hid htxt
    clear hPr hBr htxt hR
    by_cases hlt : j < (ks i).length
    · rw [List.drop_eq_getElem_cons hlt] at hkt
      obtain ⟨t1, n1, t2, n2, h1, h2, hg, hr, hT, hM⟩ := kidsTxt_cons hkt
      have hWr : Below w.heap.size w wr := HW.out.trans HBr.out
      obtain ⟨g2, o2, hA2, _, c0⟩ := (HI.out.below hWr) j hlt
      subst hA2
      have hget : (ks i).getD j 0 = (ks i)[j] := by rw [List.getD_eq_getElem?_getD, List.getElem?_eq_getElem hlt]; rfl
      rw [hget] at c0
      obtain ⟨p, hp⟩ : ∃ p, p = (ks i)[j] := ⟨_, rfl⟩
      rw [← hp] at c0 h1 h2 hg
      obtain ⟨k, rfl⟩ : ∃ k : Nat, p = (k : Int) := ⟨p.toNat, by omega⟩
      rw [Int.toNat_natCast] at hg
      have z1 : (j : Int) < ((ks i).length : Int) := by omega
      have z0 : (0 : Int) ≤ (j : Int) := by omega
      have qd : decide ((j : Int) < ((ks i).length : Int)) = true := decide_eq_true z1
      have hw : IntKind.i64.wrap ((j : Int) + 1) = ((j + 1 : Nat) : Int) := by rw [IntWalk.i64_in _ (by omega)]; omega
      have hik : i < k := by omega
      have hkN : k < fs.length := by omega
      have q1 : decide ((k : Int) ≤ (i : Int)) = false := decide_eq_false (by omega)
      have q1' : decide (k ≤ i) = false := decide_eq_false (by omega)
      have q2 : decide ((k : Int) ≥ (fs.length : Int)) = false := decide_eq_false (by omega)
      have q2' : decide (fs.length ≤ k) = false := decide_eq_false (by omega)
      have HG := Lib.hid hg
      have HR := Lib.hid hr
      have HWr := Lib.hid hWr
      clear hp hget hkt hg hr hWr
      by_cases hj0 : j = 0
      · subst hj0
        rw [Nat.add_zero] at c0
        rw [show ((0 : Nat) : Int) = 0 from rfl] at z1 z0 qd hw ⊢
        have q0 : decide ((0 : Int) < 0) = false := decide_eq_false (by omega)
        have hT' : tr = t1 ++ t2 := by rw [hT]; rfl
        have HC := Lib.hid (IH.out k wr txt' (left + n2) t1 n1 HG.out (by rw [hT'] at htl; simp at htl; omega) (by omega) (by rw [show left + n2 + n1 = left' by omega]; exact HPr.out) HWr.out)
        have hfin : Hid (∀ W3, PSt w.heap.size b g A fs.length c W3 (txt' ++ t1) (left + n2) → Below w.heap.size W W3 → BrRel w.heap.size b g A fs.length c W (oneT fs ks f) i (ks i) (txt ++ (40 :: t)) left W3 (0 + 1) (txt' ++ t1) (left + n2)) := fun W3 h3 h4 => ⟨t2, n2, HR.out, by rw [List.append_assoc, ← hT']; exact HTX.out, rfl, h3, h4, by omega⟩
        clear hT hT'
        go_wp2_with (fail)
        refine HC.out.mono ?_
        rintro e W3 ⟨rfl, hP3, hB3⟩
        have HF3 := Lib.hid (hfin.out W3 hP3 (HBr.out.trans hB3))
        clear hP3 hB3
        go_wp2
        go_roundw
        case measure => simp [intOf]; omega
        case rel => exact ⟨0 + 1, _, _, by first | rfl | (rw [hw]) | simp, by omega, HF3⟩
      · have q0 : decide ((0 : Int) < (j : Int)) = true := decide_eq_true (by omega)
        have q0' : decide ((j : Int) > 0) = true := decide_eq_true (by omega)
        have hT' : tr = 32 :: (t1 ++ t2) := by rw [hT, decide_eq_false hj0]; rfl
        have htl2 : txt'.length + 1 + (t1.length + t2.length) = txt.length + 1 + t.length := by rw [hT'] at htl; simp at htl; omega
        have HT2 := Lib.hid (tell_calls w.heap.size b wr txt' ⟨#[32]⟩ HPr.out.1 (by show txt'.length + 1 ≤ 1000000; omega))
        have hfin : Hid (∀ W3, PSt w.heap.size b g A fs.length c W3 (txt' ++ [32] ++ t1) (left + n2) → Below w.heap.size W W3 → BrRel w.heap.size b g A fs.length c W (oneT fs ks f) i (ks i) (txt ++ (40 :: t)) left W3 (j + 1) (txt' ++ [32] ++ t1) (left + n2)) := fun W3 h3 h4 => ⟨t2, n2, HR.out, by rw [← HTX.out, hT']; simp, rfl, h3, h4, by omega⟩
        clear hT
        go_wp2_with (fail)
        refine HT2.out.mono ?_
        rintro e W2 ⟨rfl, hb2, hk2⟩
        have hP2 := HPr.out.told hb2 hk2
        have y20 : W2.cell? ⟨g, 0, none⟩ = some (.slice A fs.length c) := by rw [blk_cell hP2.2.1]; rfl
        have HB2 := Lib.hid (HBr.out.trans hk2.below)
        have HC := Lib.hid (IH.out k W2 (txt' ++ [32]) (left + n2) t1 n1 HG.out (by simp; omega) (by omega) (by rw [show left + n2 + n1 = left' by omega]; exact hP2) (HWr.out.trans hk2.below))
        clear hb2 hk2 hP2 hT'
        go_wp2_with (fail)
        refine HC.out.mono ?_
        rintro e W3 ⟨rfl, hP3, hB3⟩
        have HF3 := Lib.hid (hfin.out W3 hP3 (HB2.out.trans hB3))
        clear hP3 hB3
        go_wp2
        go_roundw
        case measure => simp [intOf]; omega
        case rel => exact ⟨j + 1, _, _, by first | rfl | (rw [hw]) | simp, by omega, HF3⟩
    · obtain rfl : j = (ks i).length := by omega
      have qd : decide (((ks i).length : Int) < ((ks i).length : Int)) = false := decide_eq_false (by omega)
      rw [List.drop_length, kidsTxt] at hkt
      injection hkt with hkt
      injection hkt with e1 e2
      subst e1 e2
      have htx : txt' = txt ++ (40 :: t) := by have := HTX.out; simpa using this
      subst htx
      have hl0 : left' = left := by omega
      subst hl0
      have HT2 := Lib.hid (tell_calls w.heap.size b wr (txt ++ (40 :: t)) ⟨#[41]⟩ HPr.out.1 (by show (txt ++ (40 :: t)).length + 1 ≤ 1000000; simp; omega))
      clear htl
      go_wp2_with (fail)
      refine HT2.out.mono ?_
      rintro e W2 ⟨rfl, hb2, hk2⟩
      have hP2 := Lib.hid (HPr.out.told hb2 hk2)
      have hB2 := Lib.hid (HBr.out.trans hk2.below)
      clear hb2 hk2
      go_wp2
      go_ret
      refine ⟨rfl, ?_, hB2.out⟩
      have := hP2.out
      simpa using this
end Go.Proofs.Ytiojfdgagdofiaa.HP
/-
show's walker, show.One and show.Print over the translation, at forms that are names and brackets.
-/
set_option linter.unusedVariables false
set_option linter.unusedSimpArgs false
namespace Go.Proofs.Ytiojfdgagdofiaa.HP
open Go.RowKit Go.Proofs.Ytiojfdgagdofiaa.HB Go.Proofs.Ytiojfdgagdofiaa.HK Go.Proofs.YtiojfdgagdofiaaW.PrintWords Go.Proofs.YtiojfdgagdofiaaW.PrintLast Go.Proofs.YtiojfdgagdofiaaW.PrintMore
set_option maxHeartbeats 8000000 in
set_option maxRecDepth 100000 in
theorem one_calls (w : World) (A : Option Addr) (c b g : Nat) (fs : List FormP) (ks : Nat → List Int) (hF : FRow w A fs ks) (hN : fs.length ≤ 400) (hk : ∀ i, (ks i).length ≤ 400) (hn : w.heap.size ≤ g) :
    ∀ (f i : Nat) (W : World) (txt : List UInt8) (left : Nat) (t : List UInt8) (n : Nat), oneT fs ks f i = some (t, n) → txt.length + t.length ≤ 100000 → left + n ≤ 400 → PSt w.heap.size b g A fs.length c W txt (left + n) → Below w.heap.size w W →
      Calls Try.prog 85 #[.pointer (some ⟨g, 0, none⟩), .int .i64 (i : Int)] W fun e W' => OneEnds w.heap.size b g A fs.length c W (txt ++ t) left e W' := by
  intro f
  induction f with
  | zero => intro i W txt left t n h; cases h
  | succ f ih =>
    intro i W txt left t n h hlen hl hP hW
    rw [oneT] at h
    cases hf : fs[i]? with
    | none => rw [hf] at h; cases h
    | some F =>
      rw [hf] at h
      replace h : (if F.k = 3 then some (F.t.data.toList, 1) else if F.k = 1 then (match kidsTxt (oneT fs ks f) fs.length i true (ks i) with | none => none | some (t, n) => some (40 :: (t ++ [41]), n + 1)) else none) = some (t, n) := h
      obtain ⟨m, rfl⟩ : ∃ m, n = m + 1 := by
        split at h
        · injection h with h; injection h with _ h2; exact ⟨0, by omega⟩
        · split at h
          · cases hkt : kidsTxt (oneT fs ks f) fs.length i true (ks i) with
            | none => rw [hkt] at h; cases h
            | some p => rw [hkt] at h; injection h with h; injection h with _ h2; exact ⟨_, h2.symm⟩
          · cases h
      have hiN := (List.getElem?_eq_some_iff.1 hf).1
      have hlt1 : i < fs.length := hiN
      have y0 : W.cell? ⟨g, 0, none⟩ = some (.slice A fs.length c) := by rw [blk_cell hP.2.1]; rfl
      have y1 : W.cell? ⟨g, 1, none⟩ = some (.int .i64 ((left + m + 1 : Nat) : Int)) := by rw [blk_cell hP.2.1]; rfl
      have f1 : W.frozen? ⟨g, 1, none⟩ = false := blk_frozen hP.2.1 1
      have b1 : (((left + m + 1 : Nat) : Int) == 0) = false := by rw [beq_eq_false_iff_ne]; omega
      have hw1 : IntKind.i64.wrap (((left + m + 1 : Nat) : Int) - 1) = ((left + m : Nat) : Int) := by rw [IntWalk.i64_in _ (by omega)]; omega
      have hgl := blk_lt hP.2.1
      obtain ⟨W2, hW2⟩ : ∃ W2, W2 = W.setCell ⟨g, 1, none⟩ (.int .i64 ((left : Int) + (m : Int))) := ⟨_, rfl⟩
      have hP2 : PSt w.heap.size b g A fs.length c W2 txt (left + m) := by rw [hW2, ← Int.natCast_add]; exact hP.less
      have hB2 : Below w.heap.size W W2 := by rw [hW2]; exact (Below.refl _ W).setCell (p := ⟨g, 1, none⟩) hn _
      obtain ⟨g2, o2, C, e2, hA2, hg2, d0, d1, d2, d3, d4, _, hI⟩ := hF i F hf
      subst hA2
      have hcell : ∀ x, W2.cell? ⟨g2, x, none⟩ = w.cell? ⟨g2, x, none⟩ := fun x => (hW.trans hB2).cell (p := ⟨g2, x, none⟩) hg2
      rw [← hcell] at d0 d1 d2 d3 d4
      clear hcell
      have x0 : W2.cell? ⟨g, 0, none⟩ = some (.slice (some ⟨g2, o2, none⟩) fs.length c) := by rw [blk_cell hP2.2.1]; rfl
      have z1 : (i : Int) < (fs.length : Int) := by omega
      have z0 : (0 : Int) ≤ (i : Int) := by omega
      have HP := Lib.hid hP
      have HP2 := Lib.hid hP2
      have HB2 := Lib.hid hB2
      have HW := Lib.hid hW
      have HI := Lib.hid hI
      have HF := Lib.hid hF
      have H := Lib.hid h
      have IH := Lib.hid ih
      have HFF := Lib.hid hf
      have HWE := Lib.hid hW2
      clear hP2 hB2 hW hI hF h ih hf hP hW2
      go_enter Try.func85, Try.ntmps85
      go_upto_region 4 with (fail)
      rw [← HWE.out]
      clear y0 y1 f1 b1 hw1
      by_cases h3 : F.k = 3
      · have hh : Hid (t = F.t.data.toList ∧ m = 0) := by
          have := H.out
          rw [if_pos h3] at this
          injection this with this
          injection this with e1 e2
          exact ⟨e1.symm, by omega⟩
        have k4 : (F.k == 4) = false := by rw [h3]; rfl
        have k3 : (F.k == 3) = true := by rw [h3]; rfl
        clear h3 H
        go_wp2_with (fail)
        obtain ⟨W3, hW3⟩ : ∃ W3, W3 = W2.alloc (.cells #[.int .u8 F.k, .string F.t, .int .i64 F.n, .slice C (ks i).length e2, .int .i64 F.at_] 40) := ⟨_, rfl⟩
        rw [← hW3]
        have hP3 : PSt w.heap.size b g (some ⟨g2, o2, none⟩) fs.length c W3 txt (left + m) := by rw [hW3]; exact HP2.out.alloc _
        have hb3 : W3.heap[W2.heap.size]? = some (.cells #[.int .u8 F.k, .string F.t, .int .i64 F.n, .slice C (ks i).length e2, .int .i64 F.at_] 40 (0, 0)) := by rw [hW3]; exact blk_new W2 _
        have hB3 : Below w.heap.size W W3 := by rw [hW3]; exact HB2.out.alloc (by have := HW.out.size; have := HB2.out.size; omega) _
        have y2 : W3.cell? ⟨g, 2, none⟩ = some (.func (.func 84) #[] #[.pointer (some ⟨b, 0, none⟩)]) := by rw [blk_cell hP3.2.1]; rfl
        have y5 : W3.cell? ⟨W2.heap.size, 1, none⟩ = some (.string F.t) := by rw [blk_cell hb3]; rfl
        have HP3 := Lib.hid hP3
        have HB3 := Lib.hid hB3
        have HTL := Lib.hid (tell_calls w.heap.size b W3.drew txt F.t hP3.1 (by have := congrArg List.length hh.out.1; have h9 : F.t.data.toList.length = F.t.size := (by simp); omega))
        clear hW3 hP3 hb3 hB3 d0 d1 d2 d3 d4 x0
        go_still_tail 6, (by kernel_rfl)
        change wpList _ _ _ _ _ W3.drew
        go_wp2_with (fail)
        refine HTL.out.mono ?_
        rintro e W4 ⟨rfl, hb4, hk4⟩
        have HP4 := Lib.hid (HP3.out.drewN.told hb4 hk4)
        have HB4 : Hid (Below w.heap.size W W4) := (below_drew HB3.out).trans hk4.below
        clear hb4 hk4
        go_wp2
        go_ret
        refine ⟨rfl, ?_, HB4.out⟩
        rw [hh.out.1]
        have := HP4.out
        rw [hh.out.2, Nat.add_zero] at this
        exact this
      · by_cases h1 : F.k = 1
        · have hh : Hid (∃ t0, t = 40 :: (t0 ++ [41]) ∧ kidsTxt (oneT fs ks f) fs.length i true (ks i) = some (t0, m)) := by
            have := H.out
            rw [if_neg h3, if_pos h1] at this
            cases hkt : kidsTxt (oneT fs ks f) fs.length i true (ks i) with
            | none => rw [hkt] at this; cases this
            | some p =>
              rw [hkt] at this
              injection this with this
              injection this with e1 e2
              exact ⟨p.1, e1.symm, by rw [← (show p.2 = m by omega)]⟩
          obtain ⟨t0, e1, hkt⟩ := hh.out
          subst e1
          have k4 : (F.k == 4) = false := by rw [h1]; rfl
          have k3 : (F.k == 3) = false := by rw [h1]; rfl
          have k1 : (F.k == 1) = true := by rw [h1]; rfl
          have HKT := Lib.hid hkt
          clear h1 h3 H hkt hh
          have hbr := bracket_calls w (some ⟨g2, o2, none⟩) c b g fs ks f HF.out hN IH.out i C e2 (W2.alloc (.cells #[.int .u8 F.k, .string F.t, .int .i64 F.n, .slice C (ks i).length e2, .int .i64 F.at_] 40)) txt left t0 m HI.out (hk i) HKT.out (by have := hlen; simp at this; omega) (by omega) (HP2.out.alloc _) ((HW.out.trans HB2.out).alloc (by have := HW.out.size; have := HB2.out.size; omega) _)
          have HBR := Lib.hid hbr
          have hB3 : Hid (Below w.heap.size W (W2.alloc (.cells #[.int .u8 F.k, .string F.t, .int .i64 F.n, .slice C (ks i).length e2, .int .i64 F.at_] 40))) := HB2.out.alloc (by have := HW.out.size; have := HB2.out.size; omega) _
          clear hbr
          go_wp2_with (fail)
          refine HBR.out.mono ?_
          rintro e W4 ⟨rfl, hp4, hb4⟩
          have HP4 := Lib.hid hp4
          have HB4 := Lib.hid (hB3.out.trans hb4)
          clear hp4 hb4
          go_wp2
          go_ret
          exact ⟨rfl, HP4.out, HB4.out⟩
        · exfalso
          have := H.out
          rw [if_neg h3, if_neg h1] at this
          cases this
end Go.Proofs.Ytiojfdgagdofiaa.HP
/-
show.One over the translation: a form, and all below it, as text.
-/
set_option linter.unusedVariables false
set_option linter.unusedSimpArgs false
namespace Go.Proofs.Ytiojfdgagdofiaa.HP
open Go.RowKit Go.Proofs.Ytiojfdgagdofiaa.HB Go.Proofs.Ytiojfdgagdofiaa.HK Go.Proofs.YtiojfdgagdofiaaW.PrintWords Go.Proofs.YtiojfdgagdofiaaW.PrintLast Go.Proofs.YtiojfdgagdofiaaW.PrintMore
/-- A text out of its bytes. -/
def txtOf (l : List UInt8) : ByteArray := ⟨l.toArray⟩
theorem string_calls (n₀ b : Nat) (W : World) (l : List UInt8) (h : IsBd n₀ b W l) (hn : n₀ ≤ W.heap.size) :
    Calls Try.prog 68 #[.pointer (some ⟨b, 0, none⟩)] W fun e W' => e = .returned (.string (txtOf l)) ∧ Below n₀ W W' :=
  Try.Builder_String_any n₀ b l W h.is hn
theorem IsBd.below {n₀ b : Nat} {W W' : World} {l : List UInt8} (h : IsBd n₀ b W l) (hb : Below W.heap.size W W') : IsBd n₀ b W' l := by
  have hlt := h.lt
  obtain ⟨h0, p, v, hp, hbl, hr⟩ := h
  exact ⟨h0, p, v, hp, (hb.block b hlt).trans hbl, own_move hr (fun k hk => hb.block k (own_lt hr k hk))⟩
/-- How printing ends. -/
def TxtEnds (w : World) (t : List UInt8) (e : Ending) (w' : World) : Prop := e = .returned (.tuple #[.string (txtOf t), .int .i64 0]) ∧ Below w.heap.size w w'
set_option maxHeartbeats 8000000 in
set_option maxRecDepth 100000 in
theorem showOne_calls (w : World) (A : Option Addr) (c : Nat) (fs : List FormP) (ks : Nat → List Int) (hF : FRow w A fs ks) (hN : fs.length ≤ 400) (hk : ∀ i, (ks i).length ≤ 400) (f i : Nat) (t : List UInt8) (n : Nat) (h : oneT fs ks f i = some (t, n)) (hlen : t.length ≤ 90000) (hn : n ≤ 400) (hi : i < fs.length) :
    Calls Try.prog 65 #[.slice A fs.length c, .int .i64 (i : Int)] w fun e w' => TxtEnds w t e w' := by
  obtain ⟨W1, hW1⟩ : ∃ W1, W1 = w.alloc (.cells #[.pointer none, .slice none 0 0] 100) := ⟨_, rfl⟩
  have hbd : IsBd w.heap.size w.heap.size W1 [] := by rw [hW1]; exact IsBd.new w
  have hb1 : Below w.heap.size w W1 := by rw [hW1]; exact (Below.refl _ w).alloc (Nat.le_refl _) _
  have hs1 : W1.heap.size = w.heap.size + 1 := by rw [hW1]; exact Array.size_push _
  obtain ⟨W2, hW2⟩ : ∃ W2, W2 = W1.alloc (.cells #[.slice A fs.length c, .int .i64 400, .func (.func 84) #[] #[.pointer (some ⟨w.heap.size, 0, none⟩)]] 120) := ⟨_, rfl⟩
  have hP2 : PSt w.heap.size w.heap.size W1.heap.size A fs.length c W2 [] ((400 - n) + n) := by
    rw [hW2]
    refine ⟨hbd.alloc _, ?_, by omega, by omega⟩
    rw [show (((400 - n) + n : Nat) : Int) = 400 by omega]
    exact blk_new W1 _
  have hb2 : Below w.heap.size w W2 := by rw [hW2]; exact hb1.alloc (by omega) _
  have hone := one_calls w A c w.heap.size W1.heap.size fs ks hF hN hk (by omega) f i W2 [] (400 - n) t n h (by rw [List.length_nil]; omega) (by omega) hP2 hb2
  rw [List.nil_append] at hone
  have HONE := Lib.hid hone
  have HB2 := Lib.hid hb2
  have HW1 := Lib.hid hW1
  have HW2 := Lib.hid hW2
  clear hF hk h hlen hbd hb1 hb2 hP2 hone hW1 hW2
  have q0 : decide ((i : Int) < 0) = false := decide_eq_false (by omega)
  have q1 : decide ((fs.length : Int) ≤ (i : Int)) = false := decide_eq_false (by omega)
  have q1' : decide ((i : Int) ≥ (fs.length : Int)) = false := decide_eq_false (by omega)
  go_enter Try.func65, Try.ntmps65
  go_wp2_with (fail)
  rw [← HW1.out, ← hs1, ← HW2.out]
  refine HONE.out.mono ?_
  rintro e W3 ⟨rfl, hp3, hb3⟩
  have HB3 := Lib.hid (HB2.out.trans hb3)
  have HS3 := Lib.hid (string_calls w.heap.size w.heap.size W3 t hp3.1 (HB3.out.size))
  clear hp3 hb3
  go_wp2_with (fail)
  refine HS3.out.mono ?_
  rintro e W4 ⟨rfl, hb4⟩
  have HB4 := Lib.hid (HB3.out.trans hb4)
  clear hb4
  go_wp2
  exact bodyPost_ret (v := .tuple #[.string (txtOf t), .int .i64 0]) (by simp [results, Try.results65, go_sem]) rfl ⟨rfl, HB4.out⟩
set_option maxHeartbeats 8000000 in
set_option maxRecDepth 100000 in
theorem print_calls (w : World) (A B : Option Addr) (c d : Nat) (fs : List FormP) (ks : Nat → List Int) (i : Nat) (hF : FRow w A fs ks) (hT : IRow w B [(i : Int)]) (hN : fs.length ≤ 400) (hk : ∀ i, (ks i).length ≤ 400) (htx : ∀ f ∈ fs, f.t.size ≤ 140737488351232)
    (hr : rightB fs ks [(i : Int)] = true) (f : Nat) (t : List UInt8) (n : Nat) (h : oneT fs ks f i = some (t, n)) (hlen : t.length ≤ 90000) (hn : n ≤ 400) (hi : i < fs.length) :
    Calls Try.prog 40 #[.slice A fs.length c, .slice B [(i : Int)].length d] w fun e w' => TxtEnds w (t ++ [10]) e w' := by
  have hrc := right_calls w A B c d fs ks [(i : Int)] hF hT (by omega) (fun j => Nat.le_trans (hk j) (by decide)) (by rw [List.length_singleton]; omega) htx
  rw [hr] at hrc
  have HRC := Lib.hid hrc
  have HF := Lib.hid hF
  have HT := Lib.hid hT
  have HK := Lib.hid hk
  have H := Lib.hid h
  clear hrc hF hT hk h htx hr
  go_enter Try.func40, Try.ntmps40
  go_wp2_with (fail)
  refine HRC.out.mono ?_
  rintro e W1 ⟨rfl, hb1⟩
  have HB1 := Lib.hid hb1
  clear hb1
  go_wp2_with (fail)
  obtain ⟨W2, hW2⟩ : ∃ W2, W2 = W1.alloc (.cells #[.pointer none, .slice none 0 0] 100) := ⟨_, rfl⟩
  rw [← hW2]
  have hbd : IsBd W1.heap.size W1.heap.size W2 [] := by rw [hW2]; exact IsBd.new W1
  have hb2 : Below W1.heap.size W1 W2 := by rw [hW2]; exact (Below.refl _ W1).alloc (Nat.le_refl _) _
  have HBD := Lib.hid hbd
  have HB2 := Lib.hid hb2
  have ht10 : Hid ((t ++ [10]).length ≤ 90001) := by show _ ≤ _; simp; omega
  clear hW2 hbd hb2
  go_loopw [17] (fun x wr => ∃ j : Nat, x = .int .i64 (j : Int) ∧ j ≤ 1 ∧ Hid (IsBd W1.heap.size W1.heap.size wr (if j = 0 then [] else t ++ [10]) ∧ Below W1.heap.size W1 wr)) (fun x _ => 1 - (intOf x).toNat)
  case atStart => exact ⟨0, rfl, by omega, HBD.out, HB2.out⟩
  case round =>
    obtain ⟨j, rfl, hj, hR⟩ := hrel
    obtain ⟨hbr, hwr⟩ := hR.out
    have HWR := Lib.hid hwr
    have HBW := Lib.hid (below_then HB1.out HB1.out.size hwr)
    clear hwr hR
    by_cases hlt : j < 1
    · obtain rfl : j = 0 := by omega
      rw [if_pos rfl] at hbr
      obtain ⟨g, o, hA, _, c0⟩ := (HT.out.below HBW.out) 0 (by rw [List.length_singleton]; omega)
      subst hA
      rw [show [(i : Int)].getD 0 0 = (i : Int) from rfl] at c0
      have c0' : wr.cell? ⟨g, o, none⟩ = some (.int .i64 (i : Int)) := c0
      have hso := showOne_calls wr A c fs ks (HF.out.below HBW.out) hN HK.out f i t n H.out hlen hn hi
      have HSO := Lib.hid hso
      have HBR := Lib.hid hbr
      clear hbr hso
      go_wp2_with (fail)
      refine HSO.out.mono ?_
      rintro e W3 ⟨rfl, hb3⟩
      have HB3 := Lib.hid (below_then HWR.out HWR.out.size hb3)
      have HS3 := Lib.hid (writeString_calls _ _ W3 [] (txtOf t) (HBR.out.below hb3) (by show 0 + t.toArray.size ≤ _; simp; omega))
      clear hb3
      go_wp2_with (fail)
      refine HS3.out.mono ?_
      rintro e W4 ⟨rfl, hd4, hk4⟩
      have HB4 := Lib.hid (HB3.out.trans hk4.below)
      have HS4 := Lib.hid (writeByte_calls _ _ W4 _ 10 hd4 (by have := ht10.out; simp [txtOf] at this ⊢; omega))
      clear hd4 hk4
      go_wp2_with (fail)
      refine HS4.out.mono ?_
      rintro e W5 ⟨rfl, hd5, hk5⟩
      have HB5 := Lib.hid (HB4.out.trans hk5.below)
      have HD5 : Hid (IsBd W1.heap.size W1.heap.size W5 (t ++ [10])) := by have h := hd5; simp [txtOf] at h; exact h
      clear hd5 hk5
      go_wp2
      go_roundw
      case measure => simp [intOf]
      case rel => exact ⟨1, rfl, by omega, HD5.out, HB5.out⟩
    · obtain rfl : j = 1 := by omega
      rw [if_neg (by decide)] at hbr
      have HS3 := Lib.hid (string_calls _ _ wr _ hbr HWR.out.size)
      clear hbr
      go_wp2_with (fail)
      refine HS3.out.mono ?_
      rintro e W4 ⟨rfl, hb4⟩
      have HB4 := Lib.hid (below_then HB1.out HB1.out.size (HWR.out.trans hb4))
      clear hb4
      go_wp2
      exact bodyPost_ret (v := .tuple #[.string (txtOf (t ++ [10])), .int .i64 0]) (by simp [results, Try.results40, go_sem]) rfl ⟨rfl, HB4.out⟩
end Go.Proofs.Ytiojfdgagdofiaa.HP
/-
TopNested's plain part: what a text of brackets, one in the other, is read as.
-/
set_option linter.unusedVariables false
set_option linter.unusedSimpArgs false
namespace Go.Proofs.Ytiojfdgagdofiaa.HP
open Go.RowKit Go.Proofs.Ytiojfdgagdofiaa.HB Go.Proofs.Ytiojfdgagdofiaa.HK Go.Proofs.YtiojfdgagdofiaaW.PrintWords Go.Proofs.YtiojfdgagdofiaaW.PrintLast Go.Proofs.YtiojfdgagdofiaaW.PrintMore
def unitA : ByteArray := ⟨#[40, 97, 32]⟩
def unitZ : ByteArray := ⟨#[41]⟩
def repA : Nat → ByteArray
  | 0 => ⟨#[]⟩
  | n + 1 => repA n ++ unitA
def repZ (s : ByteArray) : Nat → ByteArray
  | 0 => s
  | n + 1 => repZ s n ++ unitZ
theorem repA_size : ∀ n, (repA n).size = 3 * n
  | 0 => rfl
  | n + 1 => by rw [repA, ByteArray.size_append, repA_size n]; show 3 * n + 3 = _; omega
theorem repZ_size (s : ByteArray) : ∀ n, (repZ s n).size = s.size + n
  | 0 => rfl
  | n + 1 => by rw [repZ, ByteArray.size_append, repZ_size s n]; show s.size + n + 1 = _; omega
def deepB (n : Nat) : Bool :=
  match tokensOf (codes (repZ (repA n) n)) with
  | (ts, _, e) => decide (e = 0) && decide (ts.length ≤ 1000000) && match parseP ts with
    | .error (a, why) => decide (12 < n) && (decide (a = 36) && decide (why = 4))
    | .ok (fs, ls) => decide (n ≤ 12) && (decide (ls 0 = [(0 : Int)]) && (decide (fs.length = 2 * n) && (decide (depthP fs.length (opOf fs) (ksOf ls) (ls 0) = n) && (rightB fs (ksOf ls) (ls 0) && (fs.all (fun f => decide (f.t.size ≤ 100)) && (match oneT fs (ksOf ls) 20 0 with
      | none => false
      | some (t, m) => decide (t.length + 1 = 4 * n) && decide (m ≤ 400)))))))
theorem deep_all : ∀ n, n < 21 → 0 < n → deepB n = true := by decide +kernel
theorem deep_bad {n : Nat} (hn : n < 21) (h : 12 < n) : ∃ ts q, lex_Tokens.f (repZ (repA n) n) = some (ts, q, 0) ∧ ts.length ≤ 1000000 ∧ parseP ts = .error (36, 4) := by
  have hd := deep_all n hn (by omega)
  unfold deepB at hd
  unfold lex_Tokens.f
  rcases htok : tokensOf (codes (repZ (repA n) n)) with ⟨ts, q, e⟩
  rw [htok] at hd
  simp only [Bool.and_eq_true, decide_eq_true_eq] at hd
  obtain ⟨⟨rfl, h1⟩, h2⟩ := hd
  refine ⟨ts, q, rfl, h1, ?_⟩
  cases hp : parseP ts with
  | ok x =>
    obtain ⟨fs, ls⟩ := x
    rw [hp] at h2
    simp only [Bool.and_eq_true, decide_eq_true_eq] at h2
    omega
  | error x =>
    obtain ⟨a, why⟩ := x
    rw [hp] at h2
    simp only [Bool.and_eq_true, decide_eq_true_eq] at h2
    rw [h2.2.1, h2.2.2]
theorem deep_good {n : Nat} (h0 : 0 < n) (h : n ≤ 12) : ∃ ts q fs ls, lex_Tokens.f (repZ (repA n) n) = some (ts, q, 0) ∧ ts.length ≤ 1000000 ∧ parseP ts = .ok (fs, ls) ∧ ls 0 = [(0 : Int)] ∧ fs.length = 2 * n ∧
    depthP fs.length (opOf fs) (ksOf ls) (ls 0) = n ∧ rightB fs (ksOf ls) (ls 0) = true ∧ (∀ f ∈ fs, f.t.size ≤ 140737488351232) ∧ ∃ t m, oneT fs (ksOf ls) 20 0 = some (t, m) ∧ t.length + 1 = 4 * n ∧ m ≤ 400 := by
  have hd := deep_all n (by omega) (by omega)
  unfold deepB at hd
  unfold lex_Tokens.f
  rcases htok : tokensOf (codes (repZ (repA n) n)) with ⟨ts, q, e⟩
  rw [htok] at hd
  simp only [Bool.and_eq_true, decide_eq_true_eq] at hd
  obtain ⟨⟨rfl, h1⟩, h2⟩ := hd
  cases hp : parseP ts with
  | error x =>
    obtain ⟨a, why⟩ := x
    rw [hp] at h2
    simp only [Bool.and_eq_true, decide_eq_true_eq] at h2
    omega
  | ok x =>
    obtain ⟨fs, ls⟩ := x
    rw [hp] at h2
    simp only [Bool.and_eq_true, decide_eq_true_eq, List.all_eq_true] at h2
    obtain ⟨_, e1, e2, e3, e4, e5, e6⟩ := h2
    refine ⟨ts, q, fs, ls, rfl, h1, hp, e1, e2, e3, e4, fun f hf => Nat.le_trans (e5 f hf) (by decide), ?_⟩
    cases ho : oneT fs (ksOf ls) 20 0 with
    | none => rw [ho] at e6; cases e6
    | some y =>
      obtain ⟨t, m⟩ := y
      rw [ho] at e6
      simp only [Bool.and_eq_true, decide_eq_true_eq] at e6
      exact ⟨t, m, rfl, e6.1, e6.2⟩
end Go.Proofs.Ytiojfdgagdofiaa.HP
/-
TopNested over the translation.
-/
set_option linter.unusedVariables false
set_option linter.unusedSimpArgs false
namespace Go.Proofs.Ytiojfdgagdofiaa.HP
open Go.RowKit Go.Proofs.Ytiojfdgagdofiaa.HB Go.Proofs.Ytiojfdgagdofiaa.HK Go.Proofs.YtiojfdgagdofiaaW.PrintWords Go.Proofs.YtiojfdgagdofiaaW.PrintLast Go.Proofs.YtiojfdgagdofiaaW.PrintMore
set_option maxHeartbeats 8000000 in
set_option maxRecDepth 100000 in
theorem nested_walk (M : Nat) (hM : M ≤ 255) (w : World) :
    Calls Try.prog 13 #[.int .u8 (M : Int)] w fun e w' => e = .returned (.bool true) ∧ Below w.heap.size w w' := by
  obtain ⟨n, hn⟩ : ∃ n, n = M % 20 + 1 := ⟨_, rfl⟩
  have hn1 : 1 ≤ n ∧ n ≤ 20 := by omega
  have m1 : ((M : Int)).tmod 20 = ((M % 20 : Nat) : Int) := by rw [Int.tmod_eq_emod_of_nonneg (by omega)]; omega
  have w1 : IntKind.i64.wrap (M : Int) = (M : Int) := IntWalk.i64_in _ (by omega)
  go_enter Try.func13, Try.ntmps13
  go_wp2_with (fail)
  rw [show ((M : Int) % 20 + 1) = (n : Int) by omega]
  clear m1 w1 hn
  go_loop [4, 5] (fun t i => ∃ j : Nat, j ≤ n ∧ t = .string (repA j) ∧ i = .int .i64 (j : Int)) (fun _ i => n - (intOf i).toNat)
  case atStart => exact ⟨0, Nat.zero_le _, rfl, rfl⟩
  case round =>
    obtain ⟨j, hj, rfl, rfl⟩ := hrel
    have hs := repA_size j
    by_cases hlt : j < n
    · have qd : decide ((j : Int) < (n : Int)) = true := decide_eq_true (by omega)
      have hw : IntKind.i64.wrap ((j : Int) + 1) = ((j + 1 : Nat) : Int) := by rw [IntWalk.i64_in _ (by omega)]; omega
      have hsz : (repA j).size + 3 ≤ 9223372036854775807 := by omega
      go_wp2
      go_round
      case measure => simp [intOf]; omega
      case rel => exact ⟨j + 1, by omega, rfl, rfl⟩
    · obtain rfl : j = n := by omega
      have qd : decide ((j : Int) < (j : Int)) = false := decide_eq_false (by omega)
      clear hlt
      obtain ⟨S, hS⟩ : ∃ S, S = repA j := ⟨_, rfl⟩
      rw [← hS] at hs ⊢
      have HSS := Lib.hid hS
      clear hS
      go_wp2_with (fail)
      go_loop [4, 6] (fun t i => ∃ m : Nat, m ≤ j ∧ t = .string (repZ S m) ∧ i = .int .i64 (m : Int)) (fun _ i => j - (intOf i).toNat)
      case atStart => exact ⟨0, Nat.zero_le _, rfl, rfl⟩
      case round =>
        obtain ⟨m, hm, rfl, rfl⟩ := hrel
        have hs2 := repZ_size S m
        by_cases hlt : m < j
        · have qd : decide ((m : Int) < (j : Int)) = true := decide_eq_true (by omega)
          have hw : IntKind.i64.wrap ((m : Int) + 1) = ((m + 1 : Nat) : Int) := by rw [IntWalk.i64_in _ (by omega)]; omega
          have hsz : (repZ S m).size + 1 ≤ 9223372036854775807 := by omega
          go_wp2
          go_round
          case measure => simp [intOf]; omega
          case rel => exact ⟨m + 1, by omega, rfl, rfl⟩
        · obtain rfl : m = j := by omega
          have qd : decide ((m : Int) < (m : Int)) = false := decide_eq_false (by omega)
          rw [HSS.out]
          rw [HSS.out] at hs2
          clear HSS hs hlt hs2 hj hm
          by_cases h12 : 12 < m
          · obtain ⟨ts, z, ht, hl, hp⟩ := deep_bad (n := m) (by omega) h12
            have HP := Lib.hid hp
            have HT := Lib.hid ht
            have q12 : decide ((m : Int) > 12) = true := decide_eq_true (by omega)
            have q12' : decide ((12 : Int) < (m : Int)) = true := decide_eq_true (by omega)
            clear ht hp
            go_wp2_with (fail)
            refine (lex_Tokens.calls _ ts z 0 _ HT.out).mono ?_
            rintro e w1 ⟨v1, rfl, hR1, hb1⟩
            obtain ⟨A1, c1, rfl, hr1⟩ := TRow_of_R hR1
            have HR1 := Lib.hid hr1
            have HB1 := Lib.hid hb1
            clear hR1 hr1 hb1
            go_wp2_with (fail)
            refine (parse_reads _ A1 c1 ts HR1.out hl).mono ?_
            rintro e w3 hE
            rw [HP.out] at hE
            obtain ⟨rfl, hb3⟩ := hE
            have HB3 := Lib.hid (below_then HB1.out HB1.out.size hb3)
            clear hb3
            go_wp2
            refine bodyPost_ret (v := .bool true) (by simp [results, Try.results13, go_sem]) rfl ⟨rfl, HB3.out⟩
          · obtain ⟨ts, z, fs, ls, ht, hl, hp, e1, e2, e3, e4, e5, t, k, e6, e7, e8⟩ := deep_good (n := m) (by omega) (by omega)
            have hpp := parsed hp
            have HP := Lib.hid hp
            have HT := Lib.hid ht
            have H3 := Lib.hid e3
            have H4 := Lib.hid e4
            have H5 := Lib.hid e5
            have H6 := Lib.hid e6
            have hfl := hpp.few
            have HROWS : Hid (∀ i, (ksOf ls i).length ≤ 400) := fun i => hpp.rows _
            have HE1 := Lib.hid e1
            have q12 : decide ((m : Int) > 12) = false := decide_eq_false (by omega)
            have q12' : decide ((12 : Int) < (m : Int)) = false := decide_eq_false (by omega)
            have h0l : 0 < fs.length := by omega
            have HE2 := Lib.hid e2
            clear ht hp e1 e2 e3 e4 e5 e6 hpp
            go_wp2_with (fail)
            refine (lex_Tokens.calls _ ts z 0 _ HT.out).mono ?_
            rintro e w1 ⟨v1, rfl, hR1, hb1⟩
            obtain ⟨A1, c1, rfl, hr1⟩ := TRow_of_R hR1
            have HR1 := Lib.hid hr1
            have HB1 := Lib.hid hb1
            clear hR1 hr1 hb1
            go_wp2_with (fail)
            refine (parse_reads _ A1 c1 ts HR1.out hl).mono ?_
            rintro e w3 hE
            rw [HP.out] at hE
            obtain ⟨AA, cA, BA, dA, rfl, hf1, hi1, hb3⟩ := hE
            rw [HE1.out] at hi1 ⊢
            have HF1 := Lib.hid hf1
            have HI1 := Lib.hid hi1
            have HB3 := Lib.hid (below_then HB1.out HB1.out.size hb3)
            have h4 := H4.out
            have h3 := H3.out
            rw [HE1.out] at h3 h4
            have hpr := print_calls w3 AA BA cA dA fs (ksOf ls) 0 hf1 hi1 hfl HROWS.out H5.out h4 20 t k H6.out (by omega) e8 h0l
            rw [List.length_singleton] at hpr
            have HPR := Lib.hid hpr
            clear hpr
            have H3' := Lib.hid h3
            clear hb3 hf1 hi1 h3 h4
            go_wp2_with (fail)
            refine HPR.out.mono ?_
            rintro e w4 ⟨rfl, hb4⟩
            have HB4 := Lib.hid (below_then HB3.out HB3.out.size hb4)
            have hdc := depth_calls w4 AA BA cA dA fs (ksOf ls) [((0 : Nat) : Int)] (HF1.out.below hb4) (HI1.out.below hb4) (by omega) (fun i => Nat.le_trans (HROWS.out i) (by decide)) (by decide)
            have h3 := H3'.out
            rw [show [((0 : Nat) : Int)] = [(0 : Int)] from rfl, h3, List.length_singleton] at hdc
            have HDC := Lib.hid hdc
            have htsz : (txtOf (t ++ [10])).size = 4 * m := by show (t ++ [10]).toArray.size = _; simp; omega
            have w4m : IntKind.i64.wrap (4 * (m : Int)) = 4 * (m : Int) := IntWalk.i64_in _ (by omega)
            have w2m : IntKind.i64.wrap (2 * (m : Int)) = 2 * (m : Int) := IntWalk.i64_in _ (by omega)
            clear hb4 hdc h3
            go_wp2_with (fail)
            refine HDC.out.mono ?_
            rintro e w5 ⟨rfl, hb5⟩
            have HB5 := Lib.hid (below_then HB4.out HB4.out.size hb5)
            have b1 : ((m : Int) == (m : Int)) = true := by simp
            have b2 : ((fs.length : Int) == 2 * (m : Int)) = true := by rw [HE2.out]; simp
            have b3 : (((4 * m : Nat) : Int) == 4 * (m : Int)) = true := by simp
            clear hb5
            go_wp2
            refine bodyPost_ret (v := .bool true) (by simp [results, Try.results13, go_sem]) rfl ⟨rfl, HB5.out⟩
end Go.Proofs.Ytiojfdgagdofiaa.HP
