/-
The contract of lex.Tokens, over the translation: a text's tokens.
-/
import Derived.Test.YtiojfdgagdofiaaHk2
set_option linter.unusedVariables false
set_option linter.unusedSimpArgs false
namespace Go.Proofs.Ytiojfdgagdofiaa.HK
open Go.RowKit Go.Proofs.YtiojfdgagdofiaaW.PrintWords Go.Proofs.YtiojfdgagdofiaaW.PrintLast Go.Proofs.YtiojfdgagdofiaaW.PrintMore Go.Proofs.Ytiojfdgagdofiaa.HB

/-- The cells of tokens, one behind the other. -/
def tokCells (out : List S37) : List Value := out.flatMap (fun x => [.int .u8 x.f0, .string x.f1, .int .i64 x.f2, .int .i64 x.f3])
theorem tokCells_snoc (out : List S37) (x : S37) : tokCells (out ++ [x]) = tokCells out ++ [.int .u8 x.f0, .string x.f1, .int .i64 x.f2, .int .i64 x.f3] := by
  simp [tokCells]
theorem tokCells_length (out : List S37) : (tokCells out).length = out.length * 4 := by
  unfold tokCells
  rw [List.length_flatMap]
  simp
  induction out with
  | nil => rfl
  | cons x l ih => simp [ih]; omega
def placeOf (w : World) (g : Nat) : Nat := match w.cell? ⟨g, 1, none⟩ with | some (.int _ n) => n.toNat | _ => 0
theorem placeOf_is {w : World} {g : Nat} {s : ByteArray} {a : Nat} {v : Value} (h : IsLexer w g s a v) : placeOf w g = a := by
  unfold placeOf
  rw [h.c1]
  simp
theorem toks_cells (out : List S37) : ∀ (j : Nat) (x : S37), out[j]? = some x → ((tokCells out).drop (j * 4)).take 4 = [.int .u8 x.f0, .string x.f1, .int .i64 x.f2, .int .i64 x.f3] := by
  induction out with
  | nil => intro j x h; simp at h
  | cons y l ih =>
    intro j x h
    cases j with
    | zero =>
      obtain rfl : y = x := by simpa using h
      rfl
    | succ j =>
      have := ih j x (by simpa using h)
      rw [← this]
      show List.take 4 (List.drop ((j + 1) * 4) ([.int .u8 y.f0, .string y.f1, .int .i64 y.f2, .int .i64 y.f3] ++ tokCells l)) = _
      rw [show (j + 1) * 4 = 4 + j * 4 by omega, ← List.drop_drop]
      rfl
theorem R_toks {base : Nat} {w : World} {v : Value} {out : List S37} (h : w.ownsRow base 37 4 v out.length (tokCells out)) : Kd.R k37 37 w base (fun _ => True) v out := by
  refine ⟨fun _ _ => trivial, tokCells out, h, tokCells_length out, fun j p hp => ?_⟩
  have := toks_cells out j p hp
  show k37.M w base _ p (((tokCells out).drop (j * 4)).take 4)
  rw [this]
  exact k37_mkM _ _ _ _
theorem IsLexer.put {w : World} {g : Nat} {s : ByteArray} {a : Nat} {v : Value} (h : IsLexer w g s a v) (b : Nat) : IsLexer (w.setCell ⟨g, 1, none⟩ (.int .i64 b)) g s b v := blk_set h 1 _
/-- What stands at each round's head. -/
def TokRel (w wr : World) (s : ByteArray) (R : List S37 × Int × Int) (a b : Nat) (out : List S37) (v : Value) : Prop :=
  IsLexer wr w.heap.size s a v ∧ wr.ownsRow w.heap.size 37 4 v out.length (tokCells out) ∧ Below w.heap.size w wr ∧ toks b (codes s) a out = R ∧ s.size - a < b
theorem drewN_heap (w : World) (q : Nat) : (w.drewN q).heap = w.heap := rfl
theorem TokRel.put {w wr : World} {s : ByteArray} {R : List S37 × Int × Int} {a b : Nat} {out : List S37} {v : Value} (h : TokRel w wr s R a b out v) (q a' b' : Nat) (ht : toks b' (codes s) a' out = R) (hb : s.size - a' < b') :
    TokRel w ((wr.drewN q).setCell ⟨w.heap.size, 1, none⟩ (.int .i64 a')) s R a' b' out v := by
  obtain ⟨h1, h2, h3, _, _⟩ := h
  refine ⟨IsLexer.put (show IsLexer (wr.drewN q) w.heap.size s a v from h1) a', own_move (w := wr.drewN q) (own_move (w := wr) h2 (fun k hk => rfl)) (fun k hk => Below.heap_setCell _ _ _ k (fun e => ?_)), (pw_below_drewN h3 q).setCell (p := ⟨w.heap.size, 1, none⟩) (Nat.le_refl _) _, ht, hb⟩
  obtain ⟨cells, hc⟩ := own_typed h2 k hk
  have e' : k = w.heap.size := e
  exact blk_ne hc h1 (by decide) e'
theorem TokRel.space {w wr : World} {s : ByteArray} {R : List S37 × Int × Int} {a b : Nat} {out : List S37} {v : Value} (h : TokRel w wr s R a b out v) (ha : a < s.size) (hc : spacedB ((codes s).getD a 0) = true) : ∃ b', toks b' (codes s) (a + 1) out = R ∧ s.size - (a + 1) < b' := by
  obtain ⟨_, _, _, h4, h5⟩ := h
  obtain ⟨b, rfl⟩ : ∃ b', b = b' + 1 := ⟨b - 1, by omega⟩
  rw [toks, if_pos (by rw [codes_length]; exact ha), if_pos hc] at h4
  exact ⟨b, h4, by omega⟩
theorem TokRel.remark {w wr : World} {s : ByteArray} {R : List S37 × Int × Int} {a b : Nat} {out : List S37} {v : Value} (h : TokRel w wr s R a b out v) (ha : a < s.size) (hc : spacedB ((codes s).getD a 0) = false) (h59 : (codes s).getD a 0 = 59) :
    a + remLen ((codes s).drop a) ≤ s.size ∧ 1 ≤ remLen ((codes s).drop a) ∧ ∃ b', toks b' (codes s) (a + remLen ((codes s).drop a)) out = R ∧ s.size - (a + remLen ((codes s).drop a)) < b' := by
  obtain ⟨_, _, _, h4, h5⟩ := h
  obtain ⟨b, rfl⟩ : ∃ b', b = b' + 1 := ⟨b - 1, by omega⟩
  rw [toks, if_pos (by rw [codes_length]; exact ha), if_neg (by rw [hc]; decide), if_pos h59] at h4
  have h1 := remLen_le ((codes s).drop a)
  rw [List.length_drop, codes_length] at h1
  have h2 := remLen_pos (L := codes s) (a := a) (by rw [codes_length]; exact ha) h59
  exact ⟨by omega, h2, b, h4, by omega⟩
theorem TokRel.below {w wr wc : World} {s : ByteArray} {R : List S37 × Int × Int} {a b : Nat} {out : List S37} {v : Value} (h : TokRel w wr s R a b out v) (hb : Below wr.heap.size wr wc) : TokRel w wc s R a b out v := by
  obtain ⟨h1, h2, h3, h4, h5⟩ := h
  exact ⟨blk_below h1 hb, own_move h2 (fun k hk => hb.block k (own_lt h2 k hk)), below_then h3 h3.size hb, h4, h5⟩
/-- What a word does. -/
theorem TokRel.word {w wr : World} {s : ByteArray} {R : List S37 × Int × Int} {a b : Nat} {out : List S37} {v : Value} (h : TokRel w wr s R a b out v) (ha : a < s.size) (hc : spacedB ((codes s).getD a 0) = false) (h59 : (codes s).getD a 0 ≠ 59) :
    a + wordLen ((codes s).drop a) ≤ s.size ∧ 1 ≤ wordLen ((codes s).drop a) ∧
    ((tokenOf (((codes s).drop a).take (wordLen ((codes s).drop a))) a).f0 = 0 → R = ([], (a : Int), 8)) ∧
    ((tokenOf (((codes s).drop a).take (wordLen ((codes s).drop a))) a).f0 ≠ 0 → 600 ≤ out.length → R = ([], (a : Int), 4)) ∧
    ((tokenOf (((codes s).drop a).take (wordLen ((codes s).drop a))) a).f0 ≠ 0 → ¬ 600 ≤ out.length → ∃ b', toks b' (codes s) (a + wordLen ((codes s).drop a)) (out ++ [tokenOf (((codes s).drop a).take (wordLen ((codes s).drop a))) a]) = R ∧ s.size - (a + wordLen ((codes s).drop a)) < b') := by
  obtain ⟨_, _, _, h4, h5⟩ := h
  obtain ⟨b, rfl⟩ : ∃ b', b = b' + 1 := ⟨b - 1, by omega⟩
  rw [toks, if_pos (by rw [codes_length]; exact ha), if_neg (by rw [hc]; decide), if_neg h59] at h4
  have h1 := wordLen_le ((codes s).drop a)
  rw [List.length_drop, codes_length] at h1
  have h2 := wordLen_pos (L := codes s) (a := a) (by rw [codes_length]; exact ha) hc h59
  refine ⟨by omega, h2, fun h0 => ?_, fun h0 h6 => ?_, fun h0 h6 => ?_⟩
  · rw [if_pos h0] at h4; exact h4.symm
  · rw [if_neg h0, if_pos h6] at h4; exact h4.symm
  · rw [if_neg h0, if_neg h6] at h4; exact ⟨b, h4, by omega⟩
theorem tok_held {wr w' : World} {k : Nat} {o : Obj} (hb : Below ((wr.drewN k).alloc o).heap.size ((wr.drewN k).alloc o) w') : w'.heap[wr.heap.size]? = some o := blk_below (heap_alloc_new (wr.drewN k) o) hb
theorem tok_last {wr w' : World} {q : Nat} {k0 k2 k3 : Int} {k1 : ByteArray} (hb : Below (wr.drewN q).heap.size (wr.drewN q) w') :
    ∃ g, Value.pointer (some ⟨w'.heap.size, 0, none⟩) = .pointer (some ⟨g, 0, none⟩) ∧ wr.heap.size ≤ g ∧ Hid ((w'.alloc (.cells #[.int .u8 k0, .string k1, .int .i64 k2, .int .i64 k3] 37)).heap[g]? = some (.cells #[.int .u8 k0, .string k1, .int .i64 k2, .int .i64 k3] 37 (0, 0))) ∧ Hid (Below wr.heap.size wr (w'.alloc (.cells #[.int .u8 k0, .string k1, .int .i64 k2, .int .i64 k3] 37))) :=
  ⟨_, rfl, hb.size, heap_alloc_new w' _, ((pw_below_drewN (Below.refl _ wr) q).trans hb).alloc hb.size _⟩
theorem tok_first {wr w' : World} {q : Nat} {k0 k2 k3 : Int} {k1 : ByteArray} {o : Obj} (hal : w'.heap[wr.heap.size]? = some (.cells #[.int .u8 0, .string ⟨#[]⟩, .int .i64 0, .int .i64 0] 37 (0, 0))) (hb : Below ((wr.drewN q).alloc o).heap.size ((wr.drewN q).alloc o) w') :
    ∃ g, Value.pointer (some ⟨wr.heap.size, 0, none⟩) = .pointer (some ⟨g, 0, none⟩) ∧ wr.heap.size ≤ g ∧ Hid (((((w'.setCell ⟨wr.heap.size, 0, none⟩ (.int .u8 k0)).setCell ⟨wr.heap.size, 1, none⟩ (.string k1)).setCell ⟨wr.heap.size, 2, none⟩ (.int .i64 k2)).setCell ⟨wr.heap.size, 3, none⟩ (.int .i64 k3)).heap[g]? = some (.cells #[.int .u8 k0, .string k1, .int .i64 k2, .int .i64 k3] 37 (0, 0))) ∧
      Hid (Below wr.heap.size wr ((((w'.setCell ⟨wr.heap.size, 0, none⟩ (.int .u8 k0)).setCell ⟨wr.heap.size, 1, none⟩ (.string k1)).setCell ⟨wr.heap.size, 2, none⟩ (.int .i64 k2)).setCell ⟨wr.heap.size, 3, none⟩ (.int .i64 k3))) :=
  ⟨_, rfl, Nat.le_refl _, blk_set (blk_set (blk_set (blk_set hal 0 _) 1 _) 2 _) 3 _,
    (((((((pw_below_drewN (Below.refl _ wr) q).alloc (Nat.le_refl _) o).trans (hb.mono (by show wr.heap.size ≤ ((wr.drewN q).alloc o).heap.size; simp [World.alloc]))).setCell (p := ⟨wr.heap.size, 0, none⟩) (Nat.le_refl _) _).setCell (p := ⟨wr.heap.size, 1, none⟩) (Nat.le_refl _) _).setCell (p := ⟨wr.heap.size, 2, none⟩) (Nat.le_refl _) _).setCell (p := ⟨wr.heap.size, 3, none⟩) (Nat.le_refl _) _)⟩
theorem row_apart {w w1 : World} {g t base n : Nat} {cs : Array Value} {v : Value} {xs : List Value} (hg : w.heap[g]? = some (.cells cs t (0, 0))) (ho : w.drew.ownsRow base 37 4 v n xs) (ht : 37 ≠ t) (hgr : w.drew.grownBy w1 v.ownBlock) : w1.heap[g]? = some (.cells cs t (0, 0)) :=
  blk_grown (w := w.drew) hg hgr (by
    intro e
    obtain ⟨cells, hc⟩ := own_typed ho _ e.symm
    exact blk_ne (w := w.drew) hc hg ht rfl)
theorem tok_one (k0 k2 k3 : Int) (k1 : ByteArray) : ∀ u ∈ [Value.int .u8 k0, Value.string k1, Value.int .i64 k2, Value.int .i64 k3], u.oneCell' = true := by
  intro u hu
  simp at hu
  rcases hu with rfl | rfl | rfl | rfl <;> rfl
theorem TokRel.more {w w3 : World} {s : ByteArray} {R : List S37 × Int × Int} {a a' b' : Nat} {out : List S37} {v v3 : Value} {T : S37} (hl : IsLexer w3 w.heap.size s a v) (ho : w3.ownsRow w.heap.size 37 4 v3 (out.length + 1) (tokCells out ++ [.int .u8 T.f0, .string T.f1, .int .i64 T.f2, .int .i64 T.f3]))
    (hb : Below w.heap.size w w3) (ht : toks b' (codes s) a' (out ++ [T]) = R) (hs : s.size - a' < b') : TokRel w ((w3.setCell ⟨w.heap.size, 2, none⟩ v3).setCell ⟨w.heap.size, 1, none⟩ (.int .i64 a')) s R a' b' (out ++ [T]) v3 := by
  refine ⟨blk_set (blk_set hl 2 v3) 1 _, ?_, (hb.setCell (p := ⟨w.heap.size, 2, none⟩) (Nat.le_refl _) _).setCell (p := ⟨w.heap.size, 1, none⟩) (Nat.le_refl _) _, ht, hs⟩
  rw [tokCells_snoc, List.length_append, List.length_singleton]
  have hne : ∀ k, v3.ownBlock = some k → k ≠ w.heap.size := fun k hk e => by
    obtain ⟨cells, hc⟩ := own_typed ho k hk
    exact blk_ne hc hl (by decide) e
  exact own_move (own_move ho (fun k hk => Below.heap_setCell _ _ _ k (hne k hk))) (fun k hk => Below.heap_setCell _ _ _ k (hne k hk))
theorem cut_str (s : ByteArray) (a n : Nat) (h : a + n ≤ s.size) (W : World) : (Instr.slice 9 (.string s) (some (.int .i64 (a : Int))) (some (.int .i64 ((a : Int) + (n : Int)))) none).run Try.prog W = .ok (.string (s.extract a (a + n))) W := by
  have := run_slice_string (P := Try.prog) W 9 s .i64 .i64 (a : Int) ((a : Int) + (n : Int)) Try.underlying9 (by omega) (by omega) (by omega)
  rw [this, Int.toNat_natCast, show ((a : Int) + (n : Int)).toNat = a + n by omega]
set_option maxHeartbeats 20000000 in
set_option maxRecDepth 100000 in
theorem tokens_go (s : ByteArray) (w : World) (hs : s.size ≤ 3000) (R1 : List S37) (R2 R3 : Int) (hR : tokensOf (codes s) = (R1, R2, R3)) :
    Calls Try.prog 24 #[.string s] w fun e w' => ∃ v0_ : Value, e = .returned (.tuple #[v0_, .int .i64 R2, .int .i64 R3]) ∧ Kd.R k37 37 w' w.heap.size (fun _ => True) v0_ R1 ∧ Below w.heap.size w w' := by
  have hl := codes_length s
  have hR' : Hid (toks ((codes s).length + 1) (codes s) 0 [] = (R1, R2, R3)) := by
    unfold tokensOf at hR
    rw [if_neg (by omega)] at hR
    exact hR
  have HLEN := Lib.hid hl
  clear hR hl
  have e0 : decide ((3000 : Int) < (s.size : Int)) = false := by simp; omega
  go_enter Try.func24, Try.ntmps24
  go_wp2_with (fail)
  go_loopw [6] (fun _ wr => ∃ (a b : Nat) (out : List S37) (v : Value), a ≤ s.size ∧ out.length ≤ 600 ∧ Hid (TokRel w wr s (R1, R2, R3) a b out v)) (fun _ wr => s.size - placeOf wr w.heap.size)
  case atStart =>
    refine ⟨0, (codes s).length + 1, [], .slice none 0 0, Nat.zero_le _, Nat.zero_le _, ?_, own_nil _ _ _ _, (Below.refl _ w).alloc (Nat.le_refl _) _, hR'.out, by rw [HLEN.out]; omega⟩
    exact heap_alloc_new w _
  case round =>
    obtain ⟨a, b, out, v, ha, ho6, hT⟩ := hrel
    by_cases hlt : a < s.size
    · have h1 := hT.out.1.c1
      have f1 : wr.frozen? ⟨w.heap.size, 1, none⟩ = false := blk_frozen hT.out.1 1
      have hcc := byte_code s a hlt
      obtain ⟨c, hc⟩ : ∃ c, c = ((s[a]'hlt).toNat : Int) := ⟨_, rfl⟩
      have hb : 0 ≤ c ∧ c ≤ 255 := by have := (s[a]'hlt).toNat_lt; omega
      have HSP : Hid (∀ w, Calls Try.prog 32 #[.int .u8 ((s[a]'hlt).toNat : Int)] w fun e w' => e = .returned (.bool (spacedB c)) ∧ Drawn0 w w') := by
        intro w
        rw [← hc]
        exact lex_Spaced.calls c _ w (spaced_f c)
      have HC : Hid (c = (codes s).getD a 0) := by show _ = _; rw [hc]; exact hcc
      by_cases hsp : spacedB c = true
      · have hst := Lib.hid (hT.out.space hlt (by rw [← HC.out]; exact hsp))
        rw [hsp] at HSP
        clear hcc hc hsp
        go_wp2_with (fail)
        refine (HSP.out _).mono ?_
        rintro e w' ⟨rfl, q, rfl⟩
        go_wp2
        obtain ⟨b', hb1, hb2⟩ := hst.out
        have hT' := hT.out.put q (a + 1) b' hb1 hb2
        rw [Int.natCast_add, Int.natCast_one] at hT'
        go_roundw
        case measure => rw [placeOf_is hT.out.1, placeOf_is hT'.1]; omega
        case rel => exact ⟨a + 1, b', out, v, by omega, ho6, hT'⟩
      · have hsp' : spacedB c = false := by simpa using hsp
        rw [hsp'] at HSP
        by_cases h59 : c = 59
        · have hst := hT.out.remark hlt (by rw [← HC.out]; exact hsp') (by rw [← HC.out]; exact h59)
          obtain ⟨hn1, hn2, hn3⟩ := hst
          have HRM : Hid (∀ W', IsLexer W' w.heap.size s a v → Calls Try.prog 50 #[.pointer (some ⟨w.heap.size, 0, none⟩)] W' fun e w' => e = .returned (.int .i64 ((remLen ((codes s).drop a) : Nat) : Int)) ∧ ∃ n, w' = W'.drewN n) := fun W' hg =>
            remark_calls w.heap.size s a v W' hg (by omega) hs
          obtain ⟨n, hn⟩ : ∃ n, n = remLen ((codes s).drop a) := ⟨_, rfl⟩
          rw [← hn] at HRM hn1 hn2 hn3
          have HST := Lib.hid hn3
          have e59 : (((s[a]'hlt).toNat : Int) == 59) = true := by rw [← hc, h59]; rfl
          have HN := Lib.hid hn
          have ew : IntKind.i64.wrap ((a : Int) + (n : Int)) = (a : Int) + (n : Int) := IntWalk.i64_in _ ⟨by omega, by omega⟩
          clear hcc hc hsp hsp' h59 hn hn3
          go_wp2_with (fail)
          refine (HSP.out _).mono ?_
          rintro e w' ⟨rfl, q, rfl⟩
          go_wp2_with (fail)
          go_region_with ((go_at_call 50; refine (HRM.out _ (by exact hT.out.1)).mono ?_; rintro e w' ⟨rfl, q2, rfl⟩))
          all_goals
            go_wp2
            obtain ⟨b', hb1, hb2⟩ := HST.out
            have hT' := hT.out.put (q + 1 + q2) (a + n) b' hb1 hb2
            rw [Int.natCast_add] at hT'
            go_roundw
            case measure => rw [placeOf_is hT.out.1, placeOf_is hT'.1]; omega
            case rel => exact ⟨a + n, b', out, v, hn1, ho6, hT'⟩
        · obtain ⟨hn1, hn2, hz, h6, hgo⟩ := hT.out.word hlt (by rw [← HC.out]; exact hsp') (by rw [← HC.out]; exact h59)
          have HLN : Hid (∀ W', IsLexer W' w.heap.size s a v → Calls Try.prog 51 #[.pointer (some ⟨w.heap.size, 0, none⟩)] W' fun e w' => e = .returned (.int .i64 ((wordLen ((codes s).drop a) : Nat) : Int)) ∧ ∃ n, w' = W'.drewN n) := fun W' hg =>
            length_calls w.heap.size s a v W' hg hlt hs
          obtain ⟨n, hn⟩ : ∃ n, n = wordLen ((codes s).drop a) := ⟨_, rfl⟩
          rw [← hn] at HLN hn1 hn2 hz h6 hgo
          have hpc : codes (s.extract a (a + n)) = ((codes s).drop a).take n := by rw [codes_extract, List.drop_take, Nat.add_sub_cancel_left]
          rw [← hpc] at hz h6 hgo
          have hsz : (s.extract a (a + n)).size ≤ 3000 := by rw [← codes_length, hpc, List.length_take, List.length_drop]; have := HLEN.out; omega
          have HTK : Hid (∀ W', Calls Try.prog 52 #[.string (s.extract a (a + n)), .int .i64 a] W' fun e w' => e = .returned (.agg #[.int .u8 (tokenOf (codes (s.extract a (a + n))) a).f0, .string (tokenOf (codes (s.extract a (a + n))) a).f1, .int .i64 (tokenOf (codes (s.extract a (a + n))) a).f2, .int .i64 (tokenOf (codes (s.extract a (a + n))) a).f3]) ∧ Below W'.heap.size W' w') := fun W' => token_calls _ a W' hsz
          obtain ⟨T, hTe⟩ : ∃ T, T = tokenOf (codes (s.extract a (a + n))) a := ⟨_, rfl⟩
          rw [← hTe] at HTK hz h6 hgo
          obtain ⟨k0, k1, k2, k3⟩ := T
          have Hz := Lib.hid hz
          have H6 := Lib.hid h6
          have HG := Lib.hid hgo
          have e59 : (((s[a]'hlt).toNat : Int) == 59) = false := by rw [← hc]; simpa using h59
          have HN := Lib.hid hn
          have ew : IntKind.i64.wrap ((a : Int) + (n : Int)) = (a : Int) + (n : Int) := IntWalk.i64_in _ ⟨by omega, by omega⟩
          clear hcc hc hsp hsp' h59 hn hz h6 hgo hpc hsz hTe
          go_wp2_with (fail)
          refine (HSP.out _).mono ?_
          rintro e w' ⟨rfl, q, rfl⟩
          go_wp2_with (fail)
          refine (HLN.out _ (by exact hT.out.1)).mono ?_
          rintro e w' ⟨rfl, q2, rfl⟩
          go_upto_block 2 with (fail)
          go_cut [8] (fun v8 wc => ∃ g, v8 = .pointer (some ⟨g, 0, none⟩) ∧ wr.heap.size ≤ g ∧ Hid (wc.heap[g]? = some (.cells #[.int .u8 k0, .string k1, .int .i64 k2, .int .i64 k3] 37 (0, 0))) ∧ Hid (Below wr.heap.size wr wc))
          case first =>
            have hsl : ∀ W, (Instr.slice 9 (.string s) (some (.int .i64 (a : Int))) (some (.int .i64 ((a : Int) + (n : Int)))) none).run Try.prog W = .ok (.string (s.extract a (a + n))) W := fun W => cut_str s a n hn1 W
            have hne1 : wr.heap.size ≠ w.heap.size := World.new_ne wr ⟨w.heap.size, 1, none⟩ h1
            go_region_held3 (fun w' => w'.cell? ⟨w.heap.size, 1, none⟩ = some (.int .i64 a)) (first | go_keep | assumption) (first | (go_at_call 52; refine (HTK.out _).mono ?_; rintro e w' ⟨rfl, hb⟩; have hk : w'.cell? ⟨w.heap.size, 1, none⟩ = some (.int .i64 a) := pw_cell_below hb (by first | assumption | simp [*, World.cell?_alloc_some]); have hal : w'.heap[wr.heap.size]? = some (.cells #[.int .u8 0, .string ⟨#[]⟩, .int .i64 0, .int .i64 0] 37 (0, 0)) := (by with_reducible exact tok_held hb); have y := tok_cells hal; have y0 := y.1; have y1 := y.2.1; have y2 := y.2.2.1; have y3 := y.2.2.2.1; have z0 := y.2.2.2.2.1; have z1 := y.2.2.2.2.2.1; have z2 := y.2.2.2.2.2.2.1; have z3 := y.2.2.2.2.2.2.2; clear y; have hal2 := Lib.hid hal; clear hal; have hb2 := Lib.hid hb; clear hb) | (go_at_call 52; refine (HTK.out _).mono ?_; rintro e w' ⟨rfl, hb⟩; have hk : w'.cell? ⟨w.heap.size, 1, none⟩ = some (.int .i64 a) := pw_cell_below hb (by first | assumption | simp [*, World.cell?_alloc_some]); have hb2 := Lib.hid hb; clear hb))
            all_goals first
              | (go_wp2
                 go_meet
                 case rel => exact tok_last hb2.out)
              | (go_wp2
                 go_meet
                 case rel => exact tok_first hal2.out hb2.out)
          case rest =>
            obtain ⟨g, rfl, hg, hgc, hbc⟩ := hcut
            have hTc := Lib.hid (hT.out.below hbc.out)
            obtain ⟨A, cap, rfl, hcap, _⟩ := Kd.R_reads (R_toks hT.out.2.1)
            have hbw := Lib.hid (below_then hT.out.2.2.1 hT.out.2.2.1.size hbc.out)
            have hgB : w.heap.size + 1 ≤ g := by have := World.block_lt_of_cell? wr ⟨w.heap.size, 1, none⟩ h1; simp at this; omega
            obtain ⟨a0, a1, a2, a3, _, _, _, _⟩ := tok_cells hgc.out
            have d1 := hTc.out.1.c1
            have d2 := hTc.out.1.c2
            have df1 : wc.frozen? ⟨w.heap.size, 1, none⟩ = false := blk_frozen hTc.out.1 1
            have df2 : wc.frozen? ⟨w.heap.size, 2, none⟩ = false := blk_frozen hTc.out.1 2
            clear h1 f1
            by_cases hk0 : k0 = 0
            · have hR := Lib.hid (Hz.out hk0)
              have ek : (k0 == 0) = true := by simpa using hk0
              clear hk0
              go_wp2_with (fail)
              go_quiet (fail)
              go_wp2
              go_ret3
              have h := hR.out
              simp only [Prod.mk.injEq] at h
              obtain ⟨rfl, rfl, rfl⟩ := h
              exact ⟨_, rfl, Kd.R_nil _ _ _ _ _, pw_below_drewN hbw.out _⟩
            · have ek : (k0 == 0) = false := by simpa using hk0
              by_cases h600 : 600 ≤ out.length
              · have hR := Lib.hid (H6.out hk0 h600)
                have e6 : decide ((600 : Int) ≤ (out.length : Int)) = true := by simp; omega
                clear hk0 h600
                go_wp2_with (fail)
                go_quiet (fail)
                go_wp2
                go_ret3
                have h := hR.out
                simp only [Prod.mk.injEq] at h
                obtain ⟨rfl, rfl, rfl⟩ := h
                exact ⟨_, rfl, Kd.R_nil _ _ _ _ _, pw_below_drewN hbw.out _⟩
              · have hR := Lib.hid (HG.out hk0 h600)
                have e6 : decide ((600 : Int) ≤ (out.length : Int)) = false := by simp; omega
                clear hk0
                go_wp2_with (fail)
                have hO : wc.drew.ownsRow w.heap.size 37 4 (.slice A out.length cap) out.length (tokCells out) := own_move hTc.out.2.1 (fun _ _ => rfl)
                have HO := Lib.hid hO
                have hBd := Lib.hid (below_drew hbw.out)
                clear hO
                have hal1 : (wc.alloc (.cells #[.int .u8 k0, .string k1, .int .i64 k2, .int .i64 k3] 37)).cell? ⟨w.heap.size, 2, none⟩ = some (.slice A out.length cap) := (World.cell?_alloc_some _ _ _ (by rw [d2]; rfl)).trans d2
                have hlong : (out.length + 1) * 40 ≤ 140737488355328 := by omega
                go_region_law (refine step_append_cells (W := wc.drew) (w0 := w) w.heap.size rfl (.tmp 90) (.tmp 92) 22 37 (.agg #[.int .u8 0, .string ⟨#[]⟩, .int .i64 0, .int .i64 0]) 4 40 rfl Try.underlying22 info37 rfl (by decide) (by decide) (.slice A out.length cap) out.length (tokCells out) [.int .u8 k0, .string k1, .int .i64 k2, .int .i64 k3] rfl rfl rfl (tok_one k0 k2 k3 k1) HO.out hBd.out hBd.out.size hlong ?_; intro v3 w3 hown3 hb3 hg3 hat3; obtain ⟨g3, cap3, rfl, _, _⟩ := hown3.form (Nat.succ_pos _); have hL3 := Lib.hid (row_apart hTc.out.1 HO.out (by decide) hg3); have c31 := IsLexer.c1 hL3.out; have c32 := IsLexer.c2 hL3.out; have f31 := blk_frozen hL3.out 1; have f32 := blk_frozen hL3.out 2; have HO3 := Lib.hid hown3; clear hown3 hg3 hat3)
                all_goals
                  go_wp2
                  obtain ⟨b', hb1, hb2⟩ := hR.out
                  have hT' := TokRel.more (T := ⟨k0, k1, k2, k3⟩) hL3.out HO3.out hb3 hb1 hb2
                  rw [Int.natCast_add] at hT'
                  go_roundw
                  case measure => rw [placeOf_is hT.out.1, placeOf_is hT'.1]; omega
                  case rel => exact ⟨a + n, b', out ++ [⟨k0, k1, k2, k3⟩], .slice (some ⟨g3, 0, none⟩) (out.length + 1) cap3, hn1, by rw [List.length_append, List.length_singleton]; omega, Lib.hid hT'⟩
    · obtain rfl : a = s.size := by omega
      have h2 := hT.out.1.c2
      have h1 := hT.out.1.c1
      have hend : Hid (R1 = out ∧ R2 = 0 ∧ R3 = 0) := by
        have h := hT.out.2.2.2.1
        have hb := hT.out.2.2.2.2
        obtain ⟨b, rfl⟩ : ∃ b', b = b' + 1 := ⟨b - 1, by omega⟩
        rw [toks, if_neg (by rw [HLEN.out]; omega)] at h
        simp only [Prod.mk.injEq] at h
        exact ⟨h.1.symm, h.2.1.symm, h.2.2.symm⟩
      go_wp2
      go_ret3
      obtain ⟨rfl, rfl, rfl⟩ := hend.out
      exact ⟨_, rfl, R_toks hT.out.2.1, hT.out.2.2.1⟩
set_option maxHeartbeats 1000000 in
set_option maxRecDepth 100000 in
theorem tokens_long (s : ByteArray) (w : World) (hs : 3000 < s.size) :
    Calls Try.prog 24 #[.string s] w fun e w' => ∃ v0_ : Value, e = .returned (.tuple #[v0_, .int .i64 0, .int .i64 4]) ∧ Kd.R k37 37 w' w.heap.size (fun _ => True) v0_ [] ∧ Below w.heap.size w w' := by
  have e0 : decide ((3000 : Int) < (s.size : Int)) = true := by simp; omega
  go_enter Try.func24, Try.ntmps24
  go_wp2
  go_ret3
  exact ⟨_, rfl, Kd.R_nil _ _ _ _ _, Below.refl _ _⟩
def lex_Tokens.f (s : ByteArray) : Option (List S37 × Int × Int) := some (tokensOf (codes s))
theorem lex_Tokens.calls (s : ByteArray) (r1 : List S37) (r2 : Int) (r3 : Int) (w : World) (h : lex_Tokens.f s = some (r1, r2, r3)) :
    Calls Try.prog 24 #[.string s] w fun e w' => ∃ v0_ : Value, e = .returned (.tuple #[v0_, .int .i64 r2, .int .i64 r3]) ∧ Kd.R k37 37 w' w.heap.size (fun _ => True) v0_ r1 ∧ Below w.heap.size w w' := by
  have h := Option.some.inj h
  by_cases hs : 3000 < s.size
  · unfold tokensOf at h
    rw [if_pos (by rw [codes_length]; exact hs)] at h
    simp only [Prod.mk.injEq] at h
    obtain ⟨rfl, rfl, rfl⟩ := h
    exact tokens_long s w hs
  · exact tokens_go s w (by omega) r1 r2 r3 h
end Go.Proofs.Ytiojfdgagdofiaa.HK
