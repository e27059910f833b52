/-
Texts joined: TsN, TsO, TsP.
-/
import Derived.Test.YtiojfdgagdofiaaJ4
import Derived.Deep.Slices
import Derived.Deep.Fields
import Derived.SizedLaws
import Derived.ChangeSame
import Derived.WalkKit
import Derived.ProofKit
import Derived.OpenShut
/-
What a row's arguments are: slices of tokens, and of forms, opened to their cells, with what their sizes are.
-/
set_option linter.unusedVariables false
set_option linter.unusedSimpArgs false
namespace Go.Proofs.Ytiojfdgagdofiaa.HP
open Go.ChangeShapes Go.WideShapes Go.ChangeAt Go.RowKit Go.Deep Go.Proofs.Ytiojfdgagdofiaa.HB Go.Proofs.Ytiojfdgagdofiaa.HK Go.Proofs.YtiojfdgagdofiaaW.PrintWords
/-- A slice of structs: each field's cell, and how it is read. -/
theorem weightsAll_mem {H : Type} {P : Program} {e : TypeId} : ∀ {ds : List (DataW H)} {d : DataW H}, d ∈ ds → ∀ n ∈ d.weights P e, n ∈ DataW.weightsAll P e ds
  | x :: r, d, hd, n, hn => by
    rw [DataW.weightsAll]
    rcases List.mem_cons.1 hd with rfl | hd
    · exact List.mem_append_left _ hn
    · exact List.mem_append_right _ (weightsAll_mem hd n hn)
  | [], d, hd, _, _ => by simp at hd
theorem slice_structs_sized {H : Type} {enc : TypeId × Value → H} {P : Program} {W : World} {base : Nat} {spare : Nat → Bool} {held : Bool} {t e : TypeId} {fs : Array Field} {A : Option Addr} {len cap : Nat} {d : DataW H} {p : List MemPlace}
    (ht : P.underlying t = some (.slice e)) (he : P.underlying e = some (.struct fs)) (h1 : oneCellFields P fs = true) (hC : P.cellsOf e = fs.size) (hpos : 0 < fs.size) (h : DataW.Trod enc P W base spare held t (.slice A len cap) d p) :
    len ≤ cap ∧ cap ≤ maxLen ∧ ∀ i, i < len → ∃ g o, A = some ⟨g, o, none⟩ ∧ ∀ (j : Nat) (f : Field), fs[j]? = some f → ∃ v y n, W.cell? ⟨g, o + i * fs.size + j, none⟩ = some v ∧ DataW.trod enc P W base spare held n f.type [v] = some y ∧ ∀ k ∈ y.1.weights P f.type, k ∈ d.weights P t := by
  obtain ⟨fuel, hf⟩ := h
  rcases open_slice ht hf with ⟨hcs, _⟩ | ⟨a, l, c, m, n, D, Pl, hcs, _, hl, hm, hmm, hdx, hx⟩
  · simp [Value.cells] at hcs
    obtain ⟨rfl, rfl, rfl⟩ := hcs
    exact ⟨Nat.le_refl _, by decide, fun i hi => by omega⟩
  · simp [Value.cells] at hcs
    obtain ⟨rfl, rfl, rfl⟩ := hcs
    have hlm : len ≤ m := by rw [hmm]; split <;> omega
    refine ⟨hl, hm, fun i hi => ?_⟩
    have hfld : ∀ i, i < m → ∀ (j : Nat) (f : Field), fs[j]? = some f → ∃ v y k, W.cell? (a.add (i * fs.size + j)) = some v ∧ DataW.trod enc P W base spare held k f.type [v] = some y ∧ (i < len → ∀ k ∈ y.1.weights P f.type, k ∈ d.weights P t) := by
      intro i hi j f hj
      obtain ⟨cs', hc, hr⟩ := hx i hi
      rw [hC] at hc
      obtain ⟨_, hlen, hat⟩ := World.cells?_some hc
      obtain ⟨xs, k, _, hxe, _, hxl, hfs⟩ := DataW.trod_struct he hr
      obtain ⟨ho, hone⟩ := hone_of h1 j f hj
      have hjl : j < fs.size := (Array.getElem?_eq_some_iff.1 hj).1
      have hjc : j < cs'.length := by omega
      have hcell := hat j hjl
      rw [List.getElem?_eq_getElem hjc, Go.Deep.add_add] at hcell
      have hread := hfs j f hj
      rw [ho, hone, List.drop_eq_getElem_cons hjc] at hread
      rw [List.getElem?_eq_getElem (show j < xs.length by omega)] at hread
      refine ⟨_, _, k, hcell, hread, fun hil z hz => ?_⟩
      simp only [Prod.mk.injEq] at hdx hxe
      rw [hdx.1, DataW.weights, ht]
      dsimp only
      refine List.mem_cons_of_mem _ (List.mem_append_left _ (weightsAll_mem (d := D i) (List.mem_map.2 ⟨i, List.mem_range.2 hil, rfl⟩) z ?_))
      rw [hxe.1, DataW.weights, he]
      dsimp only
      refine DataW.weights_mem_each (j := j) (t := f.type) (d := (xs[j]'(by omega)).1) ?_ ?_ z hz
      · rw [List.getElem?_map, Array.getElem?_toList, hj]; rfl
      · rw [List.getElem?_map, List.getElem?_eq_getElem (show j < xs.length by omega)]; rfl
    have hspot : a.spot = none := by
      obtain ⟨v, y, k, hc, _, _⟩ := hfld 0 (by omega) 0 fs[0] (by rw [Array.getElem?_eq_getElem])
      rw [Nat.zero_mul, Nat.zero_add] at hc
      have e0 : a.add 0 = a := by simp [Addr.add]
      rw [e0] at hc
      unfold World.cell? at hc
      cases hs : a.spot with
      | none => rfl
      | some s =>
        rw [hs] at hc
        split at hc <;> simp at hc
    refine ⟨a.block, a.off, ?_, fun j f hj => ?_⟩
    · cases a
      simp at hspot
      subst hspot
      rfl
    · obtain ⟨v, y, k, hc, hr, hwt⟩ := hfld i (by omega) j f hj
      refine ⟨v, y, k, ?_, hr, hwt hi⟩
      have e1 : a.add (i * fs.size + j) = ⟨a.block, a.off + i * fs.size + j, none⟩ := by
        unfold Addr.add
        split
        · rename_i hz
          rw [show a.off + i * fs.size + j = a.off by omega]
          cases a
          simp at hspot
          subst hspot
          rfl
        · cases a
          simp [hspot, Nat.add_assoc]
      rw [← e1]
      exact hc
theorem arg_tokens_sized {H : Type} {enc : TypeId × Value → H} {W : World} {base : Nat} {spare : Nat → Bool} {held : Bool} {A : Option Addr} {len cap : Nat} {d : DataW H} {p : List MemPlace}
    (h : DataW.Trod enc Try.prog W base spare held 22 (.slice A len cap) d p) (hlt : ∀ x ∈ p, x.block < W.heap.size) (hsz : ∀ k ∈ d.weights Try.prog 22, k ≤ 140737488351232) : ∃ ts : List S37, len = ts.length ∧ ts.length ≤ cap ∧ TRow W A ts ∧ ∀ T ∈ ts, T.f1.size ≤ 140737488351232 := by
  obtain ⟨h1, _, hx⟩ := slice_structs_sized Try.underlying22 Try.underlying37 (by kernel_rfl) (by kernel_rfl) (by decide) h
  obtain ⟨ts, hl, hq⟩ := choose_list (α := S37) (n := len) (Q := fun i T => ∃ g o : Nat, A = some ⟨g, o, none⟩ ∧ W.cell? ⟨g, o + i * 4, none⟩ = some (.int .u8 T.f0) ∧ W.cell? ⟨g, o + i * 4 + 1, none⟩ = some (.string T.f1) ∧ W.cell? ⟨g, o + i * 4 + 2, none⟩ = some (.int .i64 T.f2) ∧ W.cell? ⟨g, o + i * 4 + 3, none⟩ = some (.int .i64 T.f3) ∧ T.f1.size ≤ 140737488351232) (by
    intro i hi
    obtain ⟨g, o, hA, hf⟩ := hx i hi
    obtain ⟨v0, y0, n0, c0, r0, g0⟩ := hf 0 _ rfl
    obtain ⟨v1, y1, n1, c1, r1, g1⟩ := hf 1 _ rfl
    obtain ⟨v2, y2, n2, c2, r2, g2⟩ := hf 2 _ rfl
    obtain ⟨v3, y3, n3, c3, r3, g3⟩ := hf 3 _ rfl
    obtain ⟨z0, e0, _⟩ := DataW.trod_int Try.underlying34 r0
    obtain ⟨z1, e1, x1, _⟩ := DataW.trod_string Try.underlying9 r1
    obtain ⟨z2, e2, _⟩ := DataW.trod_int Try.underlying35 r2
    obtain ⟨z3, e3, _⟩ := DataW.trod_int Try.underlying3 r3
    injection e0 with e0 _
    injection e1 with e1 _
    injection e2 with e2 _
    injection e3 with e3 _
    subst e0 e1 e2 e3
    exact ⟨⟨z0, z1, z2, z3⟩, g, o, hA, c0, c1, c2, c3, by
      have := hsz z1.data.toList.length (g1 _ (by rw [x1]; simp [DataW.weights]))
      simpa using this⟩)
  refine ⟨ts, hl.symm, by omega, fun j T hj => ?_, fun T hT => ?_⟩
  rotate_left
  · obtain ⟨j, hj⟩ := List.mem_iff_getElem?.1 hT
    obtain ⟨_, _, _, _, _, _, _, h9⟩ := hq j T hj
    exact h9
  obtain ⟨g, o, hA, c0, c1, c2, c3, _⟩ := hq j T hj
  refine ⟨g, o, hA, ?_, c0, c1, c2, c3⟩
  unfold World.cell? at c0
  cases hb : W.heap[g]? with
  | none => rw [hb] at c0; cases c0
  | some ob => exact blk_lt hb
end Go.Proofs.Ytiojfdgagdofiaa.HP
/-
What is parsed is right just if its names may be; sizes add up: plain facts.
-/
set_option linter.unusedVariables false
set_option linter.unusedSimpArgs false
namespace Go.Proofs.Ytiojfdgagdofiaa.HP
open Go.RowKit Go.Proofs.Ytiojfdgagdofiaa.HB Go.Proofs.Ytiojfdgagdofiaa.HK Go.Proofs.YtiojfdgagdofiaaW.PrintWords Go.Proofs.YtiojfdgagdofiaaW.PrintLast Go.Proofs.YtiojfdgagdofiaaW.PrintMore
theorem Fo.leafs {op : Nat → Bool} {ks : Nat → List Int} {d : Nat} {l : List Int} {m m' : Nat} (h : Fo op ks d l m m') : ∀ j, m ≤ j → j < m' → op j = false → ks j = [] := by
  induction h with
  | nil => intro j h1 h2; omega
  | @leaf d r m m' a b c ih =>
    intro j h1 h2 hj
    by_cases e : j = m
    · subst e; exact b
    · exact ih j (by omega) h2 hj
  | @node d r m x m' a b c ih1 ih2 =>
    intro j h1 h2 hj
    by_cases e : j = m
    · subst e; rw [a] at hj; cases hj
    · by_cases e2 : j < x
      · exact ih1 j (by omega) e2 hj
      · exact ih2 j (by omega) h2 hj
theorem emptyB_nil : emptyB ⟨#[]⟩ = true := by unfold emptyB; rw [ByteArray.toList_eq]; rfl
theorem allB_parsed {ts : List S37} {fs : List FormP} {ls : Nat → List Int} (P : Parsed ts fs ls) : allB fs (ksOf ls) = namedB ts := by
  rw [← P.named, Bool.eq_iff_iff]
  have hone : ∀ j, (hj : j < fs.length) → oneB fs (ksOf ls) j = okForm fs[j] := by
    intro j hj
    have hf := P.fine fs[j] (List.getElem_mem hj)
    have hget : fs.getD j noForm = fs[j] := by rw [List.getD_eq_getElem?_getD, List.getElem?_eq_getElem hj]; rfl
    have hop : opOf fs j = decide ((fs[j]).k = 1) := by unfold opOf; rw [hget]
    unfold oneB
    rw [hget]
    rcases hf with ⟨h1, h2, h3⟩ | ⟨h1, h2⟩ | ⟨h1, h2⟩
    · unfold aloneB okForm
      rw [if_pos h1, h2, h3, emptyB_nil, h1]
      rfl
    · have hk : ksOf ls j = [] := P.fo.leafs j (Nat.zero_le _) hj (by rw [hop, h1]; rfl)
      unfold aloneB okForm
      rw [if_neg (by rw [h1]; decide), if_pos h1, h2, hk, h1]
      simp
    · have hk : ksOf ls j = [] := P.fo.leafs j (Nat.zero_le _) hj (by rw [hop, h1]; rfl)
      unfold aloneB okForm
      rw [if_neg (by rw [h1]; decide), if_neg (by rw [h1]; decide), if_pos h1, h2, hk, emptyB_nil, h1]
      rfl
  unfold allB
  rw [List.all_eq_true, List.all_eq_true]
  constructor
  · intro h f hf
    obtain ⟨j, hj, rfl⟩ := List.getElem_of_mem hf
    rw [← hone j hj]
    exact h j (List.mem_range.2 hj)
  · intro h j hj
    have hj' := List.mem_range.1 hj
    rw [hone j hj']
    exact h _ (List.getElem_mem hj')
theorem right_parsed {ts : List S37} {fs : List FormP} {ls : Nat → List Int} (P : Parsed ts fs ls) : rightB fs (ksOf ls) (ls 0) = namedB ts := by
  unfold rightB
  rw [decide_eq_true P.few, decide_eq_true P.fo.goP, decide_eq_true P.fo.depthP, allB_parsed P, Bool.true_and, Bool.true_and, Bool.and_true]
def sizesP (N : Nat) (ks : Nat → List Int) (l : List Int) : Nat := (l.map (sizeP N ks)).sum
theorem sizesP_snoc (N : Nat) (ks : Nat → List Int) (l : List Int) (j : Nat) (hj : j < l.length) : sizesP N ks (l.take (j + 1)) = sizesP N ks (l.take j) + sizeP N ks (l.getD j 0) := by
  unfold sizesP
  rw [List.take_succ_eq_append_getElem hj, List.map_append, List.sum_append, List.getD_eq_getElem?_getD, List.getElem?_eq_getElem hj]
  simp
theorem pre_sizes (N : Nat) (ks : Nat → List Int) : ∀ (l : List Int), (∀ x ∈ l, 0 ≤ x ∧ x < (N : Int)) → (pre N ks (l.map Int.toNat)).length ≤ 400 → (pre N ks (l.map Int.toNat)).length = sizesP N ks l
  | [], _, _ => rfl
  | x :: r, h, hl => by
    have hx := h x List.mem_cons_self
    rw [List.map_cons, pre_cons, List.length_cons, List.length_append] at hl ⊢
    rw [pre_sizes N ks r (fun y hy => h y (List.mem_cons_of_mem _ hy)) (by omega)]
    unfold sizesP
    rw [List.map_cons, List.sum_cons]
    have : sizeP N ks x = 1 + (bel N ks x.toNat).length := by
      unfold sizeP
      rw [if_pos hx]
      omega
    omega
theorem sizes_parsed {ts : List S37} {fs : List FormP} {ls : Nat → List Int} (P : Parsed ts fs ls) : sizesP fs.length (ksOf ls) (ls 0) = fs.length := by
  have h := P.fo.pre (Nat.le_refl _)
  have hl : (pre fs.length (ksOf ls) ((ls 0).map Int.toNat)).length = fs.length := by rw [h, List.length_range']; omega
  rw [← pre_sizes _ _ _ (fun x hx => by obtain ⟨k, rfl, _, h2⟩ := P.fo.mem x hx; omega) (by rw [hl]; exact P.few), hl]
theorem sizesP_le (N : Nat) (ks : Nat → List Int) (l : List Int) (j : Nat) : sizesP N ks (l.take j) ≤ sizesP N ks l := by
  have h : sizesP N ks l = sizesP N ks (l.take j) + sizesP N ks (l.drop j) := by
    unfold sizesP
    rw [← List.sum_append, ← List.map_append, List.take_append_drop]
  omega
theorem sizeP_le (N : Nat) (ks : Nat → List Int) (x : Int) : sizeP N ks x ≤ 401 := by
  unfold sizeP
  split <;> omega
theorem toksN_snoc (ts : List S37) (j : Nat) (T : S37) (hj : ts[j]? = some T) : toksN (ts.take (j + 1)) = toksN (ts.take j) + if isTok T = true then 1 else 0 := by
  obtain ⟨hlt, rfl⟩ := List.getElem?_eq_some_iff.1 hj
  unfold toksN
  rw [List.take_succ_eq_append_getElem hlt, List.filter_append, List.length_append]
  by_cases h : isTok ts[j] = true <;> simp [h]
theorem closesN_snoc (ts : List S37) (j : Nat) (T : S37) (hj : ts[j]? = some T) : closesN (ts.take (j + 1)) = closesN (ts.take j) + if T.f0 = 2 then 1 else 0 := by
  obtain ⟨hlt, rfl⟩ := List.getElem?_eq_some_iff.1 hj
  unfold closesN
  rw [List.take_succ_eq_append_getElem hlt, List.filter_append, List.length_append]
  by_cases h : (ts[j]).f0 = 2 <;> simp [h]
theorem namedB_snoc (ts : List S37) (j : Nat) (T : S37) (hj : ts[j]? = some T) : namedB (ts.take (j + 1)) = (namedB (ts.take j) && okTok T) := by
  obtain ⟨hlt, rfl⟩ := List.getElem?_eq_some_iff.1 hj
  unfold namedB
  rw [List.take_succ_eq_append_getElem hlt, List.all_append]
  simp
theorem opensN_take (fs : List FormP) (j : Nat) (f : FormP) (hj : fs[j]? = some f) : opensN (fs.take (j + 1)) = opensN (fs.take j) + if f.k = 1 then 1 else 0 := by
  obtain ⟨hlt, rfl⟩ := List.getElem?_eq_some_iff.1 hj
  rw [List.take_succ_eq_append_getElem hlt, opensN_snoc]
theorem count_le {α : Type} (p : α → Bool) (l : List α) (j : Nat) : ((l.take j).filter p).length ≤ j := Nat.le_trans (List.length_filter_le _ _) (List.length_take_le _ _)
end Go.Proofs.Ytiojfdgagdofiaa.HP
/-
TreeRight over the translation.
-/
set_option linter.unusedVariables false
set_option linter.unusedSimpArgs false
namespace Go.Proofs.Ytiojfdgagdofiaa.HP
open Go.RowKit Go.Proofs.Ytiojfdgagdofiaa.HB Go.Proofs.Ytiojfdgagdofiaa.HK Go.Proofs.YtiojfdgagdofiaaW.PrintWords Go.Proofs.YtiojfdgagdofiaaW.PrintLast Go.Proofs.YtiojfdgagdofiaaW.PrintMore
def LoopTwo (ts : List S37) (j : Nat) (a b : Nat) (n : Bool) : Prop := a = toksN (ts.take j) ∧ b = closesN (ts.take j) ∧ n = namedB (ts.take j)
theorem run_why : ∀ (ts : List S37) (fs : List FormP) (ls : Nat → List Int) (a why : Int), runP fs ls ts = .error (a, why) → why ≠ 0
  | [], fs, ls, a, why, h => by cases h
  | T :: r, fs, ls, a, why, h => by
    rw [runP] at h
    cases ht : takeP fs ls T with
    | ok p =>
      obtain ⟨fs1, ls1⟩ := p
      rw [ht] at h
      exact run_why r fs1 ls1 a why h
    | error e =>
      rw [ht] at h
      injection h with h
      subst h
      unfold takeP at ht
      repeat' split at ht
      all_goals first | (injection ht with ht; injection ht with _ h2; omega) | cases ht
theorem why_not {ts : List S37} {a why : Int} (h : parseP ts = .error (a, why)) : why ≠ 0 := by
  unfold parseP at h
  cases hr : runP [] (fun _ => []) ts with
  | error e =>
    rw [hr] at h
    injection h with h
    subst h
    exact run_why ts _ _ a why hr
  | ok p =>
    obtain ⟨fs1, ls1⟩ := p
    rw [hr] at h
    dsimp only at h
    split at h
    · injection h with h
      injection h with _ h2
      omega
    · cases h
set_option maxHeartbeats 16000000 in
set_option maxRecDepth 100000 in
theorem right_walk (w : World) (A : Option Addr) (c : Nat) (ts : List S37) (hT : TRow w A ts) (hc : ts.length ≤ c) (htx : ∀ T ∈ ts, T.f1.size ≤ 140737488351232) :
    Calls Try.prog 4 #[.slice A ts.length c] w fun e w' => TrueEnds w e w' := by
  obtain ⟨tk, htk⟩ : ∃ tk, tk = ts.take 700 := ⟨_, rfl⟩
  have hlt : tk.length ≤ 700 := by rw [htk, List.length_take]; omega
  have hfew := few_calls w A c ts hT hc
  have htx2 : ∀ T ∈ tk, T.f1.size ≤ 140737488351232 := fun T h => htx T (by rw [htk] at h; exact List.mem_of_mem_take h)
  rw [← htk] at hfew
  have HFEW := Lib.hid hfew
  have HTX := Lib.hid htx2
  clear hT hfew htk hc htx htx2
  go_enter Try.func4, Try.ntmps4
  go_wp2_with (fail)
  refine HFEW.out.mono ?_
  rintro e w' ⟨⟨A1, c1, rfl, hT1, _⟩, rfl⟩
  have HT1 := Lib.hid hT1
  clear hT1
  go_wp2_with (fail)
  refine (parse_reads w' A1 c1 tk HT1.out (by omega)).mono ?_
  intro e w1 hE
  cases hp : parseP tk with
  | error x =>
    obtain ⟨a, why⟩ := x
    rw [hp] at hE
    obtain ⟨rfl, hb1⟩ := hE
    have hwhy : why ≠ 0 := why_not hp
    have b1 : (why != 0) = true := by simpa using hwhy
    have HB1 := Lib.hid hb1
    clear hb1 hp hwhy
    go_wp2_with (fail)
    refine (live_calls w1).mono ?_
    rintro e w2 ⟨rfl, hb2⟩
    have HB2 := Lib.hid (below_then HB1.out HB1.out.size hb2)
    clear hb2
    go_wp2
    go_ret
    exact ⟨rfl, HB2.out⟩
  | ok p =>
    obtain ⟨fs, ls⟩ := p
    have hpp := parsed hp
    have PP := Lib.hid hpp
    have hfl := hpp.few
    have hl0 := hpp.rows 0
    have HROWS : Hid (∀ i, (ksOf ls i).length ≤ 140737488351232) := fun i => Nat.le_trans (hpp.rows _) (by decide)
    have HFX := Lib.hid (fine_text hp HTX.out)
    rw [hp] at hE
    obtain ⟨AA, cA, BA, dA, rfl, hf1, hi1, hb1⟩ := hE
    have HF1 := Lib.hid hf1
    have HI1 := Lib.hid hi1
    have HB1 := Lib.hid hb1
    have HT2 := Lib.hid (HT1.out.below hb1)
    clear hb1 hp hf1 hi1 hpp
    have H400 := Lib.hid hfl
    go_wp2_with (fail)
    go_loopw [7, 11] (fun n i wr => ∃ j : Nat, i = .int .i64 (j : Int) ∧ j ≤ (ls 0).length ∧ n = .int .i64 ((sizesP fs.length (ksOf ls) ((ls 0).take j) : Nat) : Int) ∧ Hid (Below w1.heap.size w1 wr)) (fun _ i _ => (ls 0).length - (intOf i).toNat)
    case atStart => exact ⟨0, rfl, Nat.zero_le _, rfl, Below.refl _ _⟩
    case round =>
      obtain ⟨j, rfl, hj, rfl, hBr⟩ := hrel
      have hS := sizesP_le fs.length (ksOf ls) (ls 0) j
      rw [sizes_parsed PP.out] at hS
      by_cases hlt : j < (ls 0).length
      · obtain ⟨g, o, hA, _, c0⟩ := (HI1.out.below hBr.out) j hlt
        subst hA
        have hsn := Lib.hid (sizesP_snoc fs.length (ksOf ls) (ls 0) j hlt)
        obtain ⟨x, hx⟩ : ∃ x, x = (ls 0).getD j 0 := ⟨_, rfl⟩
        rw [← hx] at c0 hsn
        obtain ⟨S, hS0⟩ : ∃ S, S = sizesP fs.length (ksOf ls) ((ls 0).take j) := ⟨_, rfl⟩
        rw [← hS0] at hS hsn ⊢
        obtain ⟨z, hz⟩ : ∃ z, z = sizeP fs.length (ksOf ls) x := ⟨_, rfl⟩
        have hz4 := sizeP_le fs.length (ksOf ls) x
        have hsc := size_calls wr AA cA fs (ksOf ls) (HF1.out.below hBr.out) (by omega) HROWS.out x
        rw [← hz] at hsn hz4 hsc
        have HSC := Lib.hid hsc
        have qd : decide ((j : Int) < ((ls 0).length : Int)) = true := decide_eq_true (by omega)
        have z1 : (j : Int) < ((ls 0).length : Int) := by omega
        have z0 : (0 : Int) ≤ (j : Int) := by omega
        have hw : IntKind.i64.wrap ((j : Int) + 1) = ((j + 1 : Nat) : Int) := by rw [IntWalk.i64_in _ (by omega)]; omega
        have hw2 : IntKind.i64.wrap ((S : Int) + (z : Int)) = ((S + z : Nat) : Int) := by rw [IntWalk.i64_in _ (by omega)]; omega
        clear hx hS0 hz hsc
        go_wp2_with (fail)
        refine HSC.out.mono ?_
        rintro e w2 ⟨rfl, hb2⟩
        have HB2 := Lib.hid (below_then hBr.out hBr.out.size hb2)
        clear hb2
        go_wp2
        go_roundw
        case measure => simp [intOf]; omega
        case rel => exact ⟨j + 1, by first | rfl | (rw [hw]) | simp, by omega, by rw [hsn.out]; first | rfl | (rw [hw2]) | simp, HB2.out⟩
      · obtain rfl : j = (ls 0).length := by omega
        have qd : decide (((ls 0).length : Int) < ((ls 0).length : Int)) = false := decide_eq_false (by omega)
        rw [List.take_length, sizes_parsed PP.out]
        clear hS
        go_wp2_with (fail)
        go_loopw [8, 9, 10, 12] (fun a b n i w3 => ∃ (j p q : Nat) (m : Bool), i = .int .i64 (j : Int) ∧ j ≤ tk.length ∧ a = .int .i64 (p : Int) ∧ b = .int .i64 (q : Int) ∧ n = .bool m ∧ Hid (LoopTwo tk j p q m) ∧ Hid (Below w1.heap.size w1 w3)) (fun _ _ _ i _ => tk.length - (intOf i).toNat)
        case atStart => exact ⟨0, 0, 0, true, rfl, Nat.zero_le _, rfl, rfl, rfl, ⟨rfl, rfl, rfl⟩, hBr.out⟩
        case round =>
          obtain ⟨j, p, q, m, rfl, hj, rfl, rfl, rfl, hL2, hB3⟩ := hrel
          have hp1 : p ≤ 700 := by rw [hL2.out.1]; have := count_le isTok tk j; unfold toksN; omega
          have hq1 : q ≤ 700 := by rw [hL2.out.2.1]; have := count_le (fun T => decide (T.f0 = 2)) tk j; unfold closesN; omega
          by_cases hlt : j < tk.length
          · obtain ⟨T, hj2⟩ : ∃ T, tk[j]? = some T := ⟨_, List.getElem?_eq_getElem hlt⟩
            obtain ⟨g, o, hA, hg, d0, d1, _, _⟩ := HT2.out.below hB3.out j T hj2
            subst hA
            have s1 := Lib.hid (toksN_snoc tk j T hj2)
            have s2 := Lib.hid (closesN_snoc tk j T hj2)
            have s3 := Lib.hid (namedB_snoc tk j T hj2)
            have htt := Lib.hid (HTX.out T (List.mem_of_getElem? hj2))
            obtain ⟨k, t, nn, aa⟩ := T
            dsimp only at d0 d1 s1 s2 s3 htt
            have qd : decide ((j : Int) < (tk.length : Int)) = true := decide_eq_true (by omega)
            have z1 : (j : Int) < (tk.length : Int) := by omega
            have z0 : (0 : Int) ≤ (j : Int) := by omega
            have hw : IntKind.i64.wrap ((j : Int) + 1) = ((j + 1 : Nat) : Int) := by rw [IntWalk.i64_in _ (by omega)]; omega
            have hw3 : IntKind.i64.wrap ((p : Int) + 1) = ((p + 1 : Nat) : Int) := by rw [IntWalk.i64_in _ (by omega)]; omega
            have hw4 : IntKind.i64.wrap ((q : Int) + 1) = ((q + 1 : Nat) : Int) := by rw [IntWalk.i64_in _ (by omega)]; omega
            clear hj2
            by_cases e2 : k = 2
            · subst e2
              have hnew : Hid (LoopTwo tk (j + 1) p (q + 1) m) := by
                refine ⟨?_, ?_, ?_⟩
                · rw [s1.out, ← hL2.out.1]; rfl
                · rw [s2.out, ← hL2.out.2.1]; rfl
                · rw [s3.out, ← hL2.out.2.2]; simp [okTok]
              go_wp2
              go_roundw
              case measure => simp [intOf]; omega
              case rel => exact ⟨j + 1, p, q + 1, m, by first | rfl | (rw [hw]) | simp, by omega, rfl, by first | rfl | (rw [hw4]) | simp, rfl, hnew, hB3⟩
            · have n2 : (k == 2) = false := by simpa using e2
              by_cases e13 : k = 1 ∨ k = 4
              · have hnew : Hid (LoopTwo tk (j + 1) (p + 1) q m) := by
                  refine ⟨?_, ?_, ?_⟩
                  · rw [s1.out, ← hL2.out.1, if_pos (by unfold isTok; rcases e13 with e | e <;> simp [e])]
                  · rw [s2.out, ← hL2.out.2.1, if_neg e2]; rfl
                  · rw [s3.out, ← hL2.out.2.2]; unfold okTok; rcases e13 with e | e <;> simp [e]
                rcases e13 with rfl | rfl
                all_goals
                  clear e2
                  cases m
                  all_goals
                    go_wp2
                    go_roundw
                    case measure => simp [intOf]; omega
                    case rel => exact ⟨j + 1, p + 1, q, _, by first | rfl | (rw [hw]) | simp, by omega, by first | rfl | (rw [hw3]) | simp, rfl, rfl, hnew, hB3⟩
              · by_cases e3 : k = 3
                · subst e3
                  clear e2 e13
                  have hnew : Hid (LoopTwo tk (j + 1) (p + 1) q (m && decide (kindOf (codes t) = 3))) := by
                    refine ⟨?_, ?_, ?_⟩
                    · rw [s1.out, ← hL2.out.1]; rfl
                    · rw [s2.out, ← hL2.out.2.1]; rfl
                    · rw [s3.out, ← hL2.out.2.2]; simp [okTok]
                  cases m
                  · go_wp2
                    go_roundw
                    case measure => simp [intOf]; omega
                    case rel => exact ⟨j + 1, p + 1, q, false, by first | rfl | (rw [hw]) | simp, by omega, by first | rfl | (rw [hw3]) | simp, rfl, rfl, hnew, hB3⟩
                  · obtain ⟨K, hK⟩ : ∃ K, K = kindOf (codes t) := ⟨_, rfl⟩
                    have hkc := docKind_call t htt.out wr
                    rw [← hK] at hnew hkc
                    have HKC := Lib.hid hkc
                    clear hkc hK
                    go_wp2_with (fail)
                    refine HKC.out.mono ?_
                    rintro e w4 ⟨rfl, hb4⟩
                    have HB4 := Lib.hid (below_then hB3.out hB3.out.size hb4)
                    clear hb4
                    by_cases h3 : K = 3
                    · have b3 : (K == 3) = true := by rw [h3]; rfl
                      have hnew2 : Hid (LoopTwo tk (j + 1) (p + 1) q true) := by have := hnew.out; rw [decide_eq_true h3] at this; exact this
                      clear h3
                      go_wp2
                      go_roundw
                      case measure => simp [intOf]; omega
                      case rel => exact ⟨j + 1, p + 1, q, true, by first | rfl | (rw [hw]) | simp, by omega, by first | rfl | (rw [hw3]) | simp, rfl, rfl, hnew2, HB4⟩
                    · have b3 : (K == 3) = false := by simpa using h3
                      have hnew2 : Hid (LoopTwo tk (j + 1) (p + 1) q false) := by have := hnew.out; rw [decide_eq_false h3] at this; exact this
                      clear h3
                      go_wp2
                      go_roundw
                      case measure => simp [intOf]; omega
                      case rel => exact ⟨j + 1, p + 1, q, false, by first | rfl | (rw [hw]) | simp, by omega, by first | rfl | (rw [hw3]) | simp, rfl, rfl, hnew2, HB4⟩
                · have n1 : (k == 1) = false := by simpa using fun e => e13 (.inl e)
                  have n4 : (k == 4) = false := by simpa using fun e => e13 (.inr e)
                  have n3 : (k == 3) = false := by simpa using e3
                  have hnew : Hid (LoopTwo tk (j + 1) p q m) := by
                    refine ⟨?_, ?_, ?_⟩
                    · rw [s1.out, ← hL2.out.1, if_neg (by unfold isTok; simp; exact ⟨⟨fun e => e13 (.inl e), e3⟩, fun e => e13 (.inr e)⟩)]; rfl
                    · rw [s2.out, ← hL2.out.2.1, if_neg e2]; rfl
                    · rw [s3.out, ← hL2.out.2.2]; unfold okTok; simp [e3]
                  clear e2 e13 e3
                  go_wp2
                  go_roundw
                  case measure => simp [intOf]; omega
                  case rel => exact ⟨j + 1, p, q, m, by first | rfl | (rw [hw]) | simp, by omega, rfl, rfl, rfl, hnew, hB3⟩
          · obtain rfl : j = tk.length := by omega
            have qd : decide ((tk.length : Int) < (tk.length : Int)) = false := decide_eq_false (by omega)
            have hL3 : Hid (p = fs.length ∧ q = opensN fs ∧ m = rightB fs (ksOf ls) (ls 0)) := by
              have h := hL2.out
              unfold LoopTwo at h
              rw [List.take_length] at h
              exact ⟨h.1.trans PP.out.len.symm, h.2.1.trans PP.out.opens.symm, h.2.2.trans (right_parsed PP.out).symm⟩
            have HF3 := Lib.hid (HF1.out.below hB3.out)
            clear hL2
            go_wp2_with (fail)
            go_loop [13, 14] (fun a i => ∃ j : Nat, i = .int .i64 (j : Int) ∧ j ≤ fs.length ∧ a = .int .i64 ((opensN (fs.take j) : Nat) : Int)) (fun _ i => fs.length - (intOf i).toNat)
            case atStart => exact ⟨0, rfl, Nat.zero_le _, rfl⟩
            case round =>
              obtain ⟨j, rfl, hj, rfl⟩ := hrel
              have hol : opensN (fs.take j) ≤ j := count_le _ fs j
              by_cases hlt : j < fs.length
              · obtain ⟨f, hj2⟩ : ∃ f, fs[j]? = some f := ⟨_, List.getElem?_eq_getElem hlt⟩
                obtain ⟨g, o, C, e, hA, hg, d0, _, _, _, _, _, _⟩ := HF3.out j f hj2
                subst hA
                have hs := Lib.hid (opensN_take fs j f hj2)
                obtain ⟨S, hS0⟩ : ∃ S, S = opensN (fs.take j) := ⟨_, rfl⟩
                rw [← hS0] at hs hol ⊢
                have qd : decide ((j : Int) < (fs.length : Int)) = true := decide_eq_true (by omega)
                have z1 : (j : Int) < (fs.length : Int) := by omega
                have z0 : (0 : Int) ≤ (j : Int) := by omega
                have hw : IntKind.i64.wrap ((j : Int) + 1) = ((j + 1 : Nat) : Int) := by rw [IntWalk.i64_in _ (by omega)]; omega
                have hw3 : IntKind.i64.wrap ((S : Int) + 1) = ((S + 1 : Nat) : Int) := by rw [IntWalk.i64_in _ (by omega)]; omega
                clear hj2 hS0
                by_cases hk : f.k = 1
                · have b1 : (f.k == 1) = true := by rw [hk]; rfl
                  have hs2 : Hid (opensN (fs.take (j + 1)) = S + 1) := by show _ = _; rw [hs.out, if_pos hk]
                  clear hk
                  go_wp2
                  go_round
                  case measure => simp [intOf]; omega
                  case rel => exact ⟨j + 1, by first | rfl | (rw [hw]) | simp, by omega, by rw [hs2.out]; first | rfl | (rw [hw3]) | simp⟩
                · have b1 : (f.k == 1) = false := by simpa using hk
                  have hs2 : Hid (opensN (fs.take (j + 1)) = S) := by show _ = _; rw [hs.out, if_neg hk]; rfl
                  clear hk
                  go_wp2
                  go_round
                  case measure => simp [intOf]; omega
                  case rel => exact ⟨j + 1, by first | rfl | (rw [hw]) | simp, by omega, by rw [hs2.out]⟩
              · obtain rfl : j = fs.length := by omega
                have qd : decide ((fs.length : Int) < (fs.length : Int)) = false := decide_eq_false (by omega)
                rw [List.take_length]
                rw [List.take_length] at hol
                obtain ⟨e1, e2, e3⟩ := hL3.out
                subst e1 e2
                have b1 : ((fs.length : Int) == (fs.length : Int)) = true := by simp
                have b2 : (((opensN fs : Nat) : Int) == ((opensN fs : Nat) : Int)) = true := by simp
                have b3 : (m == m) = true := by simp
                have E3 := Lib.hid e3
                clear e3
                go_wp2_with (fail)
                refine (live_calls wr).mono ?_
                rintro e w5 ⟨rfl, hb5⟩
                have HB35 := Lib.hid hb5
                have HB5 := Lib.hid (below_then hB3.out hB3.out.size hb5)
                clear hb5
                have hrc := right_calls w5 AA BA cA dA fs (ksOf ls) (ls 0) (HF3.out.below HB35.out) (HI1.out.below HB5.out) (by omega) HROWS.out (by omega) HFX.out
                rw [← E3.out] at hrc
                have HRC := Lib.hid hrc
                clear hrc
                go_wp2_with (fail)
                refine HRC.out.mono ?_
                rintro e w6 ⟨rfl, hb6⟩
                have HB36 := Lib.hid (below_then HB35.out HB35.out.size hb6)
                have HB6 := Lib.hid (below_then HB5.out HB5.out.size hb6)
                clear hb6
                have hdc := depth_calls w6 AA BA cA dA fs (ksOf ls) (ls 0) (HF3.out.below HB36.out) (HI1.out.below HB6.out) (by omega) HROWS.out (by omega)
                have hd12 := PP.out.fo.depthP
                obtain ⟨D, hD⟩ : ∃ D, D = depthP fs.length (opOf fs) (ksOf ls) (ls 0) := ⟨_, rfl⟩
                rw [← hD] at hdc hd12
                have HDC := Lib.hid hdc
                have q12 : decide ((D : Int) ≤ 12) = true := decide_eq_true (by omega)
                clear hdc hD
                go_wp2_with (fail)
                refine HDC.out.mono ?_
                rintro e w7 ⟨rfl, hb7⟩
                have HB7 := Lib.hid (below_then HB6.out HB6.out.size hb7)
                clear hb7
                go_wp2
                go_ret
                exact ⟨rfl, below_then HB1.out HB1.out.size HB7.out⟩
end Go.Proofs.Ytiojfdgagdofiaa.HP
