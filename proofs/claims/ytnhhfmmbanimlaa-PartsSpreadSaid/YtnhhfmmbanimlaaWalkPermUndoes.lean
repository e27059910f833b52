/-
The walk of the statement PermUndoes: for every number of things, two numbers, and things, the call answers true, and nothing that was there has turned.
-/
import Derived.Test.YtnhhfmmbanimlaaQg
import Derived.Test.YtnhhfmmbanimlaaPre
set_option linter.unusedVariables false
set_option linter.unusedSimpArgs false
namespace Go.Proofs.Ytnhhfmmbanimlaa.HQ
open Go.RowKit Go.Proofs.Ytnhhfmmbanimlaa.HK Go.Proofs.Ytnhhfmmbanimlaa.HA Go.Proofs.YtnhhfmmbanimlaaW.PrintWords Go.Proofs.YtnhhfmmbanimlaaW.PrintLast Go.Proofs.YtnhhfmmbanimlaaW.PrintMore

/-- A slice that is read, in the form in which calls take it. -/
def IsInts (w : World) (A : Option Addr) (c : Nat) (l : List Int) : Prop := l.length ≤ c ∧ Kd.C (Kd.int .i64) w A l.length l
theorem IsInts.below {w w1 : World} {A : Option Addr} {c : Nat} {l : List Int} (h : IsInts w A c l) (hb : Below w.heap.size w w1) : IsInts w1 A c l := ⟨h.1, Kd.C_below h.2 hb⟩
theorem IsInts.of_R {w : World} {e base : Nat} {ok : Nat → Prop} {v : Value} {l : List Int} (h : Kd.R (Kd.int .i64) e w base ok v l) : ∃ A c, v = .slice A l.length c ∧ IsInts w A c l := by
  obtain ⟨A, c, he, hl, hC⟩ := Kd.R_reads h
  exact ⟨A, c, he, hl, hC⟩
theorem ints2 {f : FuncId} {args : Array Value} {w : World} {r : List Int} {x : Value} (h : Calls Try.prog f args w fun e w' => ∃ v0_ : Value, e = .returned (.tuple #[v0_, x]) ∧ Kd.R (Kd.int .i64) 3 w' w.heap.size (fun _ => True) v0_ r ∧ Below w.heap.size w w') :
    Calls Try.prog f args w fun e w' => ∃ A c, e = .returned (.tuple #[.slice A r.length c, x]) ∧ IsInts w' A c r ∧ Below w.heap.size w w' := by
  refine h.mono ?_
  rintro e w' ⟨v, rfl, hR, hb⟩
  obtain ⟨A, c, rfl, hI⟩ := IsInts.of_R hR
  exact ⟨A, c, rfl, hI, hb⟩
theorem from_call (n K : Nat) (P : List Int) (w : World) (hn : n ≤ 16) (hK : K ≤ 18446744073709551615) (hP : fromOf n (upTo n) (fac n) (K % fac n) = P) :
    Calls Try.prog 18 #[.int .i64 n, .int .u64 K] w fun e w' => ∃ A c, e = .returned (.tuple #[.slice A P.length c, .int .i64 0]) ∧ IsInts w' A c P ∧ Below w.heap.size w w' := by
  refine ints2 (perm_From.calls n K P 0 w ?_)
  unfold perm_From.f
  rw [if_pos ⟨by omega, by omega⟩, if_pos ⟨by omega, by omega⟩, ← hP]
  rfl
theorem turn_call (p l r : List Int) (A B : Option Addr) (c d : Nat) (w : World) (hp : IsInts w A c p) (hl : IsInts w B d l) (hr : turnOf p l = (r, 0)) :
    Calls Try.prog 30 #[.slice A p.length c, .slice B l.length d] w fun e w' => ∃ A c, e = .returned (.tuple #[.slice A r.length c, .int .i64 0]) ∧ IsInts w' A c r ∧ Below w.heap.size w w' := by
  obtain ⟨k, hk⟩ := (turn_ev p l).rounds
  exact ints2 (perm_Turn.calls k A c p B d l r 0 w hp.2 hp.1 hl.2 hl.1 (by rw [hk, hr]))
theorem then_call (p l r : List Int) (A B : Option Addr) (c d : Nat) (w : World) (hp : IsInts w A c p) (hl : IsInts w B d l) (hr : thenOf p l = (r, 0)) :
    Calls Try.prog 34 #[.slice A p.length c, .slice B l.length d] w fun e w' => ∃ A c, e = .returned (.tuple #[.slice A r.length c, .int .i64 0]) ∧ IsInts w' A c r ∧ Below w.heap.size w w' := by
  obtain ⟨k, hk⟩ := (then_ev p l).rounds
  exact ints2 (perm_Then.calls k A c p B d l r 0 w hp.2 hp.1 hl.2 hl.1 (by rw [hk, hr]))
theorem back_call (p r : List Int) (A : Option Addr) (c : Nat) (w : World) (hp : IsInts w A c p) (hr : backOf p = (r, 0)) :
    Calls Try.prog 32 #[.slice A p.length c] w fun e w' => ∃ A c, e = .returned (.tuple #[.slice A r.length c, .int .i64 0]) ∧ IsInts w' A c r ∧ Below w.heap.size w w' := by
  obtain ⟨k, hk⟩ := (back_ev p).rounds
  exact ints2 (perm_Back.calls k A c p r 0 w hp.2 hp.1 (by rw [hk, hr]))
theorem live_call (w : World) : Calls Try.prog 23 #[] w fun e w' => e = .returned (.bool true) ∧ Below w.heap.size w w' := by
  obtain ⟨k, hk⟩ := live_ev.rounds
  exact reticulelaw02_live.calls k true w hk
theorem same_call (l : List Int) (A B : Option Addr) (c d : Nat) (w : World) (hp : IsInts w A c l) (hl : IsInts w B d l) (hn : l.length ≤ 1000) :
    Calls Try.prog 24 #[.slice A l.length c, .slice B l.length d] w fun e w' => e = .returned (.bool true) ∧ Below w.heap.size w w' := by
  obtain ⟨k, hk⟩ := (same_ev l (by omega)).rounds
  refine (reticuleref01_SameInts.calls k A c l B d l true w hp.2 hp.1 hl.2 hl.1 hk).mono ?_
  rintro e w' ⟨rfl, hd⟩
  exact ⟨rfl, hd.below⟩

/-- The things: multiples. -/
def things (m s : Nat) : List Int := (List.range m).map (fun i : Nat => (i : Int) * (s : Int))
theorem things_len (m s : Nat) : (things m s).length = m := by simp [things]
theorem things_succ (m s : Nat) : things (m + 1) s = things m s ++ [(m : Int) * (s : Int)] := by simp [things, List.range_succ]
set_option maxHeartbeats 4000000 in
set_option maxRecDepth 100000 in
theorem undoes_walk (n s : Nat) (k0 k1 : Nat) (w : World) (hn : n ≤ 255) (hs : s ≤ 255) (h0 : k0 ≤ 18446744073709551615) (h1 : k1 ≤ 18446744073709551615) :
    Calls Try.prog 8 #[.int .u8 n, .agg #[.int .u64 k0, .int .u64 k1], .int .u8 s] w fun e w' => e = .returned (.bool true) ∧ Below w.heap.size w w' := by
  obtain ⟨m, hm⟩ : ∃ m, m = n % 17 := ⟨_, rfl⟩
  have hm16 : m ≤ 16 := by omega
  have em : wrap64 (n : Int) = (n : Int) := w64 (by omega) (by omega)
  have em2 : Int.tmod (n : Int) 17 = (m : Int) := by rw [hm]; rfl
  have em3 : (n : Int) % 17 = (m : Int) := by rw [hm]; rfl
  clear hm
  obtain ⟨hPr, hPl, _⟩ := from_number m (k0 % fac m) hm16 (Nat.mod_lt _ (fac_pos m))
  obtain ⟨hQr, hQl, _⟩ := from_number m (k1 % fac m) hm16 (Nat.mod_lt _ (fac_pos m))
  generalize hP : fromOf m (upTo m) (fac m) (k0 % fac m) = P at *
  generalize hQ : fromOf m (upTo m) (fac m) (k1 % fac m) = Q at *
  have HP := Lib.hid hP
  have HQ := Lib.hid hQ
  have HPr := Lib.hid hPr
  have HQr := Lib.hid hQr
  have HPl := Lib.hid hPl
  have HQl := Lib.hid hQl
  clear hP hQ hPr hQr hPl hQl
  go_enter Try.func8, Try.ntmps8
  go_wp2_with (fail)
  refine (from_call m k0 P _ hm16 h0 HP.out).mono ?_
  rintro e wa ⟨Ap, cp, rfl, hIP, hb1⟩
  have hc1 : wa.cell? ⟨w.heap.size, 1, none⟩ = some (.int .u64 k1) := (hb1.cell (p := ⟨w.heap.size, 1, none⟩) (by simp)).trans (blk_cell (blk_new w _) 1)
  have HB1 := Lib.hid (below_then ((Below.refl _ w).alloc (Nat.le_refl _) _) (by simp) hb1)
  clear hb1
  go_wp2_with (fail)
  refine (from_call m k1 Q _ hm16 h1 HQ.out).mono ?_
  rintro e wb ⟨Aq, cq, rfl, hIQ, hb2⟩
  replace hIP := hIP.below hb2
  have HB2 := Lib.hid (below_then HB1.out HB1.out.size hb2)
  clear HB1 hb2 hc1
  go_wp2_with (fail)
  go_loopw [12, 13] (fun lv iv wx => ∃ j : Nat, j ≤ m ∧ iv = .int .i64 j ∧ Hid (wx.ownsRow wb.heap.size 3 1 lv (things j s).length (nums .i64 (things j s))) ∧ Hid (Below wb.heap.size wb wx)) (fun _ iv _ => m - (intOf iv).toNat)
  case atStart => exact ⟨0, Nat.zero_le _, rfl, own_nil _ _ _ _, Below.refl _ _⟩
  case round =>
    obtain ⟨j, hj, rfl, hown, hbx⟩ := hrel
    by_cases hlt : j < m
    · have hjs : (j : Int) * (s : Int) ≤ 16 * 255 := Int.mul_le_mul (by omega) (by omega) (by omega) (by omega)
      have hjs0 : 0 ≤ (j : Int) * (s : Int) := Int.mul_nonneg (by omega) (by omega)
      obtain ⟨x, hx⟩ : ∃ x, x = (j : Int) * (s : Int) := ⟨_, rfl⟩
      have eW : wrap64 ((j : Int) * (s : Int)) = x := by rw [hx]; exact w64 (by omega) (by omega)
      have hX := Lib.hid hx
      clear hx hjs hjs0
      go_wp2_with (at_builtin; refine print_append_num (w0 := wb) wb.heap.size rfl (.tmp 48) (.tmp 53) 22 3 .i64 8 rfl Try.underlying22 HK.info3 (Nat.succ_pos 7) _ (things j s) x rfl rfl hown.out hbx.out hbx.out.size ?qa ?_)
      case qa => rw [things_len]; omega
      intro v1 w1 hown1 hb1 _ _
      have hO1 := Lib.hid hown1
      clear hown1
      go_wp2
      go_roundw
      case measure => simp [intOf]; omega
      case rel =>
        refine ⟨j + 1, by omega, by go_num, ?_, hb1⟩
        rw [things_succ, ← hX.out]
        have h2 : World.ownsRow _ _ _ _ _ _ _ := hO1.out
        show World.ownsRow _ _ _ _ _ _ _
        simpa using h2
    · obtain rfl : j = m := by omega
      obtain ⟨L, hL⟩ : ∃ L, L = things j s := ⟨_, rfl⟩
      have hLl : Hid (L.length = j) := by rw [hL]; exact things_len j s
      rw [← hL] at hown
      clear hL
      obtain ⟨Al, cl, rfl, hIL⟩ := IsInts.of_R (R_of_own hown.out (fun _ _ => trivial) : Kd.R (Kd.int .i64) 3 _ wb.heap.size (fun _ => True) _ L)
      replace hIP := hIP.below hbx.out
      replace hIQ := hIQ.below hbx.out
      have HB3 := Lib.hid (below_then HB2.out HB2.out.size hbx.out)
      clear hown hbx HB2
      go_wp2_with (fail)
      -- a := Turn(p, l)
      have ea : turnOf P L = (turned P L, 0) := by unfold turnOf; rw [if_pos ⟨HPr.out, by rw [hLl.out]; exact HPl.out.symm⟩]
      refine (turn_call P L (turned P L) _ _ _ _ _ hIP hIL ea).mono ?_
      rintro e wc ⟨Aa, ca, rfl, hIa, hb3⟩
      replace hIP := hIP.below hb3
      replace hIQ := hIQ.below hb3
      replace hIL := hIL.below hb3
      have HB4 := Lib.hid (below_then HB3.out HB3.out.size hb3)
      clear HB3 hb3 ea
      go_wp2_with (fail)
      -- back, _ := Back(p)
      obtain ⟨hbl, hbr, _⟩ := back_facts P HPr.out
      obtain ⟨B, hB⟩ : ∃ B, B = (backOf P).1 := ⟨_, rfl⟩
      have eb : backOf P = (B, 0) := by rw [hB]; unfold backOf; rw [if_pos HPr.out]
      rw [← hB] at hbl hbr
      have hund : turned B (turned P L) = L := by rw [hB]; exact turn_undone P L HPr.out (by rw [hLl.out]; exact HPl.out.symm)
      clear hB
      have eb2 : Hid (turnOf B (turned P L) = (L, 0)) := by
        show turnOf B (turned P L) = (L, 0)
        unfold turnOf
        rw [if_pos ⟨hbr, by rw [turned_len, hbl]⟩, hund]
      clear hund hbr hbl
      refine (back_call P B _ _ _ hIP eb).mono ?_
      rintro e wd ⟨Ab, cb, rfl, hIB, hb4⟩
      replace hIP := hIP.below hb4
      replace hIQ := hIQ.below hb4
      replace hIL := hIL.below hb4
      replace hIa := hIa.below hb4
      have HB5 := Lib.hid (below_then HB4.out HB4.out.size hb4)
      clear HB4 hb4 eb
      go_wp2_with (fail)
      -- b, _ := Turn(back, a)
      refine (turn_call B (turned P L) L _ _ _ _ _ hIB hIa eb2.out).mono ?_
      rintro e we ⟨Ac, cc, rfl, hIb, hb5⟩
      replace hIP := hIP.below hb5
      replace hIQ := hIQ.below hb5
      replace hIL := hIL.below hb5
      replace hIa := hIa.below hb5
      have HB6 := Lib.hid (below_then HB5.out HB5.out.size hb5)
      clear HB5 hb5 eb2 hIB
      go_wp2_with (fail)
      -- both, _ := Then(p, q)
      have eh : thenOf P Q = (turned Q P, 0) := by
        unfold thenOf turnOf
        rw [if_pos HPr.out, if_pos ⟨HQr.out, by rw [HPl.out]; exact HQl.out.symm⟩]
      have hTr := Lib.hid (then_right P Q HPr.out HQr.out (by rw [HPl.out]; exact HQl.out))
      have hbo := Lib.hid (then_both P Q L HPr.out HQr.out (by rw [HPl.out]; exact HQl.out))
      have hTl := Lib.hid (turned_len Q P)
      obtain ⟨T, hT⟩ : ∃ T, T = turned Q P := ⟨_, rfl⟩
      rw [← hT] at eh hTr hbo hTl
      clear hT
      refine (then_call P Q T _ _ _ _ _ hIP hIQ eh).mono ?_
      rintro e wf ⟨Ad, cd, rfl, hIT, hb6⟩
      replace hIQ := hIQ.below hb6
      replace hIL := hIL.below hb6
      replace hIa := hIa.below hb6
      replace hIb := hIb.below hb6
      have HB7 := Lib.hid (below_then HB6.out HB6.out.size hb6)
      clear HB6 hb6 eh hIP
      go_wp2_with (fail)
      -- c, _ := Turn(both, l)
      have hCl := Lib.hid (turned_len T L)
      have ec : turnOf T L = (turned T L, 0) := by
        unfold turnOf
        rw [if_pos ⟨hTr.out, by rw [hLl.out, hTl.out]; exact HQl.out.symm⟩]
      have ed : turnOf Q (turned P L) = (turned Q (turned P L), 0) := by
        unfold turnOf
        rw [if_pos ⟨HQr.out, by rw [turned_len, HPl.out]; exact HQl.out.symm⟩]
      rw [← hbo.out] at ed
      obtain ⟨C, hC⟩ : ∃ C, C = turned T L := ⟨_, rfl⟩
      rw [← hC] at ec ed hCl
      clear hC hbo
      have ED := Lib.hid ed
      clear ed
      refine (turn_call T L C _ _ _ _ _ hIT hIL ec).mono ?_
      rintro e wg ⟨Ae, ce, rfl, hIC, hb7⟩
      replace hIQ := hIQ.below hb7
      replace hIL := hIL.below hb7
      replace hIa := hIa.below hb7
      replace hIb := hIb.below hb7
      have HB8 := Lib.hid (below_then HB7.out HB7.out.size hb7)
      clear HB7 hb7 ec hIT
      go_wp2_with (fail)
      -- d, _ := Turn(q, a)
      refine (turn_call Q (turned P L) C _ _ _ _ _ hIQ hIa ED.out).mono ?_
      rintro e wh ⟨Af, cf, rfl, hID, hb8⟩
      replace hIL := hIL.below hb8
      replace hIb := hIb.below hb8
      replace hIC := hIC.below hb8
      have HB9 := Lib.hid (below_then HB8.out HB8.out.size hb8)
      clear HB8 hb8 ED hIQ hIa
      go_wp2_with (fail)
      refine (live_call _).mono ?_
      rintro e wi ⟨rfl, hb9⟩
      replace hIL := hIL.below hb9
      replace hIb := hIb.below hb9
      replace hIC := hIC.below hb9
      replace hID := hID.below hb9
      have HB10 := Lib.hid (below_then HB9.out HB9.out.size hb9)
      clear HB9 hb9
      go_wp2_with (fail)
      refine (same_call L _ _ _ _ _ hIb hIL (by rw [hLl.out]; omega)).mono ?_
      rintro e wj ⟨rfl, hb10⟩
      replace hIC := hIC.below hb10
      replace hID := hID.below hb10
      have HB11 := Lib.hid (below_then HB10.out HB10.out.size hb10)
      clear HB10 hb10
      go_wp2_with (fail)
      refine (same_call C _ _ _ _ _ hIC hID (by rw [hCl.out, hTl.out, HQl.out]; omega)).mono ?_
      rintro e wk ⟨rfl, hb11⟩
      go_wp2
      go_ret
      exact ⟨rfl, below_then HB11.out HB11.out.size hb11⟩
end Go.Proofs.Ytnhhfmmbanimlaa.HQ
