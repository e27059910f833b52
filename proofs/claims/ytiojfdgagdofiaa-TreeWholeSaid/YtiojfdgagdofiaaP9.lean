/-
Texts joined: WbC.
-/
import Derived.Test.YtiojfdgagdofiaaP7
import Derived.Test.YtiojfdgagdofiaaP4
/-
TreeWhole over the translation.
-/
set_option linter.unusedVariables false
set_option linter.unusedSimpArgs false
namespace Go.Proofs.Ytiojfdgagdofiaa.HP
open Go.RowKit Go.Proofs.Ytiojfdgagdofiaa.HB Go.Proofs.Ytiojfdgagdofiaa.HK Go.Proofs.YtiojfdgagdofiaaW.PrintWords Go.Proofs.YtiojfdgagdofiaaW.PrintLast Go.Proofs.YtiojfdgagdofiaaW.PrintMore
/-- A parse as an answer: forms, kids, places, where, why. -/
abbrev AnsQ := List FormP × (Nat → List Int) × List Int × Int × Int
def ansParse (r : Except (Int × Int) (List FormP × (Nat → List Int))) : AnsQ :=
  match r with
  | .ok (fs, ls) => (fs, ksOf ls, ls 0, 0, 0)
  | .error (a, why) => ([], fun _ => [], [], a, why)
def ParEnds (w : World) (q : AnsQ) (e : Ending) (w' : World) : Prop :=
  ∃ A c B d, e = .returned (.tuple #[.slice A q.1.length c, .slice B q.2.2.1.length d, .int .i64 q.2.2.2.1, .int .i64 q.2.2.2.2]) ∧ FRow w' A q.1 q.2.1 ∧ IRow w' B q.2.2.1 ∧ Below w.heap.size w w'
theorem ReadEnds.ans {w w' : World} {r : Except (Int × Int) (List FormP × (Nat → List Int))} {e : Ending} (h : ReadEnds w r e w') : ParEnds w (ansParse r) e w' := by
  cases r with
  | ok p =>
    obtain ⟨fs, ls⟩ := p
    obtain ⟨A, c, B, d, he, h1, h2, h3⟩ := h
    exact ⟨A, c, B, d, he, h1, h2, h3⟩
  | error p =>
    obtain ⟨a, why⟩ := p
    obtain ⟨he, h3⟩ := h
    exact ⟨none, 0, none, 0, he, FRow.nil _ _ _, IRow.nil _ _, h3⟩
/-- What is known of a parse. -/
structure ParOk (q : AnsQ) : Prop where
  few : q.1.length ≤ 400
  rows : ∀ j, (q.2.1 j).length ≤ 400
  top : q.2.2.1.length ≤ 400
  text : ∀ f ∈ q.1, f.t.size ≤ 140737488351232
  fo : q.2.2.2.2 = 0 → Fo (opOf q.1) q.2.1 12 q.2.2.1 0 q.1.length
theorem ansParse_ok {ts : List S37} (htx : ∀ T ∈ ts, T.f1.size ≤ 140737488351232) : ParOk (ansParse (parseP ts)) := by
  cases hp : parseP ts with
  | ok p =>
    obtain ⟨fs, ls⟩ := p
    have P := parsed hp
    exact ⟨P.few, fun j => P.rows _, P.rows 0, fine_text hp htx, fun _ => P.fo⟩
  | error p =>
    obtain ⟨a, why⟩ := p
    exact ⟨Nat.zero_le _, fun j => Nat.zero_le _, Nat.zero_le _, fun f hf => (by cases hf), fun h => absurd h (why_not hp)⟩
theorem cut_short {fs : List FormP} {ks : Nat → List Int} {i : Int} {st : TkSt} (h : cutP fs ks i = .ok st) : ∀ j, (ksOf st.2 j).length ≤ st.1.length := by
  unfold cutP at h
  split at h
  · split at h
    · injection h with h
      subst h
      intro j
      exact short_tk fs.length fs ks _ i.toNat rfl ([], fun _ => []) (fun j => Nat.zero_le _) (j + 2)
    · cases h
  · cases h
set_option maxHeartbeats 16000000 in
set_option maxRecDepth 100000 in
theorem whole_walk (w : World) (A A' : Option Addr) (c c' : Nat) (ts us : List S37) (k : Nat) (hk : k < 256) (hT : TRow w A ts) (hU : TRow w A' us) (hc : ts.length ≤ c) (hc' : us.length ≤ c') (htx : ∀ T ∈ ts, T.f1.size ≤ 140737488351232) (hux : ∀ T ∈ us, T.f1.size ≤ 140737488351232) :
    Calls Try.prog 10 #[.slice A ts.length c, .slice A' us.length c', .int .u8 (k : Int)] w fun e w' => TrueEnds w e w' := by
  have hfew := few_calls w A c ts hT hc
  have hfew' : ∀ w', Below w.heap.size w w' → Calls Try.prog 15 #[.slice A' us.length c'] w' fun e w2 => (∃ A2 c2, e = .returned (.slice A2 (us.take 700).length c2) ∧ TRow w' A2 (us.take 700) ∧ (us.take 700).length ≤ c2) ∧ w2 = w' :=
    fun w' hb => (few_calls w' A' c' us (hU.below hb) hc').mono fun e w2 ⟨h, e2⟩ => by subst e2; exact ⟨h, rfl⟩
  obtain ⟨tk, htk⟩ : ∃ tk, tk = ts.take 700 := ⟨_, rfl⟩
  obtain ⟨uk, huk⟩ : ∃ uk, uk = us.take 700 := ⟨_, rfl⟩
  have hl1 : tk.length ≤ 700 := by rw [htk]; exact List.length_take_le _ _
  have hl2 : uk.length ≤ 700 := by rw [huk]; exact List.length_take_le _ _
  have HTX : Hid (∀ T ∈ tk, T.f1.size ≤ 140737488351232) := fun T h => htx T (by rw [htk] at h; exact List.mem_of_mem_take h)
  have HUX : Hid (∀ T ∈ uk, T.f1.size ≤ 140737488351232) := fun T h => hux T (by rw [huk] at h; exact List.mem_of_mem_take h)
  rw [← htk] at hfew
  rw [← huk] at hfew'
  have HFEW := Lib.hid hfew
  have HFEW2 := Lib.hid hfew'
  clear hT hU hfew hfew' htk huk hc hc' htx hux
  go_enter Try.func10, Try.ntmps10
  go_wp2_with (fail)
  refine HFEW.out.mono ?_
  rintro e w0 ⟨⟨A1, c1, rfl, hT1, _⟩, rfl⟩
  obtain ⟨q1, hq1⟩ : ∃ q1, q1 = ansParse (parseP tk) := ⟨_, rfl⟩
  obtain ⟨q2, hq2⟩ : ∃ q2, q2 = ansParse (parseP uk) := ⟨_, rfl⟩
  have OK1 : Hid (ParOk q1) := by show ParOk q1; rw [hq1]; exact ansParse_ok HTX.out
  have OK2 : Hid (ParOk q2) := by show ParOk q2; rw [hq2]; exact ansParse_ok HUX.out
  have P1 : Hid (Calls Try.prog 14 #[.slice A1 tk.length c1] w0 fun e w' => ParEnds w0 q1 e w') := (parse_reads w0 A1 c1 tk hT1 (by omega)).mono fun e w' h => by rw [hq1]; exact h.ans
  have P2 : Hid (∀ w' A2 c2, TRow w' A2 uk → Calls Try.prog 14 #[.slice A2 uk.length c2] w' fun e w2 => ParEnds w' q2 e w2) := fun w' A2 c2 h => (parse_reads w' A2 c2 uk h (by omega)).mono fun e w2 h => by rw [hq2]; exact h.ans
  clear hT1 HTX HUX hq1 hq2 HFEW
  obtain ⟨fs, ks, top, at1, why1⟩ := q1
  obtain ⟨gs, hs, also, at2, why2⟩ := q2
  go_wp2_with (fail)
  refine P1.out.mono ?_
  rintro e w1 ⟨AA, cA, BA, dA, rfl, hf1, hi1, hb1⟩
  dsimp only at hf1 hi1 ⊢
  have HF1 := Lib.hid hf1
  have HI1 := Lib.hid hi1
  have HB1 := Lib.hid hb1
  have HFEW3 := Lib.hid (HFEW2.out w1 hb1)
  clear hf1 hi1 hb1 HFEW2 P1
  go_wp2_with (fail)
  refine HFEW3.out.mono ?_
  rintro e w2 ⟨⟨A2, c2, rfl, hT2, _⟩, rfl⟩
  have P3 := Lib.hid (P2.out w2 A2 c2 hT2)
  clear hT2 P2 HFEW3
  go_wp2_with (fail)
  refine P3.out.mono ?_
  rintro e w3 ⟨AB, cB, BB, dB, rfl, hf2, hi2, hb2⟩
  dsimp only at hf2 hi2 ⊢
  have HF2 := Lib.hid hf2
  have HI2 := Lib.hid hi2
  have HF1b := Lib.hid (HF1.out.below hb2)
  have HI1b := Lib.hid (HI1.out.below hb2)
  have HB2 := Lib.hid (below_then HB1.out HB1.out.size hb2)
  have HLIVE : Hid (∀ w', Below w0.heap.size w0 w' → Calls Try.prog 17 #[] w' fun e w4 => e = .returned (.bool true) ∧ Below w0.heap.size w0 w4) := fun w' hb => (live_calls w').mono fun e w4 ⟨he, h⟩ => ⟨he, below_then hb hb.size h⟩
  clear hf2 hi2 hb2 HF1 HI1 HB1 P3
  have f1 := OK1.out.few
  have f2 := OK2.out.few
  have t1 := OK1.out.top
  have t2 := OK2.out.top
  dsimp only at f1 f2 t1 t2
  by_cases e1 : why1 = 0
  · subst e1
    by_cases e2 : why2 = 0
    · subst e2
      have HFO1 := Lib.hid (OK1.out.fo rfl)
      have HFO2 := Lib.hid (OK2.out.fo rfl)
      dsimp only at HFO1 HFO2
      have R1 := right_calls w3 AA BA cA dA fs ks top HF1b.out HI1b.out (by omega) (fun j => Nat.le_trans (OK1.out.rows j) (by decide)) (by omega) OK1.out.text
      by_cases hr1 : rightB fs ks top = true
      · have HR1 := Lib.hid hr1
        rw [hr1] at R1
        have HRC1 := Lib.hid R1
        clear R1 hr1
        go_wp2_with (fail)
        refine HRC1.out.mono ?_
        rintro e w4 ⟨rfl, hb4⟩
        have HB4 := Lib.hid (below_then HB2.out HB2.out.size hb4)
        have HF1c := Lib.hid (HF1b.out.below hb4)
        have HI1c := Lib.hid (HI1b.out.below hb4)
        have HF2c := Lib.hid (HF2.out.below hb4)
        have HI2c := Lib.hid (HI2.out.below hb4)
        clear hb4 HRC1 HF1b HI1b HF2 HI2 HB2
        have R2 := right_calls w4 AB BB cB dB gs hs also HF2c.out HI2c.out (by omega) (fun j => Nat.le_trans (OK2.out.rows j) (by decide)) (by omega) OK2.out.text
        by_cases hr2 : rightB gs hs also = true
        · have HR2 := Lib.hid hr2
          rw [hr2] at R2
          have HRC2 := Lib.hid R2
          clear R2 hr2
          go_wp2_with (fail)
          refine HRC2.out.mono ?_
          rintro e w5 ⟨rfl, hb5⟩
          have HB5 := Lib.hid (below_then HB4.out HB4.out.size hb5)
          have hbc := both_calls w5 AA BA AB BB cA dA cB dB fs gs ks hs top also (HF1c.out.below hb5) (HI1c.out.below hb5) (HF2c.out.below hb5) (HI2c.out.below hb5) (by omega) (by omega) (fun j => Nat.le_trans (OK1.out.rows j) (by decide)) (fun j => Nat.le_trans (OK2.out.rows j) (by decide)) (by omega) (by omega) OK1.out.text OK2.out.text
          clear hb5 HRC2 HF1c HI1c HF2c HI2c HB4
          have hws : IntKind.i64.wrap ((fs.length : Int) + (gs.length : Int)) = ((fs.length : Int) + (gs.length : Int)) := IntWalk.i64_in _ (by omega)
          by_cases h4 : fs.length + gs.length ≤ 400
          · have hp : bothP fs ks top gs hs also = .ok (fs ++ gs, bothK fs.length ks hs, bothT fs.length top also) := by
              unfold bothP
              rw [if_pos ⟨HR1.out, HR2.out⟩, if_pos h4]
            rw [hp] at hbc
            have hall := both_all (right_all HR1.out) (right_all HR2.out)
            have hfo := both_fo HFO1.out HFO2.out
            have hN : (fs ++ gs).length = fs.length + gs.length := List.length_append
            have hrB := right_of_fo (by omega) hall hfo
            have hrows : ∀ j, (bothK fs.length ks hs j).length ≤ 400 := by
              intro j
              unfold bothK
              split
              · exact OK1.out.rows j
              · rw [List.length_map]; exact OK2.out.rows _
            have htops : (bothT fs.length top also).length ≤ 800 := by
              unfold bothT
              rw [List.length_append, List.length_map]
              omega
            have htext : ∀ f ∈ fs ++ gs, f.t.size ≤ 140737488351232 := by
              intro f hf
              rcases List.mem_append.1 hf with h | h
              · exact OK1.out.text f h
              · exact OK2.out.text f h
            have q4 : decide ((fs.length : Int) + (gs.length : Int) > 400) = false := decide_eq_false (by omega)
            have q4' : decide ((400 : Int) < (fs.length : Int) + (gs.length : Int)) = false := decide_eq_false (by omega)
            obtain ⟨FB, hFB⟩ : ∃ FB, FB = fs ++ gs := ⟨_, rfl⟩
            obtain ⟨KB, hKB⟩ : ∃ KB, KB = bothK fs.length ks hs := ⟨_, rfl⟩
            obtain ⟨TB, hTB⟩ : ∃ TB, TB = bothT fs.length top also := ⟨_, rfl⟩
            rw [← hFB, ← hKB, ← hTB] at hbc
            rw [← hFB] at hN htext
            rw [← hFB, ← hKB] at hall
            rw [← hKB] at hrows
            rw [← hTB] at htops
            rw [← hFB, ← hKB, ← hTB] at hfo hrB
            have h400 : FB.length ≤ 400 := by omega
            have HNN := Lib.hid hN
            clear hN
            have HBC := Lib.hid hbc
            have HALL := Lib.hid hall
            have HFO := Lib.hid hfo
            have HRB := Lib.hid hrB
            have HROWS := Lib.hid hrows
            have HTEXT := Lib.hid htext
            clear hbc hall hfo hrB hrows htext hp hFB hKB hTB HFO1 HFO2 HR1 HR2 OK1 OK2
            go_wp2_with (fail)
            refine HBC.out.mono ?_
            rintro e w6 ⟨A3, c3, B3, d3, rfl, hf3, hi3, hb6⟩
            have HB6 := Lib.hid (below_then HB5.out HB5.out.size hb6)
            have HF3 := Lib.hid hf3
            have HI3 := Lib.hid hi3
            have R3 := right_calls w6 A3 B3 c3 d3 FB KB TB hf3 hi3 (by omega) (fun j => Nat.le_trans (HROWS.out j) (by decide)) (by omega) HTEXT.out
            rw [HRB.out] at R3
            have HRC3 := Lib.hid R3
            clear hb6 hf3 hi3 R3 HBC
            go_wp2_with (fail)
            refine HRC3.out.mono ?_
            rintro e w7 ⟨rfl, hb7⟩
            have HB7 := Lib.hid (below_then HB6.out HB6.out.size hb7)
            have HF3b := Lib.hid (HF3.out.below hb7)
            clear hb7 HRC3 HF3 HI3 HB6 HB5
            have hNi : ((FB.length : Nat) : Int) = (fs.length : Int) + (gs.length : Int) := by have := HNN.out; omega
            have bN : (((FB.length : Nat) : Int) != (fs.length : Int) + (gs.length : Int)) = false := by rw [hNi]; simp
            have HNI := Lib.hid hNi
            clear hNi
            by_cases h0 : FB.length = 0
            · have b0 : (((FB.length : Nat) : Int) == 0) = true := by rw [h0]; rfl
              have HL7 := Lib.hid (HLIVE.out w7 HB7.out)
              clear h0
              go_wp2_with (fail)
              refine HL7.out.mono ?_
              rintro e w8 ⟨rfl, hb8⟩
              have HB8 := Lib.hid hb8
              clear hb8
              go_wp2
              go_ret
              exact ⟨rfl, HB8.out⟩
            · have b0 : (((FB.length : Nat) : Int) == 0) = false := by simpa using h0
              have b0n : ¬ ((FB.length : Nat) : Int) = 0 := by omega
              obtain ⟨m, hm⟩ : ∃ m, m = k % FB.length := ⟨_, rfl⟩
              have hmlt : m < FB.length := by rw [hm]; exact Nat.mod_lt _ (by omega)
              have hcv : IntKind.i64.wrap (k : Int) = (k : Int) := IntWalk.i64_in _ (by omega)
              have hrem : Int.tmod (k : Int) ((FB.length : Nat) : Int) = (m : Int) := by rw [hm]; exact (Int.ofNat_tmod k FB.length).symm
              have hwm : IntKind.i64.wrap (m : Int) = (m : Int) := IntWalk.i64_in _ (by omega)
              obtain ⟨st, hst, hsr, hsl, hs4, hsx⟩ := cut_right h400 HALL.out HFO.out m hmlt
              have hcc := cut_calls w7 A3 c3 FB KB HF3b.out (by omega) (fun j => Nat.le_trans (HROWS.out j) (by decide)) (m : Int)
              rw [hst] at hcc
              have hrl : ∀ j, (ksOf st.2 j).length ≤ 400 := fun j => Nat.le_trans (cut_short hst j) hs4
              have hsz := fun w' (hF : FRow w' A3 FB KB) => size_calls w' A3 c3 FB KB hF (by omega) (fun j => Nat.le_trans (HROWS.out j) (by decide)) (m : Int)
              rw [← hsl] at hsz
              have HSZ := Lib.hid hsz
              have HCC := Lib.hid hcc
              have HSR := Lib.hid hsr
              have HRL := Lib.hid hrl
              have HST : Hid (∀ f ∈ st.1, f.t.size ≤ 140737488351232) := fun f hf => HTEXT.out f (hsx f hf)
              clear hm hst hsr hsl hsx hcc hrl hsz h0 HALL HFO HRB HTEXT
              go_wp2_with (fail)
              refine HCC.out.mono ?_
              rintro e w8 ⟨A4, c4, B4, d4, rfl, hf4, hi4, hb8⟩
              have HF4 := Lib.hid hf4
              have HI4 := Lib.hid hi4
              have HB8 := Lib.hid (below_then HB7.out HB7.out.size hb8)
              have HF3c := Lib.hid (HF3b.out.below hb8)
              clear hf4 hi4 hb8 HCC HF3b HB7
              go_wp2_with (fail)
              refine (live_calls w8).mono ?_
              rintro e w9 ⟨rfl, hb9⟩
              have HB9 := Lib.hid (below_then HB8.out HB8.out.size hb9)
              have HF3d := Lib.hid (HF3c.out.below hb9)
              have R4 := right_calls w9 A4 B4 c4 d4 st.1 (ksOf st.2) [0] (HF4.out.below hb9) (HI4.out.below hb9) (by omega) (fun j => Nat.le_trans (HRL.out j) (by decide)) (by decide) HST.out
              rw [HSR.out] at R4
              have HRC4 := Lib.hid R4
              clear hb9 R4 HF4 HI4 HF3c HB8
              go_wp2_with (fail)
              refine HRC4.out.mono ?_
              rintro e w10 ⟨rfl, hb10⟩
              have HB10 := Lib.hid (below_then HB9.out HB9.out.size hb10)
              have HSZ2 := Lib.hid (HSZ.out w10 (HF3d.out.below hb10))
              clear hb10 HRC4 HF3d HB9 HSZ
              go_wp2_with (fail)
              refine HSZ2.out.mono ?_
              rintro e w11 ⟨rfl, hb11⟩
              have HB11 := Lib.hid (below_then HB10.out HB10.out.size hb11)
              have bb : (((st.1.length : Nat) : Int) == ((st.1.length : Nat) : Int)) = true := by simp
              clear hb11 HSZ2
              go_wp2
              go_ret
              exact ⟨rfl, HB11.out⟩
          · have hp : bothP fs ks top gs hs also = .error 4 := by
              unfold bothP
              rw [if_pos ⟨HR1.out, HR2.out⟩, if_neg h4]
            rw [hp] at hbc
            have HBC := Lib.hid hbc
            have q4 : decide ((fs.length : Int) + (gs.length : Int) > 400) = true := decide_eq_true (by omega)
            have q4' : decide ((400 : Int) < (fs.length : Int) + (gs.length : Int)) = true := decide_eq_true (by omega)
            clear hbc hp HFO1 HFO2 HR1 HR2 OK1 OK2
            go_wp2_with (fail)
            refine HBC.out.mono ?_
            rintro e w6 ⟨rfl, hb6⟩
            have HB6 := Lib.hid (below_then HB5.out HB5.out.size hb6)
            have HL7 := Lib.hid (HLIVE.out w6 HB6.out)
            clear hb6 HBC
            go_wp2_with (fail)
            refine HL7.out.mono ?_
            rintro e w8 ⟨rfl, hb8⟩
            have HB8 := Lib.hid hb8
            clear hb8
            go_wp2
            go_ret
            exact ⟨rfl, HB8.out⟩
        · have hr2' : rightB gs hs also = false := by simpa using hr2
          rw [hr2'] at R2
          have HRC2 := Lib.hid R2
          clear R2 hr2 hr2' HFO1 HFO2 OK1 OK2
          go_wp2_with (fail)
          refine HRC2.out.mono ?_
          rintro e w5 ⟨rfl, hb5⟩
          have HB5 := Lib.hid (below_then HB4.out HB4.out.size hb5)
          have HL7 := Lib.hid (HLIVE.out w5 HB5.out)
          clear hb5 HRC2
          go_wp2_with (fail)
          refine HL7.out.mono ?_
          rintro e w8 ⟨rfl, hb8⟩
          have HB8 := Lib.hid hb8
          clear hb8
          go_wp2
          go_ret
          exact ⟨rfl, HB8.out⟩
      · have hr1' : rightB fs ks top = false := by simpa using hr1
        rw [hr1'] at R1
        have HRC1 := Lib.hid R1
        clear R1 hr1 hr1' HFO1 HFO2 OK1 OK2
        go_wp2_with (fail)
        refine HRC1.out.mono ?_
        rintro e w4 ⟨rfl, hb4⟩
        have HB4 := Lib.hid (below_then HB2.out HB2.out.size hb4)
        have HL7 := Lib.hid (HLIVE.out w4 HB4.out)
        clear hb4 HRC1
        go_wp2_with (fail)
        refine HL7.out.mono ?_
        rintro e w8 ⟨rfl, hb8⟩
        have HB8 := Lib.hid hb8
        clear hb8
        go_wp2
        go_ret
        exact ⟨rfl, HB8.out⟩
    · have b2 : (why2 != 0) = true := by simpa using e2
      have HL7 := Lib.hid (HLIVE.out w3 HB2.out)
      clear e2 OK1 OK2
      go_wp2_with (fail)
      refine HL7.out.mono ?_
      rintro e w8 ⟨rfl, hb8⟩
      have HB8 := Lib.hid hb8
      clear hb8
      go_wp2
      go_ret
      exact ⟨rfl, HB8.out⟩
  · have b1 : (why1 != 0) = true := by simpa using e1
    have HL7 := Lib.hid (HLIVE.out w3 HB2.out)
    clear e1 OK1 OK2
    go_wp2_with (fail)
    refine HL7.out.mono ?_
    rintro e w8 ⟨rfl, hb8⟩
    have HB8 := Lib.hid hb8
    clear hb8
    go_wp2
    go_ret
    exact ⟨rfl, HB8.out⟩
end Go.Proofs.Ytiojfdgagdofiaa.HP
