/-
Texts joined: WbB.
-/
import Derived.Test.YtiojfdgagdofiaaP7
import Derived.Test.YtiojfdgagdofiaaP2
/-
TreeCuts over the translation.
-/
set_option linter.unusedVariables false
set_option linter.unusedSimpArgs false
namespace Go.Proofs.Ytiojfdgagdofiaa.HP
open Go.RowKit Go.Proofs.Ytiojfdgagdofiaa.HB Go.Proofs.Ytiojfdgagdofiaa.HK Go.Proofs.YtiojfdgagdofiaaW.PrintWords Go.Proofs.YtiojfdgagdofiaaW.PrintLast Go.Proofs.YtiojfdgagdofiaaW.PrintMore
set_option maxHeartbeats 16000000 in
set_option maxRecDepth 100000 in
theorem cuts_walk (w : World) (A B : Option Addr) (c d : Nat) (fs : List FormP) (ks : Nat → List Int) (top : List Int) (i : Int) (hF : FRow w A fs ks) (hT : IRow w B top) (hc : fs.length ≤ c) (hd : top.length ≤ d) (hk : ∀ j, (ks j).length ≤ 17592186043904) (hx : ∀ f ∈ fs, f.t.size ≤ 140737488351232) :
    Calls Try.prog 9 #[.slice A fs.length c, .slice B top.length d, .int .i64 i] w fun e w' => TrueEnds w e w' := by
  have HFO := Lib.hid (forms_calls w A c fs ks hF hc)
  have HPL := Lib.hid (places_calls w B d top hT hd)
  have hx2 : ∀ f ∈ fs.take 405, f.t.size ≤ 140737488351232 := fun f h => hx f (List.mem_of_mem_take h)
  have hl1 : (fs.take 405).length ≤ 405 := List.length_take_le _ _
  have hl2 : (top.take 100).length ≤ 100 := List.length_take_le _ _
  have HK := Lib.hid hk
  obtain ⟨gs, hgs⟩ : ∃ gs, gs = fs.take 405 := ⟨_, rfl⟩
  obtain ⟨tp, htp⟩ : ∃ tp, tp = top.take 100 := ⟨_, rfl⟩
  rw [← hgs] at HFO hx2 hl1
  rw [← htp] at HPL hl2
  have HX := Lib.hid hx2
  clear hF hT hc hd hk hx hx2 hgs htp
  go_enter Try.func9, Try.ntmps9
  go_wp2_with (fail)
  refine HFO.out.mono ?_
  rintro e w' ⟨⟨A1, c1, rfl, hF1⟩, rfl⟩
  go_wp2_with (fail)
  refine HPL.out.mono ?_
  rintro e w' ⟨⟨B1, d1, rfl, hT1⟩, rfl⟩
  have HF := Lib.hid hF1
  have HT := Lib.hid hT1
  have h1 := cut_calls w' A1 c1 gs ks hF1 (by omega) (fun j => Nat.le_trans (HK.out j) (by decide)) i
  obtain ⟨Q1, hQ1⟩ : ∃ Q1, Q1 = ansCut (cutP gs ks i) := ⟨_, rfl⟩
  obtain ⟨Q2, hQ2⟩ : ∃ Q2, Q2 = ansBoth (bothP gs ks tp gs ks tp) := ⟨_, rfl⟩
  have ok1 : AnsOk Q1 := by rw [hQ1]; exact ansCut_ok _ _ _
  have ok2 : AnsOk Q2 := by rw [hQ2]; exact ansBoth_ok _ _ _ _ _ _
  have H1 : Hid (Calls Try.prog 36 #[.slice A1 gs.length c1, .int .i64 i] w' fun e w2 => AnsEnds w' Q1 e w2) := h1.mono fun e w2 h => by rw [hQ1]; exact h.ans
  have OK1 := Lib.hid ok1
  have OK2 := Lib.hid ok2
  have HQ1 := Lib.hid hQ1
  have HQ2 := Lib.hid hQ2
  clear h1 ok1 ok2 hQ1 hQ2 HFO HPL hF1 hT1
  go_wp2_with (fail)
  refine H1.out.mono ?_
  rintro e w1 ⟨A2, c2, B2, d2, rfl, hf2, hi2, hb1⟩
  have HF2 := Lib.hid hf2
  have HI2 := Lib.hid hi2
  have HB1 := Lib.hid hb1
  have h2 := refCut_calls w1 A1 c1 gs ks (HF.out.below hb1) (by omega) HK.out i
  have H2 : Hid (Calls Try.prog 37 #[.slice A1 gs.length c1, .int .i64 i] w1 fun e w2 => AnsEnds w1 Q1 e w2) := h2.mono fun e w2 h => by rw [HQ1.out]; exact h.ans
  clear hf2 hi2 hb1 h2 H1
  go_wp2_with (fail)
  refine H2.out.mono ?_
  rintro e w2 ⟨A3, c3, B3, d3, rfl, hf3, hi3, hb2⟩
  have HF3 := Lib.hid hf3
  have HI3 := Lib.hid hi3
  have HF2b := Lib.hid (HF2.out.below hb2)
  have HI2b := Lib.hid (HI2.out.below hb2)
  have HB2 := Lib.hid (below_then HB1.out HB1.out.size hb2)
  have h3 := both_calls w2 A1 B1 A1 B1 c1 d1 c1 d1 gs gs ks ks tp tp (HF.out.below HB2.out) (HT.out.below HB2.out) (HF.out.below HB2.out) (HT.out.below HB2.out) (by omega) (by omega) HK.out HK.out (by omega) (by omega) HX.out HX.out
  have H3 : Hid (Calls Try.prog 38 #[.slice A1 gs.length c1, .slice B1 tp.length d1, .slice A1 gs.length c1, .slice B1 tp.length d1] w2 fun e w3 => AnsEnds w2 Q2 e w3) := h3.mono fun e w3 h => by rw [HQ2.out]; exact h.ans
  clear hf3 hi3 hb2 h3 H2 HB1 HF2 HI2
  go_wp2_with (fail)
  refine H3.out.mono ?_
  rintro e w3 ⟨A4, c4, B4, d4, rfl, hf4, hi4, hb3⟩
  have HF4 := Lib.hid hf4
  have HI4 := Lib.hid hi4
  have HF2c := Lib.hid (HF2b.out.below hb3)
  have HI2c := Lib.hid (HI2b.out.below hb3)
  have HF3c := Lib.hid (HF3.out.below hb3)
  have HI3c := Lib.hid (HI3.out.below hb3)
  have HB3 := Lib.hid (below_then HB2.out HB2.out.size hb3)
  have h4 := refBoth_calls w3 A1 B1 A1 B1 c1 d1 c1 d1 gs gs ks ks tp tp (HF.out.below HB3.out) (HT.out.below HB3.out) (HF.out.below HB3.out) (HT.out.below HB3.out) (by omega) (by omega) HK.out HK.out (by omega) (by omega) HX.out HX.out
  have H4 : Hid (Calls Try.prog 39 #[.slice A1 gs.length c1, .slice B1 tp.length d1, .slice A1 gs.length c1, .slice B1 tp.length d1] w3 fun e w4 => AnsEnds w3 Q2 e w4) := h4.mono fun e w4 h => by rw [HQ2.out]; exact h.ans
  clear hf4 hi4 hb3 h4 H3 HB2 HF2b HI2b HF3 HI3
  go_wp2_with (fail)
  refine H4.out.mono ?_
  rintro e w4 ⟨A5, c5, B5, d5, rfl, hf5, hi5, hb4⟩
  have HF5 := Lib.hid hf5
  have HI5 := Lib.hid hi5
  have HF2d := Lib.hid (HF2c.out.below hb4)
  have HI2d := Lib.hid (HI2c.out.below hb4)
  have HF3d := Lib.hid (HF3c.out.below hb4)
  have HI3d := Lib.hid (HI3c.out.below hb4)
  have HF4d := Lib.hid (HF4.out.below hb4)
  have HI4d := Lib.hid (HI4.out.below hb4)
  have HB4 := Lib.hid (below_then HB3.out HB3.out.size hb4)
  clear hf5 hi5 hb4 H4 HB3 HF2c HI2c HF3c HI3c HF4 HI4 HQ1 HQ2 HF HT HX HK
  obtain ⟨F1, K1, T1, E1⟩ := Q1
  obtain ⟨F2, K2, T2, E2⟩ := Q2
  dsimp only at HF5 HI5 HF2d HI2d HF3d HI3d HF4d HI4d ⊢
  go_wp2_with (fail)
  refine (live_calls w4).mono ?_
  rintro e w5 ⟨rfl, hb5⟩
  have HB5 := Lib.hid (below_then HB4.out HB4.out.size hb5)
  have HB45 := Lib.hid hb5
  have S1 := Lib.hid (same_calls w5 A2 A3 c2 c3 F1 K1 (HF2d.out.below hb5) (HF3d.out.below hb5) OK1.out.1 OK1.out.2.1)
  clear hb5
  go_wp2_with (fail)
  refine S1.out.mono ?_
  rintro e w6 ⟨rfl, n6, hw6⟩
  have hb6 : Below w5.heap.size w5 w6 := by rw [hw6]; exact pw_below_drewN (Below.refl _ _) n6
  have HB46 := Lib.hid (below_then HB45.out HB45.out.size hb6)
  have S2 := Lib.hid (sameInts_calls w6 B2 B3 d2 d3 T1 (HI2d.out.below HB46.out) (HI3d.out.below HB46.out) OK1.out.2.2)
  have b1 : (E1 == E1) = true := by simp
  have b2 : (E2 == E2) = true := by simp
  have HB6 := Lib.hid (below_then HB5.out HB5.out.size hb6)
  clear hb6 hw6 S1
  go_wp2_with (fail)
  refine S2.out.mono ?_
  rintro e w7 ⟨rfl, n7, hw7⟩
  have hb7 : Below w6.heap.size w6 w7 := by rw [hw7]; exact pw_below_drewN (Below.refl _ _) n7
  have HB47 := Lib.hid (below_then HB46.out HB46.out.size hb7)
  have S3 := Lib.hid (same_calls w7 A4 A5 c4 c5 F2 K2 (HF4d.out.below HB47.out) (HF5.out.below HB47.out) OK2.out.1 OK2.out.2.1)
  have HB7 := Lib.hid (below_then HB6.out HB6.out.size hb7)
  clear hb7 hw7 S2
  go_wp2_with (fail)
  refine S3.out.mono ?_
  rintro e w8 ⟨rfl, n8, hw8⟩
  have hb8 : Below w7.heap.size w7 w8 := by rw [hw8]; exact pw_below_drewN (Below.refl _ _) n8
  have HB48 := Lib.hid (below_then HB47.out HB47.out.size hb8)
  have S4 := Lib.hid (sameInts_calls w8 B4 B5 d4 d5 T2 (HI4d.out.below HB48.out) (HI5.out.below HB48.out) OK2.out.2.2)
  have HB8 := Lib.hid (below_then HB7.out HB7.out.size hb8)
  clear hb8 hw8 S3
  go_wp2_with (fail)
  refine S4.out.mono ?_
  rintro e w9 ⟨rfl, n9, hw9⟩
  have hb9 : Below w8.heap.size w8 w9 := by rw [hw9]; exact pw_below_drewN (Below.refl _ _) n9
  have HB9 := Lib.hid (below_then HB8.out HB8.out.size hb9)
  clear hb9 hw9 S4
  go_wp2
  go_ret
  exact ⟨rfl, HB9.out⟩
end Go.Proofs.Ytiojfdgagdofiaa.HP
