/-
PermBack: the order of a number has that number again, and is an order of so many things.
For every number of things (a byte, modulo 17) and every number.
-/
import Derived.Test.YtnhhfmmbanimlaaHAx4
import Derived.Test.YtnhhfmmbanimlaaQd
set_option linter.unusedVariables false
namespace Go.Proofs.Ytnhhfmmbanimlaa.Pure
open Go.RowKit Go.Proofs.Ytnhhfmmbanimlaa.HK Go.Proofs.Ytnhhfmmbanimlaa.HQ Go.Proofs.Ytnhhfmmbanimlaa.HA Go.Proofs.YtnhhfmmbanimlaaW.PrintWords Go.Proofs.YtnhhfmmbanimlaaW.PrintLast

theorem PermBack : reticulelaw02_PermBack.Pure := by
  intro a0 a1 h0 h1
  obtain ⟨h0a, h0b⟩ := wf_u8 h0
  obtain ⟨h1a, h1b⟩ := wf_u64 h1
  obtain ⟨b, rfl⟩ := Int.eq_ofNat_of_zero_le h0a
  obtain ⟨k1, rfl⟩ := Int.eq_ofNat_of_zero_le h1a
  have em : Int.tmod (wrap64 (b : Int)) 17 = ((b % 17 : Nat) : Int) := by rw [w64 (by omega) (by omega)]; rfl
  have hn : b % 17 ≤ 16 := by omega
  generalize hnn : b % 17 = n at *
  have hp := fac_pos n
  have hK := Nat.mod_lt k1 hp
  obtain ⟨hr, hl, hnum⟩ := from_number n (k1 % fac n) hn hK
  obtain ⟨k, hk⟩ := live_ev.rounds
  refine ⟨k, ?_⟩
  unfold reticulelaw02_PermBack.f
  have hf : perm_From.f (n : Int) (k1 : Int) = some (fromOf n (upTo n) (fac n) (k1 % fac n), 0) := by
    unfold perm_From.f
    rw [if_pos ⟨h1a, h1b⟩, if_pos ⟨by omega, by omega⟩]
    rfl
  have hN : perm_Number.f (fromOf n (upTo n) (fac n) (k1 % fac n)) = some (((k1 % fac n : Nat) : Int), 0) := by
    unfold perm_Number.f
    rw [if_pos hr, hnum]
  have hR : perm_Right.f (fromOf n (upTo n) (fac n) (k1 % fac n)) = some true := by
    unfold perm_Right.f
    rw [hr]
  have hM : perm_Many.f (n : Int) = some ((fac n : Nat) : Int) := by
    unfold perm_Many.f manyOf
    rw [if_pos ⟨by omega, by omega⟩]
    rfl
  rw [em, hf]
  simp only [Option.bind_some]
  rw [hN]
  simp only [Option.bind_some]
  rw [hk]
  simp only [Option.bind_some]
  rw [if_pos trivial, if_pos trivial, if_pos trivial, hR]
  simp only [Option.bind_some]
  rw [if_pos trivial, if_pos (by rw [hl]), hM]
  simp only [Option.bind_some]
  rw [if_neg (by omega), show Int.tmod (k1 : Int) ((fac n : Nat) : Int) = ((k1 % fac n : Nat) : Int) from rfl]
  simp

end Go.Proofs.Ytnhhfmmbanimlaa.Pure
