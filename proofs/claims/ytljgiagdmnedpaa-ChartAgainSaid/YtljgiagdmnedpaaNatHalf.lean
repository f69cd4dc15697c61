/-
A division of two words by one word, by halves of a word: plain laws.
-/
import Derived.WalkKit
namespace Go.Proofs.Ytljgiagdmnedpaa.Nat_

def HInv (u32 u1 y1 y0 q r : Nat) : Prop := q * y1 + r = u32 ∧ (u32 * 4294967296 + u1) / (y1 * 4294967296 + y0) ≤ q ∧ q ≤ 4294967297
theorem half_start (u32 u1 y1 y0 : Nat) (h : u32 < y1 * 4294967296 + y0) (h1 : 2147483648 ≤ y1) (h0 : y0 < 4294967296) (hu : u1 < 4294967296) : HInv u32 u1 y1 y0 (u32 / y1) (u32 % y1) := by
  refine ⟨by rw [Nat.mul_comm]; exact Nat.div_add_mod u32 y1, ?_, ?_⟩
  · have e1 : (u32 * 4294967296 + u1) / (y1 * 4294967296 + y0) ≤ (u32 * 4294967296 + u1) / (4294967296 * y1) := Nat.div_le_div_left (by omega) (by omega)
    rw [← Nat.div_div_eq_div_mul] at e1
    rwa [show (u32 * 4294967296 + u1) / 4294967296 = u32 by omega] at e1
  · have e2 : u32 < 4294967298 * y1 := by omega
    have := (Nat.div_lt_iff_lt_mul (by omega)).2 e2
    omega
theorem half_mul (u32 u1 y1 y0 q r : Nat) (h : q * y1 + r = u32) : q * (y1 * 4294967296 + y0) + (4294967296 * r + u1) = u32 * 4294967296 + u1 + q * y0 := by
  rw [← h, Nat.mul_add, ← Nat.mul_assoc]
  omega
theorem half_lt (u32 u1 y1 y0 : Nat) (h : u32 < y1 * 4294967296 + y0) (hu : u1 < 4294967296) : (u32 * 4294967296 + u1) / (y1 * 4294967296 + y0) < 4294967296 := by
  rw [Nat.div_lt_iff_lt_mul (by omega)]
  have : (u32 + 1) * 4294967296 ≤ (y1 * 4294967296 + y0) * 4294967296 := Nat.mul_le_mul_right _ h
  rw [Nat.mul_comm 4294967296]
  omega
theorem half_step {u32 u1 y1 y0 q r : Nat} (h : HInv u32 u1 y1 y0 q r) (hu : u32 < y1 * 4294967296 + y0) (hu1 : u1 < 4294967296) (hc : 4294967296 ≤ q ∨ 4294967296 * r + u1 < q * y0) : 0 < q ∧ HInv u32 u1 y1 y0 (q - 1) (r + y1) ∧ q - 1 ≤ 4294967296 := by
  obtain ⟨h1, h2, h3⟩ := h
  have hY : 0 < y1 * 4294967296 + y0 := by omega
  have hq : (u32 * 4294967296 + u1) / (y1 * 4294967296 + y0) < q := by
    rcases hc with hc | hc
    · have := half_lt u32 u1 y1 y0 hu hu1
      omega
    · rw [Nat.div_lt_iff_lt_mul hY]
      have := half_mul u32 u1 y1 y0 q r h1
      omega
  clear hc
  unfold HInv
  generalize (u32 * 4294967296 + u1) / (y1 * 4294967296 + y0) = D at *
  obtain ⟨p, rfl⟩ : ∃ p, q = p + 1 := ⟨q - 1, by omega⟩
  rw [Nat.add_mul, Nat.one_mul] at h1
  exact ⟨by omega, ⟨by rw [Nat.add_sub_cancel]; omega, by rw [Nat.add_sub_cancel]; omega, by omega⟩, by omega⟩
theorem half_fit {u32 u1 y1 y0 q r : Nat} (h : HInv u32 u1 y1 y0 q r) (hY : 0 < y1 * 4294967296 + y0) (hc : q * y0 ≤ 4294967296 * r + u1) : q = (u32 * 4294967296 + u1) / (y1 * 4294967296 + y0) := by
  obtain ⟨h1, h2, h3⟩ := h
  have := half_mul u32 u1 y1 y0 q r h1
  have h4 : q ≤ (u32 * 4294967296 + u1) / (y1 * 4294967296 + y0) := by
    rw [Nat.le_div_iff_mul_le hY]
    omega
  exact Nat.le_antisymm h4 h2
theorem half_over {u32 u1 y1 y0 q r : Nat} (h : HInv u32 u1 y1 y0 q r) (hY : 0 < y1 * 4294967296 + y0) (h0 : y0 < 4294967296) (hq : q ≤ 4294967296) (hr : 4294967296 ≤ r) : q = (u32 * 4294967296 + u1) / (y1 * 4294967296 + y0) := by
  refine half_fit h hY ?_
  have : q * y0 ≤ 4294967296 * 4294967295 := Nat.mul_le_mul hq (by omega)
  omega
/-- The two halves of the quotient, and the rest. -/
theorem two_halves (u32 u1 u0 Y : Nat) : u32 * 18446744073709551616 + (u1 * 4294967296 + u0) =
    ((u32 * 4294967296 + u1) / Y * 4294967296 + ((u32 * 4294967296 + u1) % Y * 4294967296 + u0) / Y) * Y + ((u32 * 4294967296 + u1) % Y * 4294967296 + u0) % Y := by
  have e1 := Nat.div_add_mod (u32 * 4294967296 + u1) Y
  have e2 := Nat.div_add_mod ((u32 * 4294967296 + u1) % Y * 4294967296 + u0) Y
  rw [Nat.add_mul, Nat.mul_right_comm]
  rw [Nat.mul_comm] at e1 e2
  omega
/-- From the number shifted up to the number itself. -/
theorem shift_back (N Q y S R : Nat) (hS : 0 < S) (h : N * S = Q * (y * S) + R) : R = R / S * S ∧ N = Q * y + R / S := by
  have e : N * S = Q * y * S + R := by rw [h, Nat.mul_assoc]
  have h1 : R % S = 0 := by
    have h2 := congrArg (· % S) e
    simp only [Nat.mul_mod_left, Nat.mul_add_mod_self_right] at h2
    exact h2.symm
  have h3 : R = R / S * S := by
    have := Nat.div_add_mod R S
    rw [h1, Nat.add_zero, Nat.mul_comm] at this
    exact this.symm
  refine ⟨h3, ?_⟩
  rw [h3, ← Nat.add_mul] at e
  have e2 := Nat.eq_of_mul_eq_mul_right hS e
  exact e2
end Go.Proofs.Ytljgiagdmnedpaa.Nat_
