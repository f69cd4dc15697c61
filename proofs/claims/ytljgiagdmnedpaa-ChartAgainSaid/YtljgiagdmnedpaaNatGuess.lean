/-
Numbers by limbs: the guess of a quotient's limb is not too small.
W: the weight of the limbs below the two highest of the divisor V; t, n: those two; U: what is divided; m: its two highest limbs together, u2 the next one.
-/
import Derived.Test.YtljgiagdmnedpaaNatMul
namespace Go.Proofs.Ytljgiagdmnedpaa.Nat_

theorem guess_first (U V W t n m u2 : Nat) (ht : 0 < t) (hV : (t * 18446744073709551616 + n) * W ≤ V) (hU : U < (m * 18446744073709551616 + u2 + 1) * W) (h2 : u2 < 18446744073709551616) : U / V ≤ m / t := by
  rw [Nat.le_div_iff_mul_le ht]
  have h1 : U / V * V ≤ U := Nat.div_mul_le_self U V
  generalize U / V = q at *
  rcases Nat.lt_or_ge m (q * t) with h | h
  · exfalso
    have hW : 0 < W := by
      rcases Nat.eq_zero_or_pos W with hw | hw
      · rw [hw, Nat.mul_zero] at hU; omega
      · exact hw
    have a1 : q * ((t * 18446744073709551616 + n) * W) ≤ q * V := Nat.mul_le_mul_left _ hV
    have a2 : (m + 1) * 18446744073709551616 ≤ q * t * 18446744073709551616 := Nat.mul_le_mul_right _ h
    have a3 : m * 18446744073709551616 + u2 + 1 ≤ q * (t * 18446744073709551616 + n) := by
      rw [Nat.mul_add, ← Nat.mul_assoc]
      omega
    have a4 : (m * 18446744073709551616 + u2 + 1) * W ≤ q * (t * 18446744073709551616 + n) * W := Nat.mul_le_mul_right _ a3
    rw [← Nat.mul_assoc] at a1
    omega
  · exact h
theorem guess_next (U V W t n m u2 q : Nat) (hV : (t * 18446744073709551616 + n) * W ≤ V) (hU : U < (m * 18446744073709551616 + u2 + 1) * W) (h : m * 18446744073709551616 + u2 < q * (t * 18446744073709551616 + n)) : U / V < q := by
  have a1 : q * ((t * 18446744073709551616 + n) * W) ≤ q * V := Nat.mul_le_mul_left _ hV
  have a4 : (m * 18446744073709551616 + u2 + 1) * W ≤ q * (t * 18446744073709551616 + n) * W := Nat.mul_le_mul_right _ h
  rw [← Nat.mul_assoc] at a1
  have h0 : U < q * V := by omega
  have hVp : 0 < V := by
    rcases Nat.eq_zero_or_pos V with hv | hv
    · rw [hv, Nat.mul_zero] at h0; omega
    · exact hv
  exact (Nat.div_lt_iff_lt_mul hVp).2 h0
/-- From a guess that is not too small, the first one from above that fits is the limb. -/
theorem guess_fit (U V g : Nat) (h1 : U / V ≤ g) (h2 : V * g ≤ U) (hV : 0 < V) : g = U / V := by
  have : g ≤ U / V := (Nat.le_div_iff_mul_le hV).2 (by rw [Nat.mul_comm]; exact h2)
  exact Nat.le_antisymm this h1
theorem guess_down (U V g : Nat) (_h1 : U / V ≤ g) (h2 : U < V * g) (hV : 0 < V) : U / V ≤ g - 1 ∧ 0 < g := by
  have h3 : U / V < g := (Nat.div_lt_iff_lt_mul hV).2 (by rw [Nat.mul_comm]; exact h2)
  exact ⟨Nat.le_sub_one_of_lt h3, Nat.lt_of_le_of_lt (Nat.zero_le _) h3⟩
theorem guess_great (U V B : Nat) (h : U < V * B) : U / V ≤ B - 1 := by
  rcases Nat.eq_zero_or_pos V with hv | hv
  · rw [hv, Nat.div_zero]; omega
  · have : U / V < B := (Nat.div_lt_iff_lt_mul hv).2 (by rw [Nat.mul_comm]; exact h)
    exact Nat.le_sub_one_of_lt this
end Go.Proofs.Ytljgiagdmnedpaa.Nat_
