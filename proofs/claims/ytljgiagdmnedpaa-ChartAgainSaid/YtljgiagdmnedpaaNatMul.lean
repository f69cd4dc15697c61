/-
Numbers by limbs: one limb of a product, of a shift, of a division by a limb.
-/
import Derived.Test.YtljgiagdmnedpaaNatLow
namespace Go.Proofs.Ytljgiagdmnedpaa.Nat_

theorem val_drop (l : List Nat) (m : Nat) (h : m < l.length) : val (l.drop m) = l[m] + 18446744073709551616 * val (l.drop (m + 1)) := by
  rw [List.drop_eq_getElem_cons h, val]
theorem val_set : ∀ (l : List Nat) (p y : Nat) (h : p < l.length), val (l.set p y) + 18446744073709551616 ^ p * l[p] = val l + 18446744073709551616 ^ p * y
  | x :: l, 0, y, _ => by
    simp only [List.set_cons_zero, val, List.getElem_cons_zero, Nat.pow_zero, Nat.one_mul]
    omega
  | x :: l, p + 1, y, h => by
    have ih := val_set l p y (by simpa using h)
    simp only [List.set_cons_succ, val, List.getElem_cons_succ, Nat.pow_succ]
    rw [Nat.mul_comm (18446744073709551616 ^ p) 18446744073709551616, Nat.mul_assoc, Nat.mul_assoc]
    generalize 18446744073709551616 ^ p * l[p]'(by simpa using h) = A at *
    generalize 18446744073709551616 ^ p * y = C at *
    omega
/-- A limb of a division by d. -/
theorem small_step (x v q d r t r2 : Nat) (h : v = q * d + r) (hs : r * 18446744073709551616 + x = t * d + r2) : x + 18446744073709551616 * v = (t + 18446744073709551616 * q) * d + r2 := by
  rw [h, Nat.add_mul, Nat.mul_add, Nat.mul_assoc]
  omega
/-- A limb of a product by a limb: no carry is lost. -/
theorem mul_step (x y o c high low c1 low1 c2 low2 : Nat) (hp : x * y = high * 18446744073709551616 + low) (h1 : low1 + 18446744073709551616 * c1 = low + o) (h2 : low2 + 18446744073709551616 * c2 = low1 + c) :
    x * y + o + c = low2 + 18446744073709551616 * (high + c1 + c2) := by omega
theorem mul_top (x y o c h : Nat) (hx : x < 18446744073709551616) (hy : y < 18446744073709551616) (ho : o < 18446744073709551616) (hc : c < 18446744073709551616) (l : Nat) (he : x * y + o + c = l + 18446744073709551616 * h) : h < 18446744073709551616 := by
  have : x * y ≤ 18446744073709551615 * 18446744073709551615 := Nat.mul_le_mul (by omega) (by omega)
  omega
/-- What a row of a product adds. -/
theorem row_step (V P x y o c l h T : Nat) (V2 : Nat) (hV : V2 + P * o = V + P * l) (he : x * y + o + c = l + 18446744073709551616 * h) (hT : V + P * c = T) : V2 + (P * 18446744073709551616) * h = T + P * (x * y) := by
  have : P * (x * y) + P * o + P * c = P * l + (P * 18446744073709551616) * h := by
    rw [Nat.mul_assoc, ← Nat.mul_add, ← Nat.mul_add, he, Nat.mul_add]
  omega
/-- A limb shifted up by n bits: what stays, and what goes over. -/
theorem shift_parts (x n : Nat) : x * 2 ^ n = x * 2 ^ n % 18446744073709551616 + 18446744073709551616 * (x * 2 ^ n / 18446744073709551616) := by
  have := Nat.div_add_mod (x * 2 ^ n) 18446744073709551616
  omega
theorem shift_over (x n : Nat) (hx : x < 18446744073709551616) : x * 2 ^ n / 18446744073709551616 < 2 ^ n := by
  rw [Nat.div_lt_iff_lt_mul (by decide), Nat.mul_comm (2 ^ n)]
  exact Nat.mul_lt_mul_of_pos_right hx (Nat.pow_pos (by decide))
theorem shift_over_eq (x n : Nat) (hn : n < 64) : x * 2 ^ n / 18446744073709551616 = x / 2 / 2 ^ (63 - n) := by
  have h1 : (18446744073709551616 : Nat) = 2 ^ (64 - n) * 2 ^ n := by
    rw [← Nat.pow_add, show 64 - n + n = 64 by omega]
  rw [h1, Nat.mul_div_mul_right _ _ (Nat.pow_pos (by decide)), Nat.div_div_eq_div_mul]
  congr 1
  rw [show 64 - n = (63 - n) + 1 by omega, Nat.pow_succ, Nat.mul_comm]
theorem shift_or (x n c : Nat) (hn : n < 64) (hc : c < 2 ^ n) : c ||| x * 2 ^ n % 18446744073709551616 = c + x * 2 ^ n % 18446744073709551616 := by
  have h1 : (18446744073709551616 : Nat) = 2 ^ (64 - n) * 2 ^ n := by
    rw [← Nat.pow_add, show 64 - n + n = 64 by omega]
  have h2 : x * 2 ^ n % 18446744073709551616 = 2 ^ n * (x % 2 ^ (64 - n)) := by
    rw [h1, Nat.mul_mod_mul_right, Nat.mul_comm]
  rw [h2, Nat.or_comm, ← Nat.two_pow_add_eq_or_of_lt hc, Nat.add_comm]
end Go.Proofs.Ytljgiagdmnedpaa.Nat_
