/-
Numbers by limbs: what stands in the lowest limbs; the loops of a sum, a difference, a comparison.
-/
import Derived.Test.YtljgiagdmnedpaaNatMath
namespace Go.Proofs.Ytljgiagdmnedpaa.Nat_

def digit (l : List Nat) (i : Nat) : Nat := l[i]?.getD 0
def low (l : List Nat) : Nat → Nat
  | 0 => 0
  | j + 1 => low l j + 18446744073709551616 ^ j * digit l j
theorem digit_lt (l : List Nat) (h : ∀ x ∈ l, x < 18446744073709551616) (i : Nat) : digit l i < 18446744073709551616 := by
  unfold digit
  cases hl : l[i]? with
  | none => decide
  | some x => exact h x (List.mem_of_getElem? hl)
theorem digit_out (l : List Nat) (i : Nat) (h : l.length ≤ i) : digit l i = 0 := by
  unfold digit
  rw [List.getElem?_eq_none h]
  rfl
theorem digit_in (l : List Nat) (i x : Nat) (h : l[i]? = some x) : digit l i = x := by
  unfold digit
  rw [h]
  rfl
theorem pow_pos_ (j : Nat) : 0 < 18446744073709551616 ^ j := Nat.pow_pos (by decide)
theorem low_lt (l : List Nat) (h : ∀ x ∈ l, x < 18446744073709551616) : ∀ j, low l j < 18446744073709551616 ^ j
  | 0 => by simp [low]
  | j + 1 => by
    have ih := low_lt l h j
    have hd := digit_lt l h j
    rw [low, Nat.pow_succ]
    have h2 : 18446744073709551616 ^ j * (digit l j + 1) ≤ 18446744073709551616 ^ j * 18446744073709551616 := Nat.mul_le_mul_left _ (by omega)
    rw [Nat.mul_add, Nat.mul_one] at h2
    omega
theorem low_take (l : List Nat) : ∀ j, j ≤ l.length → low l j = val (l.take j)
  | 0, _ => by simp [low, val]
  | j + 1, h => by
    have hj : j < l.length := by omega
    rw [low, low_take l j (by omega), List.take_succ_eq_append_getElem hj, val_append, List.length_take, Nat.min_eq_left (by omega), digit_in l j _ (List.getElem?_eq_getElem hj)]
    simp [val]
theorem low_out (l : List Nat) : ∀ k, low l (l.length + k) = val l
  | 0 => by rw [Nat.add_zero, low_take l _ (Nat.le_refl _), List.take_length]
  | k + 1 => by
    rw [← Nat.add_assoc, low, low_out l k, digit_out l _ (by omega), Nat.mul_zero, Nat.add_zero]
theorem low_all (l : List Nat) (j : Nat) (h : l.length ≤ j) : low l j = val l := by
  obtain ⟨k, rfl⟩ : ∃ k, j = l.length + k := ⟨j - l.length, by omega⟩
  exact low_out l k
theorem val_snoc (l : List Nat) (x : Nat) : val (l ++ [x]) = val l + 18446744073709551616 ^ l.length * x := by
  rw [val_append]
  simp [val]
/-- One limb of a sum. -/
theorem add_step (P v c x y a b s c2 : Nat) (h : v + P * c = x + y) (hs : s + 18446744073709551616 * c2 = a + b + c) : (v + P * s) + (P * 18446744073709551616) * c2 = (x + P * a) + (y + P * b) := by
  have : P * s + (P * 18446744073709551616) * c2 = P * a + P * b + P * c := by
    rw [Nat.mul_assoc, ← Nat.mul_add, hs, Nat.mul_add, Nat.mul_add]
  omega
/-- One limb of a difference. -/
theorem sub_step (P v c x y a b d c2 : Nat) (h : v + y = x + P * c) (hs : d + b + c = a + 18446744073709551616 * c2) : (v + P * d) + (y + P * b) = (x + P * a) + (P * 18446744073709551616) * c2 := by
  have : P * d + P * b + P * c = P * a + (P * 18446744073709551616) * c2 := by
    rw [Nat.mul_assoc, ← Nat.mul_add, ← Nat.mul_add, hs, Nat.mul_add]
  omega
/-- One limb of a comparison. -/
theorem cmp_lt (P x y a b : Nat) (hx : x < P) (h : a < b) : x + P * a < y + P * b := by
  have : P * (a + 1) ≤ P * b := Nat.mul_le_mul_left _ h
  rw [Nat.mul_add, Nat.mul_one] at this
  omega
theorem limbs_len : ∀ (k n : Nat), (limbs n).length ≤ k ↔ n < 18446744073709551616 ^ k
  | 0, n => by
    rw [Nat.le_zero, List.length_eq_zero_iff, limbs_nil]
    simp
  | k + 1, n => by
    by_cases h0 : n = 0
    · subst h0
      exact ⟨fun _ => pow_pos_ _, fun _ => Nat.zero_le _⟩
    · rw [limbs_pos n h0, List.length_cons, Nat.add_le_add_iff_right, limbs_len k, Nat.pow_succ, Nat.div_lt_iff_lt_mul (by decide)]
theorem limbs_small (x : Nat) (h : x < 18446744073709551616) : limbs x = if x = 0 then [] else [x] := by
  have := limbs_step x 0 h
  rwa [Nat.mul_zero, Nat.add_zero, if_pos rfl] at this
end Go.Proofs.Ytljgiagdmnedpaa.Nat_
