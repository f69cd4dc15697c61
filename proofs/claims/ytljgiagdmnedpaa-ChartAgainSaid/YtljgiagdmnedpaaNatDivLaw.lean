/-
Long division by limbs: plain laws.
-/
import Derived.Test.YtljgiagdmnedpaaNatProd
import Derived.Test.YtljgiagdmnedpaaNatGuess
namespace Go.Proofs.Ytljgiagdmnedpaa.Nat_

/-- A row with others laid over it from place o on. -/
def spl {α : Type} (L : List α) (o : Nat) (c : List α) : List α := L.take o ++ (c ++ L.drop (o + c.length))
theorem spl_length {α : Type} (L : List α) (o : Nat) (c : List α) (h : o + c.length ≤ L.length) : (spl L o c).length = L.length := by
  simp [spl]; omega
theorem spl_mem {α : Type} {L : List α} {o : Nat} {c : List α} {x : α} (h : x ∈ spl L o c) : x ∈ L ∨ x ∈ c := by
  unfold spl at h
  rcases List.mem_append.1 h with h | h
  · exact .inl (List.mem_of_mem_take h)
  · rcases List.mem_append.1 h with h | h
    · exact .inr h
    · exact .inl (List.mem_of_mem_drop h)
theorem spl_drop {α : Type} (L : List α) (o : Nat) (c : List α) (h : o ≤ L.length) : (spl L o c).drop o = c ++ L.drop (o + c.length) := by
  unfold spl
  exact List.drop_left' (by rw [List.length_take]; omega)
theorem spl_take {α : Type} (L : List α) (o : Nat) (c : List α) (h : o ≤ L.length) : (spl L o c).take o = L.take o := by
  unfold spl
  exact List.take_left' (by rw [List.length_take]; omega)
theorem val_zeros : ∀ l : List Nat, (∀ p, digit l p = 0) → val l = 0
  | [], _ => rfl
  | x :: l, h => by
    have h0 : x = 0 := h 0
    rw [val, h0, val_zeros l (fun p => h (p + 1))]
theorem digit_drop (l : List Nat) (s p : Nat) : digit (l.drop s) p = digit l (s + p) := by
  unfold digit
  rw [List.getElem?_drop]
theorem digit_append (a b : List Nat) (p : Nat) : digit (a ++ b) p = if p < a.length then digit a p else digit b (p - a.length) := by
  unfold digit
  by_cases h : p < a.length
  · rw [if_pos h, List.getElem?_append_left h]
  · rw [if_neg h, List.getElem?_append_right (by omega)]
theorem val_split (l : List Nat) (s : Nat) (h : s ≤ l.length) : val l = val (l.take s) + 18446744073709551616 ^ s * val (l.drop s) := by
  have h1 := val_append (l.take s) (l.drop s)
  rw [List.take_append_drop, List.length_take, Nat.min_eq_left h] at h1
  exact h1
theorem val_take_all (l : List Nat) (m : Nat) (h : ∀ p, m ≤ p → digit l p = 0) : val (l.take m) = val l := by
  by_cases hm : m ≤ l.length
  · rw [val_split l m hm, val_zeros (l.drop m) (fun p => by rw [digit_drop]; exact h _ (by omega)), Nat.mul_zero, Nat.add_zero]
  · rw [List.take_of_length_le (by omega)]

/-- Where the division stands, when the limbs from j on have been gone through: N by V, k limbs. -/
def DivAt (N V k j : Nat) (R Q : List Nat) : Prop :=
  (∀ x ∈ R, x < 18446744073709551616) ∧ (∀ x ∈ Q, x < 18446744073709551616) ∧ N = V * val Q + val R ∧ val (R.drop (j - k)) < V ∧ (∀ p, j ≤ p → digit R p = 0) ∧ ∀ p, p < j - k → digit Q p = 0
theorem DivAt.part {N V k i : Nat} {R Q : List Nat} (h : DivAt N V k (i + 1) R Q) (hk : k ≤ i) (hi : i < R.length) : val ((R.drop (i - k)).take (k + 1)) = val (R.drop (i - k)) ∧ val (R.drop (i - k)) < V * 18446744073709551616 := by
  obtain ⟨h1, h2, h3, h4, h5, h6⟩ := h
  refine ⟨val_take_all _ _ fun p hp => by rw [digit_drop]; exact h5 _ (by omega), ?_⟩
  have e := val_drop R (i - k) (by omega)
  have e2 : i + 1 - k = i - k + 1 := by omega
  rw [e2] at h4
  rw [e]
  have hd := h1 _ (List.getElem_mem (show i - k < R.length by omega))
  omega
theorem part_arith (L X T : Nat) (h : L < X) : L + X * T < (T + 1) * X := by
  rw [Nat.add_mul, Nat.one_mul, Nat.mul_comm X]
  omega
/-- What guess is told of a part. -/
theorem part_top (R : List Nat) (hR : ∀ x ∈ R, x < 18446744073709551616) (i k : Nat) (hk2 : 2 ≤ k) (hk : k ≤ i) (hi : i < R.length) (h0 : ∀ p, i + 1 ≤ p → digit R p = 0) :
    val (R.drop (i - k)) < ((digit R i * 18446744073709551616 + digit R (i - 1)) * 18446744073709551616 + digit R (i - 2) + 1) * 18446744073709551616 ^ (k - 2) := by
  have h1 := val_split (R.drop (i - k)) (k - 2) (by simp; omega)
  have h2 := val_lt ((R.drop (i - k)).take (k - 2)) (fun x hx => hR x (List.mem_of_mem_drop (List.mem_of_mem_take hx)))
  rw [List.length_take, List.length_drop, Nat.min_eq_left (by omega)] at h2
  rw [List.drop_drop, show i - k + (k - 2) = i - 2 by omega] at h1
  have e1 := val_drop R (i - 2) (by omega)
  have e2 := val_drop R (i - 1) (by omega)
  have e3 := val_drop R i hi
  rw [show i - 2 + 1 = i - 1 by omega] at e1
  rw [show i - 1 + 1 = i by omega] at e2
  have e4 : val (R.drop (i + 1)) = 0 := val_zeros _ (fun p => by rw [digit_drop]; exact h0 _ (by omega))
  rw [e4, Nat.mul_zero, Nat.add_zero] at e3
  rw [← digit_get R i hi] at e3
  rw [← digit_get R (i - 1) (by omega)] at e2
  rw [← digit_get R (i - 2) (by omega)] at e1
  have e5 : val (R.drop (i - 2)) = (digit R i * 18446744073709551616 + digit R (i - 1)) * 18446744073709551616 + digit R (i - 2) := by
    rw [e1, e2, e3]; omega
  rw [e5] at h1
  rw [h1]
  exact part_arith _ _ _ h2
theorem top_two (M : List Nat) (k : Nat) (hk : M.length = k) (hk2 : 2 ≤ k) : (digit M (k - 1) * 18446744073709551616 + digit M (k - 2)) * 18446744073709551616 ^ (k - 2) ≤ val M := by
  have h1 := val_split M (k - 2) (by omega)
  have e1 := val_drop M (k - 2) (by omega)
  have e2 := val_drop M (k - 1) (by omega)
  rw [show k - 2 + 1 = k - 1 by omega] at e1
  rw [show k - 1 + 1 = k by omega, List.drop_of_length_le (show M.length ≤ k by omega)] at e2
  rw [← digit_get M (k - 1) (by omega)] at e2
  rw [← digit_get M (k - 2) (by omega)] at e1
  have e5 : val (M.drop (k - 2)) = digit M (k - 1) * 18446744073709551616 + digit M (k - 2) := by
    rw [e1, e2]; simp only [val]; omega
  rw [e5] at h1
  rw [h1, Nat.mul_comm (18446744073709551616 ^ (k - 2))]
  exact Nat.le_add_left _ _
theorem DivAt.step {N V k i g : Nat} {R Q rl : List Nat} (h : DivAt N V k (i + 1) R Q) (hk : k ≤ i) (hi : i < R.length) (hq : i - k < Q.length) (hg : g < 18446744073709551616)
    (hrl : rl.length ≤ k) (hrlt : ∀ x ∈ rl, x < 18446744073709551616) (hr : val rl + V * g = val (R.drop (i - k))) (hV : val rl < V) :
    DivAt N V k i (spl (spl R (i - k) (List.replicate (k + 1) 0)) (i - k) rl) (Q.set (i - k) g) := by
  obtain ⟨h1, h2, h3, h4, h5, h6⟩ := h
  have hl1 : (spl R (i - k) (List.replicate (k + 1) 0)).length = R.length := spl_length _ _ _ (by simp; omega)
  have hd1 : (spl R (i - k) (List.replicate (k + 1) 0)).drop (i - k) = List.replicate (k + 1) 0 ++ R.drop (i + 1) := by
    rw [spl_drop _ _ _ (by omega), List.length_replicate, show i - k + (k + 1) = i + 1 by omega]
  have hd2 : (spl (spl R (i - k) (List.replicate (k + 1) 0)) (i - k) rl).drop (i - k) = rl ++ (List.replicate (k + 1 - rl.length) 0 ++ R.drop (i + 1)) := by
    rw [spl_drop _ _ _ (by omega), ← List.drop_drop, hd1, List.drop_append_of_le_length (by simp; omega), List.drop_replicate]
  have ht2 : (spl (spl R (i - k) (List.replicate (k + 1) 0)) (i - k) rl).take (i - k) = R.take (i - k) := by
    rw [spl_take _ _ _ (by omega), spl_take _ _ _ (by omega)]
  have hz : ∀ p, digit (List.replicate (k + 1 - rl.length) 0 ++ R.drop (i + 1)) p = 0 := by
    intro p
    rw [digit_append]
    split
    · exact digit_rep _ _
    · rw [digit_drop]; exact h5 _ (by omega)
  have hv2 : val ((spl (spl R (i - k) (List.replicate (k + 1) 0)) (i - k) rl).drop (i - k)) = val rl := by
    rw [hd2, val_append, val_zeros _ hz, Nat.mul_zero, Nat.add_zero]
  have hl2 : (spl (spl R (i - k) (List.replicate (k + 1) 0)) (i - k) rl).length = R.length := by
    rw [spl_length _ _ _ (by omega), hl1]
  have hvR := val_split R (i - k) (by omega)
  have hvR2 := val_split (spl (spl R (i - k) (List.replicate (k + 1) 0)) (i - k) rl) (i - k) (by omega)
  rw [ht2, hv2] at hvR2
  have hvQ := val_set Q (i - k) g hq
  have hq0 : Q[i - k] = 0 := by rw [← digit_get Q _ hq]; exact h6 _ (by omega)
  rw [hq0, Nat.mul_zero, Nat.add_zero] at hvQ
  refine ⟨?_, mem_set_lt _ _ _ hg h2, ?_, by rw [hv2]; exact hV, ?_, ?_⟩
  · intro x hx
    rcases spl_mem hx with hx | hx
    · rcases spl_mem hx with hx | hx
      · exact h1 x hx
      · obtain rfl := List.eq_of_mem_replicate hx
        decide
    · exact hrlt x hx
  · rw [hvQ, hvR2, h3, hvR, ← hr]
    generalize 18446744073709551616 ^ (i - k) = P
    generalize val (List.take (i - k) R) = T
    rw [Nat.mul_add, Nat.mul_add, ← Nat.mul_assoc V P, Nat.mul_comm V P, ← Nat.mul_assoc P V]
    omega
  · intro p hp
    have e : digit (spl (spl R (i - k) (List.replicate (k + 1) 0)) (i - k) rl) p = digit ((spl (spl R (i - k) (List.replicate (k + 1) 0)) (i - k) rl).drop (i - k)) (p - (i - k)) := by
      rw [digit_drop]; congr 1; omega
    rw [e, hd2, digit_append, if_neg (by omega)]
    exact hz _
  · intro p hp
    rw [digit_set _ _ _ _ hq, if_neg (by omega)]
    exact h6 p (by omega)
theorem DivAt.fin {x y n k : Nat} {R Q : List Nat} (h : DivAt (x * 2 ^ n) (y * 2 ^ n) k k R Q) (hy : 0 < y) : val Q = x / y ∧ val R = x % y * 2 ^ n := by
  obtain ⟨h1, h2, h3, h4, -⟩ := h
  rw [Nat.sub_self, List.drop_zero] at h4
  have hp : 0 < 2 ^ n := Nat.pow_pos (by decide)
  constructor
  · rw [← Nat.mul_div_mul_right x y hp, h3, Nat.mul_add_div (Nat.mul_pos hy hp), Nat.div_eq_of_lt h4, Nat.add_zero]
  · rw [← Nat.mul_mod_mul_right, h3, Nat.mul_add_mod, Nat.mod_eq_of_lt h4]
theorem DivAt.start {x V n k nx : Nat} {U : List Nat} (hx : x < 18446744073709551616 ^ nx) (hn : n ≤ 63) (hV : 2 ^ 63 * 18446744073709551616 ^ (k - 1) ≤ V) (hk : 1 ≤ k) (hkn : k ≤ nx + 1) (hl : U.length = nx + 1) (hU : ∀ a ∈ U, a < 18446744073709551616) (hv : val U = x * 2 ^ n) :
    DivAt (x * 2 ^ n) V k (nx + 1) U (List.replicate (nx + 1 - k) 0) := by
  refine ⟨hU, ?_, by rw [val_rep, Nat.mul_zero, Nat.zero_add, hv], ?_, fun p hp => digit_out _ _ (by omega), fun p _ => digit_rep _ _⟩
  · intro a ha
    obtain rfl := List.eq_of_mem_replicate ha
    decide
  · have h1 := val_split U (nx + 1 - k) (by omega)
    rw [hv] at h1
    have h2 : x * 2 ^ n < 18446744073709551616 ^ (nx + 1 - k) * V := by
      have h3 : x * 2 ^ n < 18446744073709551616 ^ nx * 2 ^ 63 :=
        Nat.lt_of_lt_of_le ((Nat.mul_lt_mul_right (Nat.pow_pos (by decide))).2 hx) (Nat.mul_le_mul_left _ (Nat.pow_le_pow_right (by decide) hn))
      have h4 : 18446744073709551616 ^ nx = 18446744073709551616 ^ (nx + 1 - k) * 18446744073709551616 ^ (k - 1) := by
        rw [← Nat.pow_add]; congr 1; omega
      refine Nat.lt_of_lt_of_le h3 ?_
      rw [h4, Nat.mul_assoc, Nat.mul_comm (18446744073709551616 ^ (k - 1))]
      exact Nat.mul_le_mul_left _ hV
    have h5 : 18446744073709551616 ^ (nx + 1 - k) * val (U.drop (nx + 1 - k)) < 18446744073709551616 ^ (nx + 1 - k) * V := by omega
    exact Nat.lt_of_mul_lt_mul_left h5
end Go.Proofs.Ytljgiagdmnedpaa.Nat_
