/-
nat.Mul: what its loops keep, in plain words.
-/
import Derived.Test.YtljgiagdmnedpaaNatMul
namespace Go.Proofs.Ytljgiagdmnedpaa.Nat_

theorem digit_set (O : List Nat) (p q y : Nat) (hp : p < O.length) : digit (O.set p y) q = if q = p then y else digit O q := by
  unfold digit
  rw [List.getElem?_set]
  by_cases h : q = p
  · subst h; simp [hp]
  · rw [if_neg (Ne.symm h), if_neg h]
theorem mem_set_lt (O : List Nat) (p y : Nat) (hy : y < 18446744073709551616) (h : ∀ x ∈ O, x < 18446744073709551616) : ∀ x ∈ O.set p y, x < 18446744073709551616 := by
  intro x hx
  rcases List.mem_or_eq_of_mem_set hx with hx | rfl
  · exact h x hx
  · exact hy
theorem digit_get (O : List Nat) (p : Nat) (h : p < O.length) : digit O p = O[p] := digit_in O p _ (List.getElem?_eq_getElem h)
def MulOut (l m : List Nat) (j : Nat) (O : List Nat) : Prop :=
  O.length = l.length + m.length ∧ (∀ x ∈ O, x < 18446744073709551616) ∧ val O = low l j * val m ∧ ∀ p, j + m.length ≤ p → digit O p = 0
def MulRow (l m : List Nat) (j k : Nat) (O : List Nat) (c : Nat) : Prop :=
  O.length = l.length + m.length ∧ (∀ x ∈ O, x < 18446744073709551616) ∧ c < 18446744073709551616 ∧
    val O + 18446744073709551616 ^ (j + k) * c = low l j * val m + 18446744073709551616 ^ j * (digit l j * low m k) ∧ ∀ p, j + m.length ≤ p → digit O p = 0
theorem val_rep : ∀ n, val (List.replicate n 0) = 0
  | 0 => rfl
  | n + 1 => by rw [List.replicate_succ, val, val_rep n]
theorem digit_rep (n p : Nat) : digit (List.replicate n 0) p = 0 := by
  unfold digit
  rw [List.getElem?_replicate]
  split <;> rfl
theorem MulOut.start (l m : List Nat) : MulOut l m 0 (List.replicate (l.length + m.length) 0) :=
  ⟨by simp, fun x hx => by rw [List.eq_of_mem_replicate hx]; decide, by rw [val_rep]; simp [low], fun p _ => digit_rep _ p⟩
theorem MulOut.fin {l m O : List Nat} (h : MulOut l m l.length O) : val O = val l * val m := by
  rw [h.2.2.1, low_all l _ (Nat.le_refl _)]
theorem MulOut.row {l m O : List Nat} {j : Nat} (h : MulOut l m j O) : MulRow l m j 0 O 0 :=
  ⟨h.1, h.2.1, by decide, by rw [h.2.2.1]; simp [low], h.2.2.2⟩
theorem MulRow.step {l m O : List Nat} {j k c : Nat} (h : MulRow l m j k O c) (hj : j < l.length) (hk : k < m.length) (hl : ∀ x ∈ l, x < 18446744073709551616) (hm : ∀ x ∈ m, x < 18446744073709551616)
    (high low0 c1 low1 c2 low2 : Nat) (hp : digit l j * digit m k = high * 18446744073709551616 + low0) (h1 : low1 + 18446744073709551616 * c1 = low0 + digit O (j + k)) (h2 : low2 + 18446744073709551616 * c2 = low1 + c) (h3 : low2 < 18446744073709551616) :
    MulRow l m j (k + 1) (O.set (j + k) low2) (high + c1 + c2) := by
  obtain ⟨e1, e2, e3, e4, e5⟩ := h
  have hlen : j + k < O.length := by omega
  have hx := digit_lt l hl j
  have hy := digit_lt m hm k
  have ho := digit_lt O e2 (j + k)
  have es := mul_step _ _ _ _ _ _ _ _ _ _ hp h1 h2
  have ht := mul_top _ _ _ _ _ hx hy ho e3 _ es
  refine ⟨by simp [e1], mem_set_lt O _ _ h3 e2, ht, ?_, ?_⟩
  · have hv := val_set O (j + k) low2 hlen
    rw [← digit_get O (j + k) hlen] at hv
    have hr := row_step (val O) (18446744073709551616 ^ (j + k)) (digit l j) (digit m k) (digit O (j + k)) c low2 (high + c1 + c2) _ _ hv es e4
    rw [← Nat.add_assoc, Nat.pow_succ, hr, low, Nat.mul_add, Nat.mul_add, Nat.pow_add, Nat.add_assoc]
    congr 2
    rw [Nat.mul_assoc, Nat.mul_left_comm (digit l j)]
  · intro p hp
    rw [digit_set O _ _ _ hlen, if_neg (by omega)]
    exact e5 p hp
theorem MulRow.fin {l m O : List Nat} {j c : Nat} (h : MulRow l m j m.length O c) (hj : j < l.length) : MulOut l m (j + 1) (O.set (j + m.length) c) := by
  obtain ⟨e1, e2, e3, e4, e5⟩ := h
  have hlen : j + m.length < O.length := by omega
  refine ⟨by simp [e1], mem_set_lt O _ _ e3 e2, ?_, ?_⟩
  · have hv := val_set O (j + m.length) c hlen
    rw [← digit_get O (j + m.length) hlen, e5 _ (Nat.le_refl _), Nat.mul_zero, Nat.add_zero, e4, low_all m _ (Nat.le_refl _)] at hv
    rw [hv, low, Nat.add_mul, Nat.mul_assoc]
  · intro p hp
    rw [digit_set O _ _ _ hlen, if_neg (by omega)]
    exact e5 p (by omega)
end Go.Proofs.Ytljgiagdmnedpaa.Nat_
