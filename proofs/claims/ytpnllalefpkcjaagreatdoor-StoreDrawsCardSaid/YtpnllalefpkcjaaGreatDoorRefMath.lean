/-
Numbers by digits of 32 bits, as the references reckon: plain laws.
-/
import Derived.Test.YtpnllalefpkcjaaGreatDoorNatA
namespace Go.Proofs.YtpnllalefpkcjaaGreatDoor.Nat_

/-- The number of digits of 32 bits. -/
def vd : List Nat → Nat
  | [] => 0
  | x :: l => x + 4294967296 * vd l
/-- A number's digit. -/
def dgt (n i : Nat) : Nat := n / 4294967296 ^ i % 4294967296
theorem dpos (i : Nat) : 0 < 4294967296 ^ i := Nat.pow_pos (by decide)
theorem dgt_lt (n i : Nat) : dgt n i < 4294967296 := Nat.mod_lt _ (by decide)
theorem vd_append : ∀ a b : List Nat, vd (a ++ b) = vd a + 4294967296 ^ a.length * vd b
  | [], b => by simp [vd]
  | x :: a, b => by
    rw [List.cons_append, vd, vd, vd_append a b, List.length_cons, Nat.pow_succ, Nat.mul_add, Nat.add_assoc]
    congr 2
    rw [← Nat.mul_assoc, Nat.mul_comm 4294967296]
theorem vd_snoc (a : List Nat) (x : Nat) : vd (a ++ [x]) = vd a + 4294967296 ^ a.length * x := by rw [vd_append]; simp [vd]
theorem vd_lt : ∀ l : List Nat, (∀ x ∈ l, x < 4294967296) → vd l < 4294967296 ^ l.length
  | [], _ => by simp [vd]
  | x :: l, h => by
    have ih := vd_lt l (fun y hy => h y (List.mem_cons_of_mem _ hy))
    have hx := h x List.mem_cons_self
    rw [vd, List.length_cons, Nat.pow_succ]
    generalize 4294967296 ^ l.length = P at *
    omega
theorem vd_zeros (n : Nat) : vd (List.replicate n 0) = 0 := by
  induction n with
  | zero => rfl
  | succ n ih => rw [List.replicate_succ, vd, ih]
theorem pow64 (j : Nat) : 18446744073709551616 ^ j = 4294967296 ^ (2 * j) := by
  rw [show (18446744073709551616 : Nat) = 4294967296 ^ 2 by decide, ← Nat.pow_mul]
theorem val_div : ∀ (l : List Nat) (j : Nat), (∀ x ∈ l, x < 18446744073709551616) → val l / 18446744073709551616 ^ j = val (l.drop j)
  | l, 0, _ => by simp
  | [], j + 1, _ => by simp [val]
  | x :: l, j + 1, h => by
    have ih := val_div l j (fun y hy => h y (List.mem_cons_of_mem _ hy))
    have hx := h x List.mem_cons_self
    rw [val, Nat.pow_succ, Nat.mul_comm (18446744073709551616 ^ j), ← Nat.div_div_eq_div_mul, List.drop_succ_cons, ← ih]
    congr 1
    omega
theorem dgt_even (l : List Nat) (h : ∀ x ∈ l, x < 18446744073709551616) (j : Nat) : dgt (val l) (2 * j) = (l.getD j 0) % 4294967296 := by
  unfold dgt
  rw [← pow64, val_div l j h]
  by_cases hj : j < l.length
  · rw [List.drop_eq_getElem_cons hj, val, List.getD_eq_getElem?_getD, List.getElem?_eq_getElem hj, Option.getD_some]
    omega
  · rw [List.drop_eq_nil_of_le (by omega), List.getD_eq_getElem?_getD, List.getElem?_eq_none (by omega)]
    rfl
theorem dgt_odd (l : List Nat) (h : ∀ x ∈ l, x < 18446744073709551616) (j : Nat) : dgt (val l) (2 * j + 1) = (l.getD j 0) / 4294967296 := by
  unfold dgt
  rw [Nat.pow_succ, ← Nat.div_div_eq_div_mul, ← pow64, val_div l j h]
  by_cases hj : j < l.length
  · have hx := h _ (List.getElem_mem hj)
    rw [List.drop_eq_getElem_cons hj, val, List.getD_eq_getElem?_getD, List.getElem?_eq_getElem hj, Option.getD_some]
    generalize l[j] = x at *
    generalize val (l.drop (j + 1)) = y at *
    omega
  · rw [List.drop_eq_nil_of_le (by omega), List.getD_eq_getElem?_getD, List.getElem?_eq_none (by omega)]
    rfl
theorem mod_succ (n i : Nat) : n % 4294967296 ^ (i + 1) = n % 4294967296 ^ i + 4294967296 ^ i * dgt n i := by
  unfold dgt
  rw [Nat.pow_succ, Nat.mod_mul]
theorem div_succ (n i : Nat) : n / 4294967296 ^ i = dgt n i + 4294967296 * (n / 4294967296 ^ (i + 1)) := by
  unfold dgt
  rw [Nat.pow_succ, ← Nat.div_div_eq_div_mul]
  omega
theorem mod_big (n i : Nat) (h : n < 4294967296 ^ i) : n % 4294967296 ^ i = n := Nat.mod_eq_of_lt h
theorem val_small (l : List Nat) (h : ∀ x ∈ l, x < 18446744073709551616) : val l < 4294967296 ^ (2 * l.length) := by
  rw [← pow64]
  exact val_lt l h
theorem lt_pow_mono {n i j : Nat} (h : n < 4294967296 ^ i) (hij : i ≤ j) : n < 4294967296 ^ j := Nat.lt_of_lt_of_le h (Nat.pow_le_pow_right (by decide) hij)

/-- Digits, two by two, as limbs. -/
def pack : List Nat → List Nat
  | [] => []
  | [x] => [x]
  | x :: y :: l => (x + y * 4294967296) :: pack l
theorem pack_val : ∀ l : List Nat, val (pack l) = vd l
  | [] => rfl
  | [x] => by simp [pack, val, vd]
  | x :: y :: l => by
    rw [pack, val, pack_val l, vd, vd]
    omega
theorem pack_length : ∀ l : List Nat, (pack l).length = (l.length + 1) / 2
  | [] => rfl
  | [x] => by simp [pack]
  | x :: y :: l => by
    rw [pack, List.length_cons, pack_length l, List.length_cons, List.length_cons]
    omega
theorem pack_lt : ∀ l : List Nat, (∀ x ∈ l, x < 4294967296) → ∀ y ∈ pack l, y < 18446744073709551616
  | [], _, y, h => by cases h
  | [x], hx, y, h => by
    obtain rfl : y = x := by simpa [pack] using h
    have := hx y List.mem_cons_self
    omega
  | a :: b :: l, hx, y, h => by
    rw [pack] at h
    rcases List.mem_cons.1 h with rfl | h
    · have h1 := hx a List.mem_cons_self
      have h2 := hx b (List.mem_cons_of_mem _ List.mem_cons_self)
      omega
    · exact pack_lt l (fun z hz => hx z (List.mem_cons_of_mem _ (List.mem_cons_of_mem _ hz))) y h
/-- One more digit: at an even place a limb more, at an odd one the upper half of the last. -/
theorem pack_even : ∀ (l : List Nat) (x : Nat), l.length % 2 = 0 → pack (l ++ [x]) = pack l ++ [x]
  | [], _, _ => rfl
  | [_], _, h => by simp at h
  | a :: b :: l, x, h => by
    have := pack_even l x (by simp only [List.length_cons] at h; omega)
    rw [List.cons_append, List.cons_append, pack, pack, this, List.cons_append]
theorem pack_odd_get : ∀ (l : List Nat) (x : Nat), pack (l ++ [x]) = if l.length % 2 = 1 then (pack l).set (l.length / 2) ((pack l).getD (l.length / 2) 0 + x * 4294967296) else pack l ++ [x]
  | [], _ => rfl
  | [a], x => by simp [pack]
  | a :: b :: l, x => by
    have ih := pack_odd_get l x
    rw [List.cons_append, List.cons_append, pack, pack, ih]
    simp only [List.length_cons]
    have e1 : (l.length + 1 + 1) % 2 = l.length % 2 := by omega
    have e2 : (l.length + 1 + 1) / 2 = l.length / 2 + 1 := by omega
    rw [e1, e2]
    split
    · rw [List.set_cons_succ, List.getD_cons_succ]
    · rfl
theorem pack_last_lt : ∀ (l : List Nat), (∀ x ∈ l, x < 4294967296) → l.length % 2 = 1 → (pack l).getD (l.length / 2) 0 < 4294967296
  | [], _, h => by simp at h
  | [a], hx, _ => by simpa [pack] using hx a List.mem_cons_self
  | a :: b :: l, hx, h => by
    have := pack_last_lt l (fun z hz => hx z (List.mem_cons_of_mem _ (List.mem_cons_of_mem _ hz))) (by simp only [List.length_cons] at h; omega)
    rw [pack, List.length_cons, List.length_cons, show (l.length + 1 + 1) / 2 = l.length / 2 + 1 by omega, List.getD_cons_succ]
    exact this

/-- A step of the sum. -/
theorem add_dgt (x y r i c s : Nat) (h : r + 4294967296 ^ i * c = x % 4294967296 ^ i + y % 4294967296 ^ i) (hs : s = dgt x i + dgt y i + c) :
    (r + 4294967296 ^ i * (s % 4294967296)) + 4294967296 ^ (i + 1) * (s / 4294967296) = x % 4294967296 ^ (i + 1) + y % 4294967296 ^ (i + 1) := by
  rw [mod_succ x, mod_succ y, Nat.pow_succ]
  have hd := Nat.div_add_mod s 4294967296
  generalize 4294967296 ^ i = P at *
  generalize s / 4294967296 = q at *
  generalize s % 4294967296 = t at *
  generalize dgt x i = a at *
  generalize dgt y i = b at *
  have e : P * t + P * 4294967296 * q = P * s := by rw [Nat.mul_assoc, ← Nat.mul_add]; congr 1; omega
  have e2 : P * s = P * a + P * b + P * c := by rw [hs, Nat.mul_add, Nat.mul_add]
  omega
/-- A step of the difference. -/
theorem sub_dgt (x y r i c d : Nat) (h : r + y % 4294967296 ^ i = x % 4294967296 ^ i + 4294967296 ^ i * c) (hd : d + dgt y i + c = 4294967296 + dgt x i) :
    (r + 4294967296 ^ i * (d % 4294967296)) + y % 4294967296 ^ (i + 1) + 4294967296 ^ (i + 1) * (d / 4294967296) = x % 4294967296 ^ (i + 1) + 4294967296 ^ (i + 1) ∧ d / 4294967296 ≤ 1 := by
  have hx := dgt_lt x i
  have hy := dgt_lt y i
  refine ⟨?_, by omega⟩
  rw [mod_succ x, mod_succ y, Nat.pow_succ]
  have hdm := Nat.div_add_mod d 4294967296
  generalize 4294967296 ^ i = P at *
  generalize dgt x i = a at *
  generalize dgt y i = b at *
  generalize d / 4294967296 = q at *
  generalize d % 4294967296 = t at *
  have e : P * t + P * 4294967296 * q = P * d := by rw [Nat.mul_assoc, ← Nat.mul_add]; congr 1; omega
  have e2 : P * d + P * b + P * c = P * 4294967296 + P * a := by rw [← Nat.mul_add, ← Nat.mul_add, ← Nat.mul_add, hd]
  omega
/-- A step of the shift up. -/
theorem shl_dgt (x r i c s k : Nat) (h : r + 4294967296 ^ i * c = (x % 4294967296 ^ i) * k) (hs : s = dgt x i * k + c) :
    (r + 4294967296 ^ i * (s % 4294967296)) + 4294967296 ^ (i + 1) * (s / 4294967296) = (x % 4294967296 ^ (i + 1)) * k := by
  rw [mod_succ x, Nat.pow_succ, Nat.add_mul, ← h]
  have hd := Nat.div_add_mod s 4294967296
  generalize 4294967296 ^ i = P at *
  generalize s / 4294967296 = q at *
  generalize s % 4294967296 = t at *
  generalize dgt x i = a at *
  have e : P * t + P * 4294967296 * q = P * s := by rw [Nat.mul_assoc, ← Nat.mul_add]; congr 1; omega
  have e2 : P * s = P * a * k + P * c := by rw [hs, Nat.mul_add, Nat.mul_assoc]
  omega
/-- A digit of a number shifted down. -/
theorem shr_dgt (x i k : Nat) (hk : k ≤ 32) : (dgt x i + dgt x (i + 1) * 4294967296) / 2 ^ k % 4294967296 = x / 4294967296 ^ i / 2 ^ k % 4294967296 := by
  have h1 := div_succ x i
  have h2 := div_succ x (i + 1)
  generalize x / 4294967296 ^ i = X at *
  generalize x / 4294967296 ^ (i + 1) = Y at *
  generalize x / 4294967296 ^ (i + 1 + 1) = Z at *
  generalize dgt x i = a at *
  generalize dgt x (i + 1) = b at *
  obtain ⟨j, hj⟩ : ∃ j, 4294967296 = 2 ^ k * j := ⟨2 ^ (32 - k), by rw [← Nat.pow_add, show k + (32 - k) = 32 by omega]⟩
  have e : X = (a + b * 4294967296) + 2 ^ k * (j * 4294967296 * Z) := by
    rw [← Nat.mul_assoc, ← Nat.mul_assoc, ← hj, h1, h2, Nat.mul_add, Nat.mul_comm 4294967296 b, ← Nat.mul_assoc]
    omega
  rw [e, Nat.add_mul_div_left _ _ (Nat.pow_pos (by decide)), Nat.mul_right_comm, Nat.add_mul_mod_self_right]
end Go.Proofs.YtpnllalefpkcjaaGreatDoor.Nat_
