/-
Decimal digits of a number, and the number that digits tell: plain laws.
-/
import Derived.WalkKit
namespace Go.Proofs.Ytljgiagdmnedpaa.Nat_

def digF : Nat → Nat → List UInt8
  | 0, _ => []
  | f + 1, n => if n = 0 then [] else UInt8.ofNat (48 + n % 10) :: digF f (n / 10)
/-- The decimal digits, the lowest first. -/
def dig (n : Nat) : List UInt8 := digF n n
theorem digF_more : ∀ f f' n, n ≤ f → n ≤ f' → digF f n = digF f' n
  | 0, 0, _, _, _ => rfl
  | 0, f' + 1, n, h, _ => by
    have : n = 0 := by omega
    subst this
    simp [digF]
  | f + 1, 0, n, _, h => by
    have : n = 0 := by omega
    subst this
    simp [digF]
  | f + 1, f' + 1, n, h, h' => by
    unfold digF
    by_cases h0 : n = 0
    · simp [h0]
    · rw [if_neg h0, if_neg h0, digF_more f f' _ (by omega) (by omega)]
theorem dig_zero : dig 0 = [] := rfl
theorem dig_pos (n : Nat) (h : n ≠ 0) : dig n = UInt8.ofNat (48 + n % 10) :: dig (n / 10) := by
  obtain ⟨m, rfl⟩ : ∃ m, n = m + 1 := ⟨n - 1, by omega⟩
  show digF (m + 1) (m + 1) = _
  unfold digF
  rw [if_neg h]
  congr 1
  exact digF_more _ _ _ (by omega) (by omega)
/-- The digits of a number as they are written. -/
def decs (n : Nat) : List UInt8 := if n = 0 then [48] else (dig n).reverse
/-- One digit of a group: q is what stands above, k places are left of the group. -/
theorem dig_step (q k r : Nat) (h : 0 < r ∨ 0 < q) : dig (q * 10 ^ (k + 1) + r) = UInt8.ofNat (48 + r % 10) :: dig (q * 10 ^ k + r / 10) := by
  have e : q * 10 ^ (k + 1) = 10 * (q * 10 ^ k) := by rw [Nat.pow_succ, ← Nat.mul_assoc, Nat.mul_comm]
  have hp : 0 < 10 ^ k := Nat.pow_pos (by decide)
  have hne : q * 10 ^ (k + 1) + r ≠ 0 := by
    rcases h with h | h
    · omega
    · have := Nat.mul_pos h hp
      omega
  rw [dig_pos _ hne, e]
  generalize q * 10 ^ k = Q
  congr 2
  · omega
  · omega
def isDig (c : UInt8) : Bool := !(decide (c < 48) || decide (57 < c))
def parseL (l : List UInt8) : Nat := l.foldl (fun n c => n * 10 + (c.toNat - 48)) 0
theorem parseL_snoc (l : List UInt8) (c : UInt8) : parseL (l ++ [c]) = parseL l * 10 + (c.toNat - 48) := by simp [parseL]
theorem parse_go (l : List UInt8) : ∀ n, l.foldl (fun n c => n * 10 + (c.toNat - 48)) n = n * 10 ^ l.length + parseL l := by
  induction l with
  | nil => intro n; simp [parseL]
  | cons c l ih =>
    intro n
    have e : parseL (c :: l) = (c.toNat - 48) * 10 ^ l.length + parseL l := by
      show l.foldl _ (0 * 10 + (c.toNat - 48)) = _
      rw [ih]
      simp
    rw [List.foldl_cons, ih, e, List.length_cons, Nat.pow_succ, Nat.add_mul]
    have : n * 10 * 10 ^ l.length = n * (10 ^ l.length * 10) := by rw [Nat.mul_assoc, Nat.mul_comm 10]
    omega
theorem parseL_append (a b : List UInt8) : parseL (a ++ b) = parseL a * 10 ^ b.length + parseL b := by
  show (a ++ b).foldl _ 0 = _
  rw [List.foldl_append, parse_go]
  rfl
theorem parseL_mono (a b : List UInt8) : parseL a ≤ parseL (a ++ b) := by
  rw [parseL_append]
  have : 0 < 10 ^ b.length := Nat.pow_pos (by decide)
  have := Nat.le_mul_of_pos_right (parseL a) this
  omega
theorem parse_dig : ∀ f n, n ≤ f → parseL (dig n).reverse = n
  | 0, n, h => by
    have : n = 0 := by omega
    subst this
    rfl
  | f + 1, n, h => by
    by_cases h0 : n = 0
    · subst h0; rfl
    · have ih := parse_dig f (n / 10) (by omega)
      rw [dig_pos n h0, List.reverse_cons, parseL_snoc, ih]
      have : (UInt8.ofNat (48 + n % 10)).toNat = 48 + n % 10 := by
        rw [UInt8.toNat_ofNat']
        omega
      rw [this]
      omega
theorem parse_decs (n : Nat) : parseL (decs n) = n := by
  unfold decs
  by_cases h : n = 0
  · rw [if_pos h, h]; decide
  · rw [if_neg h]; exact parse_dig n n (Nat.le_refl _)
theorem dig_digs : ∀ f n, n ≤ f → ∀ c ∈ dig n, isDig c = true
  | 0, n, h, c, hc => by
    have : n = 0 := by omega
    subst this
    cases hc
  | f + 1, n, h, c, hc => by
    by_cases h0 : n = 0
    · subst h0; cases hc
    · rw [dig_pos n h0] at hc
      rcases List.mem_cons.1 hc with rfl | hc
      · have : n % 10 < 10 := Nat.mod_lt _ (by decide)
        generalize n % 10 = m at *
        match m, this with
        | 0, _ => decide
        | 1, _ => decide
        | 2, _ => decide
        | 3, _ => decide
        | 4, _ => decide
        | 5, _ => decide
        | 6, _ => decide
        | 7, _ => decide
        | 8, _ => decide
        | 9, _ => decide
      · exact dig_digs f (n / 10) (by omega) c hc
theorem decs_digs (n : Nat) : ∀ c ∈ decs n, isDig c = true := by
  unfold decs
  by_cases h : n = 0
  · rw [if_pos h]; decide
  · rw [if_neg h]
    intro c hc
    exact dig_digs n n (Nat.le_refl _) c (List.mem_reverse.1 hc)
theorem dig_nil (n : Nat) : dig n = [] ↔ n = 0 := by
  constructor
  · intro h
    by_cases h0 : n = 0
    · exact h0
    · rw [dig_pos n h0] at h; cases h
  · rintro rfl; rfl
theorem decs_ne (n : Nat) : decs n ≠ [] := by
  unfold decs
  by_cases h : n = 0
  · rw [if_pos h]; decide
  · rw [if_neg h]
    intro e
    exact h ((dig_nil n).1 (List.reverse_eq_nil_iff.1 e))
theorem dig_len : ∀ k n, (dig n).length ≤ k ↔ n < 10 ^ k
  | 0, n => by
    rw [Nat.le_zero, List.length_eq_zero_iff, dig_nil]
    simp
  | k + 1, n => by
    by_cases h0 : n = 0
    · subst h0
      exact ⟨fun _ => Nat.pow_pos (by decide), fun _ => Nat.zero_le _⟩
    · rw [dig_pos n h0, List.length_cons, Nat.add_le_add_iff_right, dig_len k, Nat.pow_succ, Nat.div_lt_iff_lt_mul (by decide)]
theorem decs_len (k n : Nat) (hk : 0 < k) : (decs n).length ≤ k ↔ n < 10 ^ k := by
  unfold decs
  by_cases h : n = 0
  · rw [if_pos h, h]
    exact ⟨fun _ => Nat.pow_pos (by decide), fun _ => hk⟩
  · rw [if_neg h, List.length_reverse, dig_len]
end Go.Proofs.Ytljgiagdmnedpaa.Nat_
