/-
Numbers by limbs of 64 bits: plain laws.
-/
import Derived.WalkKit
namespace Go.Proofs.Ytljgiagdmnedpaa.Nat_

def val : List Nat → Nat
  | [] => 0
  | x :: l => x + 18446744073709551616 * val l
def trim : List Nat → List Nat
  | [] => []
  | x :: l => if trim l = [] then (if x = 0 then [] else [x]) else x :: trim l
def limbsF : Nat → Nat → List Nat
  | 0, _ => []
  | f + 1, n => if n = 0 then [] else n % 18446744073709551616 :: limbsF f (n / 18446744073709551616)
def limbs (n : Nat) : List Nat := limbsF n n
theorem limbsF_more : ∀ f f' n, n ≤ f → n ≤ f' → limbsF f n = limbsF f' n
  | 0, 0, _, _, _ => rfl
  | 0, f' + 1, n, h, _ => by
    have : n = 0 := by omega
    subst this
    simp [limbsF]
  | f + 1, 0, n, _, h => by
    have : n = 0 := by omega
    subst this
    simp [limbsF]
  | f + 1, f' + 1, n, h, h' => by
    unfold limbsF
    by_cases h0 : n = 0
    · simp [h0]
    · rw [if_neg h0, if_neg h0, limbsF_more f f' _ (by omega) (by omega)]
theorem limbs_zero : limbs 0 = [] := rfl
theorem limbs_pos (n : Nat) (h : n ≠ 0) : limbs n = n % 18446744073709551616 :: limbs (n / 18446744073709551616) := by
  obtain ⟨m, rfl⟩ : ∃ m, n = m + 1 := ⟨n - 1, by omega⟩
  show limbsF (m + 1) (m + 1) = _
  unfold limbsF
  rw [if_neg h]
  congr 1
  exact limbsF_more _ _ _ (by omega) (by omega)
theorem limbs_nil (n : Nat) : limbs n = [] ↔ n = 0 := by
  constructor
  · intro h
    by_cases h0 : n = 0
    · exact h0
    · rw [limbs_pos n h0] at h
      cases h
  · rintro rfl
    rfl
theorem limbs_step (x n : Nat) (hx : x < 18446744073709551616) : limbs (x + 18446744073709551616 * n) = if n = 0 then (if x = 0 then [] else [x]) else x :: limbs n := by
  by_cases hn : n = 0
  · rw [if_pos hn, hn]
    by_cases h0 : x = 0
    · rw [if_pos h0, h0]; rfl
    · rw [if_neg h0, Nat.mul_zero, Nat.add_zero, limbs_pos x h0, Nat.mod_eq_of_lt hx, Nat.div_eq_of_lt hx]; rfl
  · rw [if_neg hn, limbs_pos _ (by omega)]
    congr 1
    · omega
    · congr 1
      omega
theorem trim_limbs : ∀ l : List Nat, (∀ x ∈ l, x < 18446744073709551616) → trim l = limbs (val l)
  | [], _ => rfl
  | x :: l, h => by
    have ih := trim_limbs l (fun y hy => h y (List.mem_cons_of_mem _ hy))
    rw [trim, val, limbs_step x _ (h x List.mem_cons_self), ih]
    by_cases h0 : val l = 0
    · rw [if_pos h0, if_pos ((limbs_nil _).2 h0)]
    · rw [if_neg h0, if_neg (fun h => h0 ((limbs_nil _).1 h))]
theorem val_limbsF : ∀ f n, n ≤ f → val (limbsF f n) = n
  | 0, n, h => by
    have : n = 0 := by omega
    subst this
    rfl
  | f + 1, n, h => by
    unfold limbsF
    by_cases h0 : n = 0
    · simp [h0, val]
    · rw [if_neg h0, val, val_limbsF f _ (by omega)]
      omega
theorem val_limbs (n : Nat) : val (limbs n) = n := val_limbsF n n (Nat.le_refl _)
theorem limbsF_lt : ∀ f n, ∀ x ∈ limbsF f n, x < 18446744073709551616
  | 0, _, x, h => by cases h
  | f + 1, n, x, h => by
    unfold limbsF at h
    by_cases h0 : n = 0
    · rw [if_pos h0] at h; cases h
    · rw [if_neg h0] at h
      rcases List.mem_cons.1 h with rfl | h
      · omega
      · exact limbsF_lt f _ x h
theorem limbs_lt (n : Nat) : ∀ x ∈ limbs n, x < 18446744073709551616 := limbsF_lt n n
theorem trim_zero : ∀ l : List Nat, trim (l ++ [0]) = trim l
  | [] => rfl
  | x :: l => by rw [List.cons_append, trim, trim, trim_zero l]
theorem trim_ne (x : Nat) (h : x ≠ 0) : ∀ l : List Nat, trim (l ++ [x]) = l ++ [x]
  | [] => by simp [trim, h]
  | y :: l => by rw [List.cons_append, trim, trim_ne x h l, if_neg (by simp)]
theorem trim_of (n : Nat) : trim (limbs n) = limbs n := by rw [trim_limbs _ (limbs_lt n), val_limbs]
theorem val_append : ∀ a b : List Nat, val (a ++ b) = val a + 18446744073709551616 ^ a.length * val b
  | [], b => by simp [val]
  | x :: a, b => by
    rw [List.cons_append, val, val, val_append a b, List.length_cons, Nat.pow_succ, Nat.mul_add, Nat.add_assoc]
    congr 2
    rw [← Nat.mul_assoc, Nat.mul_comm 18446744073709551616]
theorem val_lt : ∀ l : List Nat, (∀ x ∈ l, x < 18446744073709551616) → val l < 18446744073709551616 ^ l.length
  | [], _ => by simp [val]
  | x :: l, h => by
    have ih := val_lt l (fun y hy => h y (List.mem_cons_of_mem _ hy))
    have hx := h x List.mem_cons_self
    rw [val, List.length_cons, Nat.pow_succ]
    generalize 18446744073709551616 ^ l.length = P at *
    omega
theorem trim_le : ∀ l : List Nat, (trim l).length ≤ l.length
  | [] => Nat.le_refl _
  | x :: l => by
    have ih := trim_le l
    rw [trim]
    split
    · split
      · simp
      · simp
    · simp only [List.length_cons]; omega
/-- What 'normal' has left when it has gone down to k limbs. -/
theorem trim_take (l : List Nat) (k : Nat) (hk : k < l.length) (h : l[k]? = some 0) : trim (l.take (k + 1)) = trim (l.take k) := by
  obtain ⟨_, hx⟩ := List.getElem?_eq_some_iff.1 h
  rw [List.take_succ_eq_append_getElem hk, hx, trim_zero]
theorem trim_stop (l : List Nat) (k x : Nat) (hk : k < l.length) (h : l[k]? = some x) (hx : x ≠ 0) : trim (l.take (k + 1)) = l.take (k + 1) := by
  obtain ⟨_, he⟩ := List.getElem?_eq_some_iff.1 h
  rw [List.take_succ_eq_append_getElem hk, he, trim_ne x hx]
end Go.Proofs.Ytljgiagdmnedpaa.Nat_
