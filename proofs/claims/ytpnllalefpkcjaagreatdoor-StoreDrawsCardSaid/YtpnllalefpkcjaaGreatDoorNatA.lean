/-
Numbers by limbs of 64 bits: plain laws.
Numbers by limbs: what stands in the lowest limbs; the loops of a sum, a difference, a comparison.
Numbers by limbs: one limb of a product, of a shift, of a division by a limb.
Decimal digits of a number, and the number that digits tell: plain laws.
nat.Mul: what its loops keep, in plain words.
A division of two words by one word, by halves of a word: plain laws.
-/
import Derived.WalkKit
namespace Go.Proofs.YtpnllalefpkcjaaGreatDoor.Nat_

def val : List Nat → Nat
  | [] => 0
  | x :: l => x + 18446744073709551616 * val l
def trim : List Nat → List Nat
  | [] => []
  | x :: l => if trim l = [] then (if x = 0 then [] else [x]) else x :: trim l
def limbsF : Nat → Nat → List Nat
  | 0, _ => []
  | f + 1, n => if n = 0 then [] else n % 18446744073709551616 :: limbsF f (n / 18446744073709551616)
def limbs (n : Nat) : List Nat := limbsF n n
theorem limbsF_more : ∀ f f' n, n ≤ f → n ≤ f' → limbsF f n = limbsF f' n
  | 0, 0, _, _, _ => rfl
  | 0, f' + 1, n, h, _ => by
    have : n = 0 := by omega
    subst this
    simp [limbsF]
  | f + 1, 0, n, _, h => by
    have : n = 0 := by omega
    subst this
    simp [limbsF]
  | f + 1, f' + 1, n, h, h' => by
    unfold limbsF
    by_cases h0 : n = 0
    · simp [h0]
    · rw [if_neg h0, if_neg h0, limbsF_more f f' _ (by omega) (by omega)]
theorem limbs_zero : limbs 0 = [] := rfl
theorem limbs_pos (n : Nat) (h : n ≠ 0) : limbs n = n % 18446744073709551616 :: limbs (n / 18446744073709551616) := by
  obtain ⟨m, rfl⟩ : ∃ m, n = m + 1 := ⟨n - 1, by omega⟩
  show limbsF (m + 1) (m + 1) = _
  unfold limbsF
  rw [if_neg h]
  congr 1
  exact limbsF_more _ _ _ (by omega) (by omega)
theorem limbs_nil (n : Nat) : limbs n = [] ↔ n = 0 := by
  constructor
  · intro h
    by_cases h0 : n = 0
    · exact h0
    · rw [limbs_pos n h0] at h
      cases h
  · rintro rfl
    rfl
theorem limbs_step (x n : Nat) (hx : x < 18446744073709551616) : limbs (x + 18446744073709551616 * n) = if n = 0 then (if x = 0 then [] else [x]) else x :: limbs n := by
  by_cases hn : n = 0
  · rw [if_pos hn, hn]
    by_cases h0 : x = 0
    · rw [if_pos h0, h0]; rfl
    · rw [if_neg h0, Nat.mul_zero, Nat.add_zero, limbs_pos x h0, Nat.mod_eq_of_lt hx, Nat.div_eq_of_lt hx]; rfl
  · rw [if_neg hn, limbs_pos _ (by omega)]
    congr 1
    · omega
    · congr 1
      omega
theorem trim_limbs : ∀ l : List Nat, (∀ x ∈ l, x < 18446744073709551616) → trim l = limbs (val l)
  | [], _ => rfl
  | x :: l, h => by
    have ih := trim_limbs l (fun y hy => h y (List.mem_cons_of_mem _ hy))
    rw [trim, val, limbs_step x _ (h x List.mem_cons_self), ih]
    by_cases h0 : val l = 0
    · rw [if_pos h0, if_pos ((limbs_nil _).2 h0)]
    · rw [if_neg h0, if_neg (fun h => h0 ((limbs_nil _).1 h))]
theorem val_limbsF : ∀ f n, n ≤ f → val (limbsF f n) = n
  | 0, n, h => by
    have : n = 0 := by omega
    subst this
    rfl
  | f + 1, n, h => by
    unfold limbsF
    by_cases h0 : n = 0
    · simp [h0, val]
    · rw [if_neg h0, val, val_limbsF f _ (by omega)]
      omega
theorem val_limbs (n : Nat) : val (limbs n) = n := val_limbsF n n (Nat.le_refl _)
theorem limbsF_lt : ∀ f n, ∀ x ∈ limbsF f n, x < 18446744073709551616
  | 0, _, x, h => by cases h
  | f + 1, n, x, h => by
    unfold limbsF at h
    by_cases h0 : n = 0
    · rw [if_pos h0] at h; cases h
    · rw [if_neg h0] at h
      rcases List.mem_cons.1 h with rfl | h
      · omega
      · exact limbsF_lt f _ x h
theorem limbs_lt (n : Nat) : ∀ x ∈ limbs n, x < 18446744073709551616 := limbsF_lt n n
theorem trim_zero : ∀ l : List Nat, trim (l ++ [0]) = trim l
  | [] => rfl
  | x :: l => by rw [List.cons_append, trim, trim, trim_zero l]
theorem trim_ne (x : Nat) (h : x ≠ 0) : ∀ l : List Nat, trim (l ++ [x]) = l ++ [x]
  | [] => by simp [trim, h]
  | y :: l => by rw [List.cons_append, trim, trim_ne x h l, if_neg (by simp)]
theorem trim_of (n : Nat) : trim (limbs n) = limbs n := by rw [trim_limbs _ (limbs_lt n), val_limbs]
theorem val_append : ∀ a b : List Nat, val (a ++ b) = val a + 18446744073709551616 ^ a.length * val b
  | [], b => by simp [val]
  | x :: a, b => by
    rw [List.cons_append, val, val, val_append a b, List.length_cons, Nat.pow_succ, Nat.mul_add, Nat.add_assoc]
    congr 2
    rw [← Nat.mul_assoc, Nat.mul_comm 18446744073709551616]
theorem val_lt : ∀ l : List Nat, (∀ x ∈ l, x < 18446744073709551616) → val l < 18446744073709551616 ^ l.length
  | [], _ => by simp [val]
  | x :: l, h => by
    have ih := val_lt l (fun y hy => h y (List.mem_cons_of_mem _ hy))
    have hx := h x List.mem_cons_self
    rw [val, List.length_cons, Nat.pow_succ]
    generalize 18446744073709551616 ^ l.length = P at *
    omega
theorem trim_le : ∀ l : List Nat, (trim l).length ≤ l.length
  | [] => Nat.le_refl _
  | x :: l => by
    have ih := trim_le l
    rw [trim]
    split
    · split
      · simp
      · simp
    · simp only [List.length_cons]; omega
/-- What 'normal' has left when it has gone down to k limbs. -/
theorem trim_take (l : List Nat) (k : Nat) (hk : k < l.length) (h : l[k]? = some 0) : trim (l.take (k + 1)) = trim (l.take k) := by
  obtain ⟨_, hx⟩ := List.getElem?_eq_some_iff.1 h
  rw [List.take_succ_eq_append_getElem hk, hx, trim_zero]
theorem trim_stop (l : List Nat) (k x : Nat) (hk : k < l.length) (h : l[k]? = some x) (hx : x ≠ 0) : trim (l.take (k + 1)) = l.take (k + 1) := by
  obtain ⟨_, he⟩ := List.getElem?_eq_some_iff.1 h
  rw [List.take_succ_eq_append_getElem hk, he, trim_ne x hx]
end Go.Proofs.YtpnllalefpkcjaaGreatDoor.Nat_

namespace Go.Proofs.YtpnllalefpkcjaaGreatDoor.Nat_

def digit (l : List Nat) (i : Nat) : Nat := l[i]?.getD 0
def low (l : List Nat) : Nat → Nat
  | 0 => 0
  | j + 1 => low l j + 18446744073709551616 ^ j * digit l j
theorem digit_lt (l : List Nat) (h : ∀ x ∈ l, x < 18446744073709551616) (i : Nat) : digit l i < 18446744073709551616 := by
  unfold digit
  cases hl : l[i]? with
  | none => decide
  | some x => exact h x (List.mem_of_getElem? hl)
theorem digit_out (l : List Nat) (i : Nat) (h : l.length ≤ i) : digit l i = 0 := by
  unfold digit
  rw [List.getElem?_eq_none h]
  rfl
theorem digit_in (l : List Nat) (i x : Nat) (h : l[i]? = some x) : digit l i = x := by
  unfold digit
  rw [h]
  rfl
theorem pow_pos_ (j : Nat) : 0 < 18446744073709551616 ^ j := Nat.pow_pos (by decide)
theorem low_lt (l : List Nat) (h : ∀ x ∈ l, x < 18446744073709551616) : ∀ j, low l j < 18446744073709551616 ^ j
  | 0 => by simp [low]
  | j + 1 => by
    have ih := low_lt l h j
    have hd := digit_lt l h j
    rw [low, Nat.pow_succ]
    have h2 : 18446744073709551616 ^ j * (digit l j + 1) ≤ 18446744073709551616 ^ j * 18446744073709551616 := Nat.mul_le_mul_left _ (by omega)
    rw [Nat.mul_add, Nat.mul_one] at h2
    omega
theorem low_take (l : List Nat) : ∀ j, j ≤ l.length → low l j = val (l.take j)
  | 0, _ => by simp [low, val]
  | j + 1, h => by
    have hj : j < l.length := by omega
    rw [low, low_take l j (by omega), List.take_succ_eq_append_getElem hj, val_append, List.length_take, Nat.min_eq_left (by omega), digit_in l j _ (List.getElem?_eq_getElem hj)]
    simp [val]
theorem low_out (l : List Nat) : ∀ k, low l (l.length + k) = val l
  | 0 => by rw [Nat.add_zero, low_take l _ (Nat.le_refl _), List.take_length]
  | k + 1 => by
    rw [← Nat.add_assoc, low, low_out l k, digit_out l _ (by omega), Nat.mul_zero, Nat.add_zero]
theorem low_all (l : List Nat) (j : Nat) (h : l.length ≤ j) : low l j = val l := by
  obtain ⟨k, rfl⟩ : ∃ k, j = l.length + k := ⟨j - l.length, by omega⟩
  exact low_out l k
theorem val_snoc (l : List Nat) (x : Nat) : val (l ++ [x]) = val l + 18446744073709551616 ^ l.length * x := by
  rw [val_append]
  simp [val]
/-- One limb of a sum. -/
theorem add_step (P v c x y a b s c2 : Nat) (h : v + P * c = x + y) (hs : s + 18446744073709551616 * c2 = a + b + c) : (v + P * s) + (P * 18446744073709551616) * c2 = (x + P * a) + (y + P * b) := by
  have : P * s + (P * 18446744073709551616) * c2 = P * a + P * b + P * c := by
    rw [Nat.mul_assoc, ← Nat.mul_add, hs, Nat.mul_add, Nat.mul_add]
  omega
/-- One limb of a difference. -/
theorem sub_step (P v c x y a b d c2 : Nat) (h : v + y = x + P * c) (hs : d + b + c = a + 18446744073709551616 * c2) : (v + P * d) + (y + P * b) = (x + P * a) + (P * 18446744073709551616) * c2 := by
  have : P * d + P * b + P * c = P * a + (P * 18446744073709551616) * c2 := by
    rw [Nat.mul_assoc, ← Nat.mul_add, ← Nat.mul_add, hs, Nat.mul_add]
  omega
/-- One limb of a comparison. -/
theorem cmp_lt (P x y a b : Nat) (hx : x < P) (h : a < b) : x + P * a < y + P * b := by
  have : P * (a + 1) ≤ P * b := Nat.mul_le_mul_left _ h
  rw [Nat.mul_add, Nat.mul_one] at this
  omega
theorem limbs_len : ∀ (k n : Nat), (limbs n).length ≤ k ↔ n < 18446744073709551616 ^ k
  | 0, n => by
    rw [Nat.le_zero, List.length_eq_zero_iff, limbs_nil]
    simp
  | k + 1, n => by
    by_cases h0 : n = 0
    · subst h0
      exact ⟨fun _ => pow_pos_ _, fun _ => Nat.zero_le _⟩
    · rw [limbs_pos n h0, List.length_cons, Nat.add_le_add_iff_right, limbs_len k, Nat.pow_succ, Nat.div_lt_iff_lt_mul (by decide)]
theorem limbs_small (x : Nat) (h : x < 18446744073709551616) : limbs x = if x = 0 then [] else [x] := by
  have := limbs_step x 0 h
  rwa [Nat.mul_zero, Nat.add_zero, if_pos rfl] at this
end Go.Proofs.YtpnllalefpkcjaaGreatDoor.Nat_

namespace Go.Proofs.YtpnllalefpkcjaaGreatDoor.Nat_

theorem val_drop (l : List Nat) (m : Nat) (h : m < l.length) : val (l.drop m) = l[m] + 18446744073709551616 * val (l.drop (m + 1)) := by
  rw [List.drop_eq_getElem_cons h, val]
theorem val_set : ∀ (l : List Nat) (p y : Nat) (h : p < l.length), val (l.set p y) + 18446744073709551616 ^ p * l[p] = val l + 18446744073709551616 ^ p * y
  | x :: l, 0, y, _ => by
    simp only [List.set_cons_zero, val, List.getElem_cons_zero, Nat.pow_zero, Nat.one_mul]
    omega
  | x :: l, p + 1, y, h => by
    have ih := val_set l p y (by simpa using h)
    simp only [List.set_cons_succ, val, List.getElem_cons_succ, Nat.pow_succ]
    rw [Nat.mul_comm (18446744073709551616 ^ p) 18446744073709551616, Nat.mul_assoc, Nat.mul_assoc]
    generalize 18446744073709551616 ^ p * l[p]'(by simpa using h) = A at *
    generalize 18446744073709551616 ^ p * y = C at *
    omega
/-- A limb of a division by d. -/
theorem small_step (x v q d r t r2 : Nat) (h : v = q * d + r) (hs : r * 18446744073709551616 + x = t * d + r2) : x + 18446744073709551616 * v = (t + 18446744073709551616 * q) * d + r2 := by
  rw [h, Nat.add_mul, Nat.mul_add, Nat.mul_assoc]
  omega
/-- A limb of a product by a limb: no carry is lost. -/
theorem mul_step (x y o c high low c1 low1 c2 low2 : Nat) (hp : x * y = high * 18446744073709551616 + low) (h1 : low1 + 18446744073709551616 * c1 = low + o) (h2 : low2 + 18446744073709551616 * c2 = low1 + c) :
    x * y + o + c = low2 + 18446744073709551616 * (high + c1 + c2) := by omega
theorem mul_top (x y o c h : Nat) (hx : x < 18446744073709551616) (hy : y < 18446744073709551616) (ho : o < 18446744073709551616) (hc : c < 18446744073709551616) (l : Nat) (he : x * y + o + c = l + 18446744073709551616 * h) : h < 18446744073709551616 := by
  have : x * y ≤ 18446744073709551615 * 18446744073709551615 := Nat.mul_le_mul (by omega) (by omega)
  omega
/-- What a row of a product adds. -/
theorem row_step (V P x y o c l h T : Nat) (V2 : Nat) (hV : V2 + P * o = V + P * l) (he : x * y + o + c = l + 18446744073709551616 * h) (hT : V + P * c = T) : V2 + (P * 18446744073709551616) * h = T + P * (x * y) := by
  have : P * (x * y) + P * o + P * c = P * l + (P * 18446744073709551616) * h := by
    rw [Nat.mul_assoc, ← Nat.mul_add, ← Nat.mul_add, he, Nat.mul_add]
  omega
/-- A limb shifted up by n bits: what stays, and what goes over. -/
theorem shift_parts (x n : Nat) : x * 2 ^ n = x * 2 ^ n % 18446744073709551616 + 18446744073709551616 * (x * 2 ^ n / 18446744073709551616) := by
  have := Nat.div_add_mod (x * 2 ^ n) 18446744073709551616
  omega
theorem shift_over (x n : Nat) (hx : x < 18446744073709551616) : x * 2 ^ n / 18446744073709551616 < 2 ^ n := by
  rw [Nat.div_lt_iff_lt_mul (by decide), Nat.mul_comm (2 ^ n)]
  exact Nat.mul_lt_mul_of_pos_right hx (Nat.pow_pos (by decide))
theorem shift_over_eq (x n : Nat) (hn : n < 64) : x * 2 ^ n / 18446744073709551616 = x / 2 / 2 ^ (63 - n) := by
  have h1 : (18446744073709551616 : Nat) = 2 ^ (64 - n) * 2 ^ n := by
    rw [← Nat.pow_add, show 64 - n + n = 64 by omega]
  rw [h1, Nat.mul_div_mul_right _ _ (Nat.pow_pos (by decide)), Nat.div_div_eq_div_mul]
  congr 1
  rw [show 64 - n = (63 - n) + 1 by omega, Nat.pow_succ, Nat.mul_comm]
theorem shift_or (x n c : Nat) (hn : n < 64) (hc : c < 2 ^ n) : c ||| x * 2 ^ n % 18446744073709551616 = c + x * 2 ^ n % 18446744073709551616 := by
  have h1 : (18446744073709551616 : Nat) = 2 ^ (64 - n) * 2 ^ n := by
    rw [← Nat.pow_add, show 64 - n + n = 64 by omega]
  have h2 : x * 2 ^ n % 18446744073709551616 = 2 ^ n * (x % 2 ^ (64 - n)) := by
    rw [h1, Nat.mul_mod_mul_right, Nat.mul_comm]
  rw [h2, Nat.or_comm, ← Nat.two_pow_add_eq_or_of_lt hc, Nat.add_comm]
end Go.Proofs.YtpnllalefpkcjaaGreatDoor.Nat_

namespace Go.Proofs.YtpnllalefpkcjaaGreatDoor.Nat_

def digF : Nat → Nat → List UInt8
  | 0, _ => []
  | f + 1, n => if n = 0 then [] else UInt8.ofNat (48 + n % 10) :: digF f (n / 10)
/-- The decimal digits, the lowest first. -/
def dig (n : Nat) : List UInt8 := digF n n
theorem digF_more : ∀ f f' n, n ≤ f → n ≤ f' → digF f n = digF f' n
  | 0, 0, _, _, _ => rfl
  | 0, f' + 1, n, h, _ => by
    have : n = 0 := by omega
    subst this
    simp [digF]
  | f + 1, 0, n, _, h => by
    have : n = 0 := by omega
    subst this
    simp [digF]
  | f + 1, f' + 1, n, h, h' => by
    unfold digF
    by_cases h0 : n = 0
    · simp [h0]
    · rw [if_neg h0, if_neg h0, digF_more f f' _ (by omega) (by omega)]
theorem dig_zero : dig 0 = [] := rfl
theorem dig_pos (n : Nat) (h : n ≠ 0) : dig n = UInt8.ofNat (48 + n % 10) :: dig (n / 10) := by
  obtain ⟨m, rfl⟩ : ∃ m, n = m + 1 := ⟨n - 1, by omega⟩
  show digF (m + 1) (m + 1) = _
  unfold digF
  rw [if_neg h]
  congr 1
  exact digF_more _ _ _ (by omega) (by omega)
/-- The digits of a number as they are written. -/
def decs (n : Nat) : List UInt8 := if n = 0 then [48] else (dig n).reverse
/-- One digit of a group: q is what stands above, k places are left of the group. -/
theorem dig_step (q k r : Nat) (h : 0 < r ∨ 0 < q) : dig (q * 10 ^ (k + 1) + r) = UInt8.ofNat (48 + r % 10) :: dig (q * 10 ^ k + r / 10) := by
  have e : q * 10 ^ (k + 1) = 10 * (q * 10 ^ k) := by rw [Nat.pow_succ, ← Nat.mul_assoc, Nat.mul_comm]
  have hp : 0 < 10 ^ k := Nat.pow_pos (by decide)
  have hne : q * 10 ^ (k + 1) + r ≠ 0 := by
    rcases h with h | h
    · omega
    · have := Nat.mul_pos h hp
      omega
  rw [dig_pos _ hne, e]
  generalize q * 10 ^ k = Q
  congr 2
  · omega
  · omega
def isDig (c : UInt8) : Bool := !(decide (c < 48) || decide (57 < c))
def parseL (l : List UInt8) : Nat := l.foldl (fun n c => n * 10 + (c.toNat - 48)) 0
theorem parseL_snoc (l : List UInt8) (c : UInt8) : parseL (l ++ [c]) = parseL l * 10 + (c.toNat - 48) := by simp [parseL]
theorem parse_go (l : List UInt8) : ∀ n, l.foldl (fun n c => n * 10 + (c.toNat - 48)) n = n * 10 ^ l.length + parseL l := by
  induction l with
  | nil => intro n; simp [parseL]
  | cons c l ih =>
    intro n
    have e : parseL (c :: l) = (c.toNat - 48) * 10 ^ l.length + parseL l := by
      show l.foldl _ (0 * 10 + (c.toNat - 48)) = _
      rw [ih]
      simp
    rw [List.foldl_cons, ih, e, List.length_cons, Nat.pow_succ, Nat.add_mul]
    have : n * 10 * 10 ^ l.length = n * (10 ^ l.length * 10) := by rw [Nat.mul_assoc, Nat.mul_comm 10]
    omega
theorem parseL_append (a b : List UInt8) : parseL (a ++ b) = parseL a * 10 ^ b.length + parseL b := by
  show (a ++ b).foldl _ 0 = _
  rw [List.foldl_append, parse_go]
  rfl
theorem parseL_mono (a b : List UInt8) : parseL a ≤ parseL (a ++ b) := by
  rw [parseL_append]
  have : 0 < 10 ^ b.length := Nat.pow_pos (by decide)
  have := Nat.le_mul_of_pos_right (parseL a) this
  omega
theorem parse_dig : ∀ f n, n ≤ f → parseL (dig n).reverse = n
  | 0, n, h => by
    have : n = 0 := by omega
    subst this
    rfl
  | f + 1, n, h => by
    by_cases h0 : n = 0
    · subst h0; rfl
    · have ih := parse_dig f (n / 10) (by omega)
      rw [dig_pos n h0, List.reverse_cons, parseL_snoc, ih]
      have : (UInt8.ofNat (48 + n % 10)).toNat = 48 + n % 10 := by
        rw [UInt8.toNat_ofNat']
        omega
      rw [this]
      omega
theorem parse_decs (n : Nat) : parseL (decs n) = n := by
  unfold decs
  by_cases h : n = 0
  · rw [if_pos h, h]; decide
  · rw [if_neg h]; exact parse_dig n n (Nat.le_refl _)
theorem dig_digs : ∀ f n, n ≤ f → ∀ c ∈ dig n, isDig c = true
  | 0, n, h, c, hc => by
    have : n = 0 := by omega
    subst this
    cases hc
  | f + 1, n, h, c, hc => by
    by_cases h0 : n = 0
    · subst h0; cases hc
    · rw [dig_pos n h0] at hc
      rcases List.mem_cons.1 hc with rfl | hc
      · have : n % 10 < 10 := Nat.mod_lt _ (by decide)
        generalize n % 10 = m at *
        match m, this with
        | 0, _ => decide
        | 1, _ => decide
        | 2, _ => decide
        | 3, _ => decide
        | 4, _ => decide
        | 5, _ => decide
        | 6, _ => decide
        | 7, _ => decide
        | 8, _ => decide
        | 9, _ => decide
      · exact dig_digs f (n / 10) (by omega) c hc
theorem decs_digs (n : Nat) : ∀ c ∈ decs n, isDig c = true := by
  unfold decs
  by_cases h : n = 0
  · rw [if_pos h]; decide
  · rw [if_neg h]
    intro c hc
    exact dig_digs n n (Nat.le_refl _) c (List.mem_reverse.1 hc)
theorem dig_nil (n : Nat) : dig n = [] ↔ n = 0 := by
  constructor
  · intro h
    by_cases h0 : n = 0
    · exact h0
    · rw [dig_pos n h0] at h; cases h
  · rintro rfl; rfl
theorem decs_ne (n : Nat) : decs n ≠ [] := by
  unfold decs
  by_cases h : n = 0
  · rw [if_pos h]; decide
  · rw [if_neg h]
    intro e
    exact h ((dig_nil n).1 (List.reverse_eq_nil_iff.1 e))
theorem dig_len : ∀ k n, (dig n).length ≤ k ↔ n < 10 ^ k
  | 0, n => by
    rw [Nat.le_zero, List.length_eq_zero_iff, dig_nil]
    simp
  | k + 1, n => by
    by_cases h0 : n = 0
    · subst h0
      exact ⟨fun _ => Nat.pow_pos (by decide), fun _ => Nat.zero_le _⟩
    · rw [dig_pos n h0, List.length_cons, Nat.add_le_add_iff_right, dig_len k, Nat.pow_succ, Nat.div_lt_iff_lt_mul (by decide)]
theorem decs_len (k n : Nat) (hk : 0 < k) : (decs n).length ≤ k ↔ n < 10 ^ k := by
  unfold decs
  by_cases h : n = 0
  · rw [if_pos h, h]
    exact ⟨fun _ => Nat.pow_pos (by decide), fun _ => hk⟩
  · rw [if_neg h, List.length_reverse, dig_len]
end Go.Proofs.YtpnllalefpkcjaaGreatDoor.Nat_

namespace Go.Proofs.YtpnllalefpkcjaaGreatDoor.Nat_

theorem digit_set (O : List Nat) (p q y : Nat) (hp : p < O.length) : digit (O.set p y) q = if q = p then y else digit O q := by
  unfold digit
  rw [List.getElem?_set]
  by_cases h : q = p
  · subst h; simp [hp]
  · rw [if_neg (Ne.symm h), if_neg h]
theorem mem_set_lt (O : List Nat) (p y : Nat) (hy : y < 18446744073709551616) (h : ∀ x ∈ O, x < 18446744073709551616) : ∀ x ∈ O.set p y, x < 18446744073709551616 := by
  intro x hx
  rcases List.mem_or_eq_of_mem_set hx with hx | rfl
  · exact h x hx
  · exact hy
theorem digit_get (O : List Nat) (p : Nat) (h : p < O.length) : digit O p = O[p] := digit_in O p _ (List.getElem?_eq_getElem h)
def MulOut (l m : List Nat) (j : Nat) (O : List Nat) : Prop :=
  O.length = l.length + m.length ∧ (∀ x ∈ O, x < 18446744073709551616) ∧ val O = low l j * val m ∧ ∀ p, j + m.length ≤ p → digit O p = 0
def MulRow (l m : List Nat) (j k : Nat) (O : List Nat) (c : Nat) : Prop :=
  O.length = l.length + m.length ∧ (∀ x ∈ O, x < 18446744073709551616) ∧ c < 18446744073709551616 ∧
    val O + 18446744073709551616 ^ (j + k) * c = low l j * val m + 18446744073709551616 ^ j * (digit l j * low m k) ∧ ∀ p, j + m.length ≤ p → digit O p = 0
theorem val_rep : ∀ n, val (List.replicate n 0) = 0
  | 0 => rfl
  | n + 1 => by rw [List.replicate_succ, val, val_rep n]
theorem digit_rep (n p : Nat) : digit (List.replicate n 0) p = 0 := by
  unfold digit
  rw [List.getElem?_replicate]
  split <;> rfl
theorem MulOut.start (l m : List Nat) : MulOut l m 0 (List.replicate (l.length + m.length) 0) :=
  ⟨by simp, fun x hx => by rw [List.eq_of_mem_replicate hx]; decide, by rw [val_rep]; simp [low], fun p _ => digit_rep _ p⟩
theorem MulOut.fin {l m O : List Nat} (h : MulOut l m l.length O) : val O = val l * val m := by
  rw [h.2.2.1, low_all l _ (Nat.le_refl _)]
theorem MulOut.row {l m O : List Nat} {j : Nat} (h : MulOut l m j O) : MulRow l m j 0 O 0 :=
  ⟨h.1, h.2.1, by decide, by rw [h.2.2.1]; simp [low], h.2.2.2⟩
theorem MulRow.step {l m O : List Nat} {j k c : Nat} (h : MulRow l m j k O c) (hj : j < l.length) (hk : k < m.length) (hl : ∀ x ∈ l, x < 18446744073709551616) (hm : ∀ x ∈ m, x < 18446744073709551616)
    (high low0 c1 low1 c2 low2 : Nat) (hp : digit l j * digit m k = high * 18446744073709551616 + low0) (h1 : low1 + 18446744073709551616 * c1 = low0 + digit O (j + k)) (h2 : low2 + 18446744073709551616 * c2 = low1 + c) (h3 : low2 < 18446744073709551616) :
    MulRow l m j (k + 1) (O.set (j + k) low2) (high + c1 + c2) := by
  obtain ⟨e1, e2, e3, e4, e5⟩ := h
  have hlen : j + k < O.length := by omega
  have hx := digit_lt l hl j
  have hy := digit_lt m hm k
  have ho := digit_lt O e2 (j + k)
  have es := mul_step _ _ _ _ _ _ _ _ _ _ hp h1 h2
  have ht := mul_top _ _ _ _ _ hx hy ho e3 _ es
  refine ⟨by simp [e1], mem_set_lt O _ _ h3 e2, ht, ?_, ?_⟩
  · have hv := val_set O (j + k) low2 hlen
    rw [← digit_get O (j + k) hlen] at hv
    have hr := row_step (val O) (18446744073709551616 ^ (j + k)) (digit l j) (digit m k) (digit O (j + k)) c low2 (high + c1 + c2) _ _ hv es e4
    rw [← Nat.add_assoc, Nat.pow_succ, hr, low, Nat.mul_add, Nat.mul_add, Nat.pow_add, Nat.add_assoc]
    congr 2
    rw [Nat.mul_assoc, Nat.mul_left_comm (digit l j)]
  · intro p hp
    rw [digit_set O _ _ _ hlen, if_neg (by omega)]
    exact e5 p hp
theorem MulRow.fin {l m O : List Nat} {j c : Nat} (h : MulRow l m j m.length O c) (hj : j < l.length) : MulOut l m (j + 1) (O.set (j + m.length) c) := by
  obtain ⟨e1, e2, e3, e4, e5⟩ := h
  have hlen : j + m.length < O.length := by omega
  refine ⟨by simp [e1], mem_set_lt O _ _ e3 e2, ?_, ?_⟩
  · have hv := val_set O (j + m.length) c hlen
    rw [← digit_get O (j + m.length) hlen, e5 _ (Nat.le_refl _), Nat.mul_zero, Nat.add_zero, e4, low_all m _ (Nat.le_refl _)] at hv
    rw [hv, low, Nat.add_mul, Nat.mul_assoc]
  · intro p hp
    rw [digit_set O _ _ _ hlen, if_neg (by omega)]
    exact e5 p (by omega)
end Go.Proofs.YtpnllalefpkcjaaGreatDoor.Nat_

namespace Go.Proofs.YtpnllalefpkcjaaGreatDoor.Nat_

def HInv (u32 u1 y1 y0 q r : Nat) : Prop := q * y1 + r = u32 ∧ (u32 * 4294967296 + u1) / (y1 * 4294967296 + y0) ≤ q ∧ q ≤ 4294967297
theorem half_start (u32 u1 y1 y0 : Nat) (h : u32 < y1 * 4294967296 + y0) (h1 : 2147483648 ≤ y1) (h0 : y0 < 4294967296) (hu : u1 < 4294967296) : HInv u32 u1 y1 y0 (u32 / y1) (u32 % y1) := by
  refine ⟨by rw [Nat.mul_comm]; exact Nat.div_add_mod u32 y1, ?_, ?_⟩
  · have e1 : (u32 * 4294967296 + u1) / (y1 * 4294967296 + y0) ≤ (u32 * 4294967296 + u1) / (4294967296 * y1) := Nat.div_le_div_left (by omega) (by omega)
    rw [← Nat.div_div_eq_div_mul] at e1
    rwa [show (u32 * 4294967296 + u1) / 4294967296 = u32 by omega] at e1
  · have e2 : u32 < 4294967298 * y1 := by omega
    have := (Nat.div_lt_iff_lt_mul (by omega)).2 e2
    omega
theorem half_mul (u32 u1 y1 y0 q r : Nat) (h : q * y1 + r = u32) : q * (y1 * 4294967296 + y0) + (4294967296 * r + u1) = u32 * 4294967296 + u1 + q * y0 := by
  rw [← h, Nat.mul_add, ← Nat.mul_assoc]
  omega
theorem half_lt (u32 u1 y1 y0 : Nat) (h : u32 < y1 * 4294967296 + y0) (hu : u1 < 4294967296) : (u32 * 4294967296 + u1) / (y1 * 4294967296 + y0) < 4294967296 := by
  rw [Nat.div_lt_iff_lt_mul (by omega)]
  have : (u32 + 1) * 4294967296 ≤ (y1 * 4294967296 + y0) * 4294967296 := Nat.mul_le_mul_right _ h
  rw [Nat.mul_comm 4294967296]
  omega
theorem half_step {u32 u1 y1 y0 q r : Nat} (h : HInv u32 u1 y1 y0 q r) (hu : u32 < y1 * 4294967296 + y0) (hu1 : u1 < 4294967296) (hc : 4294967296 ≤ q ∨ 4294967296 * r + u1 < q * y0) : 0 < q ∧ HInv u32 u1 y1 y0 (q - 1) (r + y1) ∧ q - 1 ≤ 4294967296 := by
  obtain ⟨h1, h2, h3⟩ := h
  have hY : 0 < y1 * 4294967296 + y0 := by omega
  have hq : (u32 * 4294967296 + u1) / (y1 * 4294967296 + y0) < q := by
    rcases hc with hc | hc
    · have := half_lt u32 u1 y1 y0 hu hu1
      omega
    · rw [Nat.div_lt_iff_lt_mul hY]
      have := half_mul u32 u1 y1 y0 q r h1
      omega
  clear hc
  unfold HInv
  generalize (u32 * 4294967296 + u1) / (y1 * 4294967296 + y0) = D at *
  obtain ⟨p, rfl⟩ : ∃ p, q = p + 1 := ⟨q - 1, by omega⟩
  rw [Nat.add_mul, Nat.one_mul] at h1
  exact ⟨by omega, ⟨by rw [Nat.add_sub_cancel]; omega, by rw [Nat.add_sub_cancel]; omega, by omega⟩, by omega⟩
theorem half_fit {u32 u1 y1 y0 q r : Nat} (h : HInv u32 u1 y1 y0 q r) (hY : 0 < y1 * 4294967296 + y0) (hc : q * y0 ≤ 4294967296 * r + u1) : q = (u32 * 4294967296 + u1) / (y1 * 4294967296 + y0) := by
  obtain ⟨h1, h2, h3⟩ := h
  have := half_mul u32 u1 y1 y0 q r h1
  have h4 : q ≤ (u32 * 4294967296 + u1) / (y1 * 4294967296 + y0) := by
    rw [Nat.le_div_iff_mul_le hY]
    omega
  exact Nat.le_antisymm h4 h2
theorem half_over {u32 u1 y1 y0 q r : Nat} (h : HInv u32 u1 y1 y0 q r) (hY : 0 < y1 * 4294967296 + y0) (h0 : y0 < 4294967296) (hq : q ≤ 4294967296) (hr : 4294967296 ≤ r) : q = (u32 * 4294967296 + u1) / (y1 * 4294967296 + y0) := by
  refine half_fit h hY ?_
  have : q * y0 ≤ 4294967296 * 4294967295 := Nat.mul_le_mul hq (by omega)
  omega
/-- The two halves of the quotient, and the rest. -/
theorem two_halves (u32 u1 u0 Y : Nat) : u32 * 18446744073709551616 + (u1 * 4294967296 + u0) =
    ((u32 * 4294967296 + u1) / Y * 4294967296 + ((u32 * 4294967296 + u1) % Y * 4294967296 + u0) / Y) * Y + ((u32 * 4294967296 + u1) % Y * 4294967296 + u0) % Y := by
  have e1 := Nat.div_add_mod (u32 * 4294967296 + u1) Y
  have e2 := Nat.div_add_mod ((u32 * 4294967296 + u1) % Y * 4294967296 + u0) Y
  rw [Nat.add_mul, Nat.mul_right_comm]
  rw [Nat.mul_comm] at e1 e2
  omega
/-- From the number shifted up to the number itself. -/
theorem shift_back (N Q y S R : Nat) (hS : 0 < S) (h : N * S = Q * (y * S) + R) : R = R / S * S ∧ N = Q * y + R / S := by
  have e : N * S = Q * y * S + R := by rw [h, Nat.mul_assoc]
  have h1 : R % S = 0 := by
    have h2 := congrArg (· % S) e
    simp only [Nat.mul_mod_left, Nat.mul_add_mod_self_right] at h2
    exact h2.symm
  have h3 : R = R / S * S := by
    have := Nat.div_add_mod R S
    rw [h1, Nat.add_zero, Nat.mul_comm] at this
    exact this.symm
  refine ⟨h3, ?_⟩
  rw [h3, ← Nat.add_mul] at e
  have e2 := Nat.eq_of_mul_eq_mul_right hS e
  exact e2
end Go.Proofs.YtpnllalefpkcjaaGreatDoor.Nat_
