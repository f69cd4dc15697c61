/-
The arithmetic of layer 1 (notch): a number's bytes, a text's bytes, and how they are read. No program in sight.
-/
import Derived.Lib.ItoaNum
import Derived.WalkKit
namespace Go.Proofs.YtaknmionaibodaaDoor.Notch

/-- The lowest k digits to the base 256, the highest first. -/
def beK (n k : Nat) : List UInt8 := (List.range k).map fun i => UInt8.ofNat (n / 256 ^ (k - 1 - i))
/-- How many bytes a number needs. -/
def nb (n : Nat) : Nat := (Lib.bitLen n + 7) / 8
def encL (n : Nat) : List UInt8 := UInt8.ofNat (nb n) :: beK n (nb n)
def encAll (l : List Nat) : List UInt8 := l.flatMap encL
def encT (s : List UInt8) : List UInt8 := encL s.length ++ s
def bev (l : List UInt8) : Nat := l.foldl (fun a c => a * 256 + c.toNat) 0

theorem beK_length (n k : Nat) : (beK n k).length = k := by simp [beK]
theorem encL_length (n : Nat) : (encL n).length = nb n + 1 := by simp [encL, beK_length]
theorem bitLen_zero : Lib.bitLen 0 = 0 := by simp [Lib.bitLen, Lib.bitLenAux]
theorem nb_zero : nb 0 = 0 := by simp [nb, bitLen_zero]
theorem nb_bounds (n : Nat) (h : n < 18446744073709551616) (h0 : n ≠ 0) : 1 ≤ nb n ∧ nb n ≤ 8 ∧ 256 ^ (nb n - 1) ≤ n ∧ n < 256 ^ nb n := by
  obtain ⟨b1, b2, b3⟩ := Lib.bitLenAux_bounds 64 n h h0
  change 1 ≤ Lib.bitLen n at b1
  change 2 ^ (Lib.bitLen n - 1) ≤ n at b2
  change n < 2 ^ Lib.bitLen n at b3
  have b4 := Lib.bitLen_le n 64 (Nat.le_refl _) h
  have p : ∀ k, (256 : Nat) ^ k = 2 ^ (8 * k) := fun k => by rw [Nat.pow_mul]
  unfold nb
  refine ⟨by omega, by omega, ?_, ?_⟩
  · rw [p]
    exact Nat.le_trans (Nat.pow_le_pow_right (by decide) (by omega)) b2
  · rw [p]
    exact Nat.lt_of_lt_of_le b3 (Nat.pow_le_pow_right (by decide) (by omega))
theorem nb_le (n : Nat) (h : n < 18446744073709551616) : nb n ≤ 8 := by
  by_cases h0 : n = 0
  · rw [h0, nb_zero]; omega
  · exact (nb_bounds n h h0).2.1
theorem nb_lt (n : Nat) (h : n < 18446744073709551616) : n < 256 ^ nb n := by
  by_cases h0 : n = 0
  · rw [h0, nb_zero]; decide
  · exact (nb_bounds n h h0).2.2.2
/-- nb is the least number of bytes that serves. -/
theorem nb_eq (n k : Nat) (h : n < 18446744073709551616) (h1 : n < 256 ^ k) (h2 : k = 0 ∨ 256 ^ (k - 1) ≤ n) : nb n = k := by
  by_cases h0 : n = 0
  · subst h0
    rw [nb_zero]
    rcases h2 with rfl | h2
    · rfl
    · have : 0 < 256 ^ (k - 1) := Nat.pow_pos (by decide)
      omega
  · obtain ⟨a, b, c, d⟩ := nb_bounds n h h0
    have l1 : nb n - 1 < k := by
      rcases Nat.lt_or_ge (nb n - 1) k with h' | h'
      · exact h'
      · have := Nat.pow_le_pow_right (n := 256) (by decide) h'
        omega
    rcases h2 with rfl | h2
    · simp at h1
      omega
    · have l2 : k - 1 < nb n := by
        rcases Nat.lt_or_ge (k - 1) (nb n) with h' | h'
        · exact h'
        · have := Nat.pow_le_pow_right (n := 256) (by decide) h'
          omega
      omega

theorem beK_succ_low (n k : Nat) : beK n (k + 1) = beK (n / 256) k ++ [UInt8.ofNat n] := by
  unfold beK
  rw [List.range_succ, List.map_append]
  congr 1
  · refine List.map_congr_left fun i hi => ?_
    have : i < k := List.mem_range.1 hi
    rw [Nat.div_div_eq_div_mul, show k + 1 - 1 - i = (k - 1 - i) + 1 by omega, Nat.pow_succ, Nat.mul_comm]
  · simp
theorem beK_succ_high (n k : Nat) : beK n (k + 1) = UInt8.ofNat (n / 256 ^ k) :: beK n k := by
  unfold beK
  rw [List.range_succ_eq_map, List.map_cons, List.map_map]
  congr 1
  refine List.map_congr_left fun i _ => ?_
  simp only [Function.comp]
  rw [show k + 1 - 1 - (i + 1) = k - 1 - i by omega]

theorem bev_fold (l : List UInt8) : ∀ a : Nat, l.foldl (fun a c => a * 256 + c.toNat) a = a * 256 ^ l.length + bev l := by
  induction l with
  | nil => intro a; simp [bev]
  | cons x l ih =>
    intro a
    have h1 := ih (a * 256 + x.toNat)
    have h2 := ih (0 * 256 + x.toNat)
    have e : bev (x :: l) = (l.foldl (fun a c => a * 256 + c.toNat) (0 * 256 + x.toNat)) := rfl
    rw [List.foldl_cons, h1, e, h2, List.length_cons, Nat.pow_succ]
    simp only [Nat.add_mul, Nat.zero_mul, Nat.zero_add]
    rw [Nat.mul_comm (256 ^ l.length) 256, ← Nat.mul_assoc]
    omega
theorem bev_append (a b : List UInt8) : bev (a ++ b) = bev a * 256 ^ b.length + bev b := by
  show (a ++ b).foldl _ 0 = _
  rw [List.foldl_append, bev_fold]
  rfl
theorem bev_snoc (a : List UInt8) (c : UInt8) : bev (a ++ [c]) = bev a * 256 + c.toNat := by
  rw [bev_append]; simp [bev]
theorem bev_cons (c : UInt8) (a : List UInt8) : bev (c :: a) = c.toNat * 256 ^ a.length + bev a := by
  have := bev_append [c] a
  simpa [bev] using this
theorem bev_lt (l : List UInt8) : bev l < 256 ^ l.length := by
  induction l with
  | nil => simp [bev]
  | cons x l ih =>
    rw [bev_cons, List.length_cons, Nat.pow_succ]
    have hx : x.toNat < 256 := x.toNat_lt
    have : (x.toNat + 1) * 256 ^ l.length ≤ 256 * 256 ^ l.length := Nat.mul_le_mul_right _ (by omega)
    rw [Nat.add_mul, Nat.one_mul] at this
    rw [Nat.mul_comm (256 ^ l.length) 256]
    omega
theorem bev_beK (k : Nat) : ∀ n, n < 256 ^ k → bev (beK n k) = n := by
  induction k with
  | zero => intro n h; simp at h; subst h; rfl
  | succ k ih =>
    intro n h
    rw [beK_succ_low, bev_snoc, ih (n / 256) (by rw [Nat.pow_succ] at h; omega)]
    simp only [UInt8.toNat_ofNat']
    omega
theorem beK_bev (l : List UInt8) : beK (bev l) l.length = l := by
  obtain ⟨k, hk⟩ : ∃ k, k = l.length := ⟨_, rfl⟩
  induction k generalizing l with
  | zero =>
    have : l = [] := List.eq_nil_of_length_eq_zero hk.symm
    subst this
    rfl
  | succ k ih =>
    have hne : l ≠ [] := by rintro rfl; simp at hk
    obtain ⟨l', c, rfl⟩ : ∃ l' c, l = l' ++ [c] := ⟨l.dropLast, l.getLast hne, (List.dropLast_concat_getLast hne).symm⟩
    have hk' : k = l'.length := by simpa using hk
    rw [List.length_append, List.length_singleton, beK_succ_low, bev_snoc]
    have e : (bev l' * 256 + c.toNat) / 256 = bev l' := by have := c.toNat_lt; omega
    rw [e, ih l' hk']
    congr 2
    apply UInt8.toNat_inj.1
    simp only [UInt8.toNat_ofNat']
    have := c.toNat_lt
    omega

/-- What stands at a text's beginning as a number's bytes: the number, and what is left. -/
def readN : List UInt8 → Option (Nat × List UInt8)
  | [] => none
  | k :: r => if 8 < k.toNat ∨ r.length < k.toNat ∨ (0 < k.toNat ∧ r[0]? = some 0) then none else some (bev (r.take k.toNat), r.drop k.toNat)
theorem readN_enc (n : Nat) (h : n < 18446744073709551616) (l : List UInt8) : readN (encL n ++ l) = some (n, l) := by
  have h8 := nb_le n h
  have hk : (UInt8.ofNat (nb n)).toNat = nb n := by simp only [UInt8.toNat_ofNat']; omega
  have hlen := beK_length n (nb n)
  unfold encL
  rw [List.cons_append, readN, hk, if_neg]
  · rw [List.take_left' hlen, List.drop_left' hlen, bev_beK _ _ (nb_lt n h)]
  · rintro (h1 | h1 | ⟨h1, h2⟩)
    · omega
    · rw [List.length_append, hlen] at h1; omega
    · have hn0 : n ≠ 0 := by rintro rfl; rw [nb_zero] at h1; omega
      obtain ⟨-, -, c, d⟩ := nb_bounds n h hn0
      obtain ⟨k, hk'⟩ : ∃ k, nb n = k + 1 := ⟨nb n - 1, by omega⟩
      rw [hk', beK_succ_high, List.cons_append, List.getElem?_cons_zero] at h2
      injection h2 with h2
      have h3 := congrArg UInt8.toNat h2
      simp only [UInt8.toNat_ofNat'] at h3
      rw [hk'] at c d
      simp only [Nat.add_sub_cancel] at c
      have q1 : 1 ≤ n / 256 ^ k := (Nat.le_div_iff_mul_le (Nat.pow_pos (by decide))).2 (by omega)
      have q2 : n / 256 ^ k < 256 := (Nat.div_lt_iff_lt_mul (Nat.pow_pos (by decide))).2 (by rw [Nat.pow_succ] at d; omega)
      have h4 : (0 : UInt8).toNat = 0 := rfl
      rw [h4] at h3
      omega
/-- And there is one way to write it. -/
theorem readN_some (l : List UInt8) (n : Nat) (r : List UInt8) (h : readN l = some (n, r)) : n < 18446744073709551616 ∧ l = encL n ++ r := by
  cases l with
  | nil => simp [readN] at h
  | cons k t =>
    rw [readN] at h
    split at h
    · cases h
    · rename_i hc
      injection h with h
      have hn : n = bev (t.take k.toNat) := (congrArg Prod.fst h).symm
      have hr : r = t.drop k.toNat := (congrArg Prod.snd h).symm
      have h8 : k.toNat ≤ 8 := by omega
      have ht : k.toNat ≤ t.length := by omega
      have hlt := bev_lt (t.take k.toNat)
      have hlen : (t.take k.toNat).length = k.toNat := by simp; omega
      rw [hlen, ← hn] at hlt
      have hb : n < 18446744073709551616 := Nat.lt_of_lt_of_le hlt (Nat.pow_le_pow_right (n := 256) (by decide) h8)
      have hnb : nb n = k.toNat := by
        refine nb_eq n _ hb hlt ?_
        by_cases hz : k.toNat = 0
        · exact .inl hz
        · right
          cases t with
          | nil => simp at ht; omega
          | cons c t' =>
            obtain ⟨j, hj⟩ : ∃ j, k.toNat = j + 1 := ⟨k.toNat - 1, by omega⟩
            rw [hn, hj, List.take_succ_cons, bev_cons]
            have hlen' : (t'.take j).length = j := by simp at ht; simp; omega
            rw [hlen', Nat.add_sub_cancel]
            have hc0 : c.toNat ≠ 0 := by
              intro hz'
              apply hc
              right; right
              refine ⟨by omega, ?_⟩
              simp only [List.getElem?_cons_zero, Option.some.injEq]
              exact UInt8.toNat_inj.1 hz'
            have : 1 * 256 ^ j ≤ c.toNat * 256 ^ j := Nat.mul_le_mul_right _ (by omega)
            omega
      refine ⟨hb, ?_⟩
      unfold encL
      have e1 : UInt8.ofNat (nb n) = k := by
        apply UInt8.toNat_inj.1
        simp only [UInt8.toNat_ofNat', hnb]
        omega
      have e2 : beK n (nb n) = t.take k.toNat := by
        rw [hnb, hn]
        have h5 := beK_bev (t.take k.toNat)
        rw [hlen] at h5
        exact h5
      rw [e1, e2, hr, List.cons_append, List.take_append_drop]
end Go.Proofs.YtaknmionaibodaaDoor.Notch
