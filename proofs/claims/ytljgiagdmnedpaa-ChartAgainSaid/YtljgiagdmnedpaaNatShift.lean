/-
nat.shift: a number shifted up, by less than a limb.
-/
import Derived.Test.YtljgiagdmnedpaaNatLess
import Derived.Test.YtljgiagdmnedpaaNatMulW
import Derived.BigRegion
namespace Go.Proofs.Ytljgiagdmnedpaa.Nat_
open Go.RowKit Go.Shelf

/-- What stands in the row when j limbs have been shifted. -/
def ShAt (l : List Nat) (n j : Nat) (O : List Nat) : Prop :=
  O.length = l.length + 1 ∧ (∀ x ∈ O, x < 18446744073709551616) ∧ val O = val (l.take j) * 2 ^ n ∧ digit O j < 2 ^ n ∧ ∀ i, j < i → digit O i = 0
theorem ShAt.start (l : List Nat) (n : Nat) : ShAt l n 0 (List.replicate (l.length + 1) 0) := by
  refine ⟨by simp, ?_, ?_, ?_, fun i _ => digit_rep _ _⟩
  · intro x hx
    obtain rfl := List.eq_of_mem_replicate hx
    decide
  · rw [val_rep]; simp [val]
  · rw [digit_rep]; exact Nat.pow_pos (by decide)
theorem or_low (x n c : Nat) (hn : n < 64) (hc : c < 2 ^ n) : c + x * 2 ^ n % 18446744073709551616 < 18446744073709551616 := by
  have h1 : x * 2 ^ n % 18446744073709551616 = 2 ^ n * (x % 2 ^ (64 - n)) := by
    have e : (18446744073709551616 : Nat) = 2 ^ n * 2 ^ (64 - n) := by rw [← Nat.pow_add, Nat.add_sub_cancel' (by omega)]
    rw [e, Nat.mul_comm x, Nat.mul_mod_mul_left]
  have h2 : x % 2 ^ (64 - n) + 1 ≤ 2 ^ (64 - n) := Nat.mod_lt _ (Nat.pow_pos (by decide))
  have h3 := Nat.mul_le_mul_left (2 ^ n) h2
  rw [← Nat.pow_add, Nat.add_sub_cancel' (show n ≤ 64 by omega), Nat.mul_add, Nat.mul_one] at h3
  rw [h1]
  have : (2 : Nat) ^ 64 = 18446744073709551616 := by decide
  omega
theorem ShAt.step {l O : List Nat} {n j : Nat} (h : ShAt l n j O) (hj : j < l.length) (hn : n < 64) (hl : ∀ x ∈ l, x < 18446744073709551616) :
    ShAt l n (j + 1) ((O.set j (digit O j ||| digit l j * 2 ^ n % 18446744073709551616)).set (j + 1) (digit l j / 2 / 2 ^ (63 - n))) := by
  obtain ⟨h1, h2, h3, h4, h5⟩ := h
  have hx := digit_lt l hl j
  have hlen : j + 1 < O.length := by omega
  rw [shift_or _ n _ hn h4, ← shift_over_eq _ n hn]
  have hov := shift_over (digit l j) n hx
  have hlow := or_low (digit l j) n (digit O j) hn h4
  have hp := shift_parts (digit l j) n
  have hp64 : 2 ^ n ≤ 18446744073709551616 := by
    have : (2 : Nat) ^ 64 = 18446744073709551616 := by decide
    rw [← this]
    exact Nat.pow_le_pow_right (by decide) (by omega)
  have e1 := val_set O j (digit O j + digit l j * 2 ^ n % 18446744073709551616) (by omega)
  have e2 := val_set (O.set j (digit O j + digit l j * 2 ^ n % 18446744073709551616)) (j + 1) (digit l j * 2 ^ n / 18446744073709551616) (by simp; omega)
  have g1 : O[j] = digit O j := (digit_get O j (by omega)).symm
  have g2 : (O.set j (digit O j + digit l j * 2 ^ n % 18446744073709551616))[j + 1]'(by simp; omega) = 0 := by
    rw [List.getElem_set_ne (by omega), ← digit_get O (j + 1) hlen, h5 _ (by omega)]
  rw [g1] at e1
  rw [g2, Nat.mul_zero, Nat.add_zero] at e2
  have ht : val (l.take (j + 1)) = val (l.take j) + 18446744073709551616 ^ j * digit l j := by
    rw [List.take_succ_eq_append_getElem hj, val_snoc, List.length_take, Nat.min_eq_left (by omega), digit_get l j hj]
  refine ⟨by simp [h1], ?_, ?_, ?_, ?_⟩
  · exact mem_set_lt _ _ _ (by omega) (mem_set_lt _ _ _ hlow h2)
  · rw [e2, ht]
    rw [h3] at e1
    rw [Nat.pow_succ]
    generalize 18446744073709551616 ^ j = P at *
    generalize digit l j = x at *
    generalize digit O j = c at *
    generalize val (O.set j (c + x * 2 ^ n % 18446744073709551616)) = V at *
    generalize val (List.take j l) = T at *
    have e3 : P * (x * 2 ^ n) = P * (x * 2 ^ n % 18446744073709551616) + P * 18446744073709551616 * (x * 2 ^ n / 18446744073709551616) := by
      rw [Nat.mul_assoc, ← Nat.mul_add, ← hp]
    rw [Nat.mul_add] at e1
    rw [Nat.add_mul, Nat.mul_assoc P x, e3]
    omega
  · rw [digit_set _ _ _ _ (by simp; omega), if_pos rfl]
    exact hov
  · intro i hi
    rw [digit_set _ _ _ _ (by simp; omega), if_neg (by omega), digit_set _ _ _ _ (by omega), if_neg (by omega)]
    exact h5 i (by omega)
theorem ShAt.fin {l O : List Nat} {n : Nat} (h : ShAt l n l.length O) : val O = val l * 2 ^ n := by
  have := h.2.2.1
  rwa [List.take_length] at this

theorem shl_or (c x n : Nat) (hc : c < 18446744073709551616) : bits .or .u64 (c : Int) (IntKind.u64.wrap ((x : Int) * 2 ^ n)) = ((c ||| x * 2 ^ n % 18446744073709551616 : Nat) : Int) := by
  have e : IntKind.u64.wrap ((x : Int) * 2 ^ n) = ((x * 2 ^ n % 18446744073709551616 : Nat) : Int) := by
    have h : ((x : Int) * 2 ^ n) = ((x * 2 ^ n : Nat) : Int) := by rw [Int.natCast_mul, Int.natCast_pow]; rfl
    rw [h, IntKind.wrap_u64]
    rfl
  rw [e, u64_or _ _ (by omega) (by omega) (by omega) (by omega)]
  rfl
theorem shr_cast (x n : Nat) : (x : Int) / 2 / 2 ^ (63 - n) = ((x / 2 / 2 ^ (63 - n) : Nat) : Int) := by
  rw [Int.natCast_ediv, Int.natCast_ediv, Int.natCast_pow]
  rfl
set_option maxRecDepth 100000 in
set_option maxHeartbeats 4000000 in
theorem shift_lb (v : Value) (l : List Nat) (n : Nat) (w : World) (h : Lb w v l) (hn : n < 64) (hs : l.length ≤ 1000000) :
    Calls Try.prog 63 #[v, .int .i64 (n : Int)] w fun e w' => e = .returned (.slice (some ⟨w.heap.size, 0, none⟩) (l.length + 1) (l.length + 1)) ∧
      (∃ O, O.length = l.length + 1 ∧ (∀ x ∈ O, x < 18446744073709551616) ∧ val O = val l * 2 ^ n ∧ Blk w' w.heap.size 54 (O.map limbV)) ∧ Below w.heap.size w w' := by
  have hl := h
  obtain ⟨a, len, cap, rfl, h1, -, -, -, hlt, -⟩ := h
  obtain ⟨Z, hZ⟩ : ∃ Z : List Value, Z = (List.replicate (len + 1) 0).map limbV := ⟨_, rfl⟩
  have hmk : ∀ V : World, (Instr.makeSlice 31 (.int .i64 ((len : Int) + 1)) (.int .i64 ((len : Int) + 1))).run Try.prog V = .ok (.slice (some ⟨V.heap.size, 0, none⟩) (len + 1) (len + 1)) (V.alloc (.cells Z.toArray 54)) := by
    intro V
    have h := run_make_row' (P := Try.prog) 31 54 _ 8 Try.underlying31 Try.limbInfo rfl .i64 .i64 (len + 1) (by omega) (by omega) V
    rw [toList_made] at h
    rw [hZ]
    simpa [limbV] using h
  have HZ := Lib.hid hZ
  have A := Lib.hid hlt
  have HLEN := Lib.hid h1
  have hlen : len ≤ 1000000 := by omega
  clear hZ hlt h1 hs
  go_enter Try.func63, Try.ntmps63
  go_wp2_with fail
  have hZb : Blk (w.alloc (.cells Z.toArray 54)) w.heap.size 54 ((List.replicate (l.length + 1) 0).map limbV) := by
    rw [HLEN.out, ← HZ.out]; exact Blk.new _ _ _
  go_loopw [14] (fun i wr => ∃ (j : Nat) (O : List Nat), j ≤ len ∧ i = .int .i64 (j : Int) ∧ Hid (ShAt l n j O) ∧ Hid (Blk wr w.heap.size 54 (O.map limbV)) ∧ Below w.heap.size w wr) (fun i _ => len - (intOf i).toNat)
  case atStart => exact ⟨0, _, Nat.zero_le _, rfl, ShAt.start l n, hZb, (Below.refl _ _).alloc (Nat.le_refl _) _⟩
  case round =>
    obtain ⟨j, O, hj, rfl, HO, HB, hbel⟩ := hrel
    clear hmk hZb HZ
    by_cases hjn : j < len
    · obtain ⟨b1, off1, rfl, hbw1⟩ := lb_addr hl (by rw [HLEN.out]; omega)
      have hc1 := lb_cell (hl.below hbel) j (by rw [HLEN.out]; omega)
      have HS := Lib.hid (HO.out.step (by rw [HLEN.out]; omega) hn A.out)
      have hO1 : O.length = len + 1 := by rw [HO.out.1, HLEN.out]
      have ho := limb_cell HB.out j (by omega)
      have hf := HB.out.frozen j (by simp; omega)
      have hf2 := HB.out.frozen (j + 1) (by simp; omega)
      have ho2 := limb_cell HB.out (j + 1) (by omega)
      go_wp2_with fail
      have HB2 := Lib.hid ((HB.out.set_ j (.int .u64 ((digit O j ||| digit l j * 2 ^ n % 18446744073709551616 : Nat) : Int))).set_ (j + 1) (.int .u64 ((digit l j / 2 / 2 ^ (63 - n) : Nat) : Int)))
      have hbel2 := (hbel.setCell (p := ⟨w.heap.size, j, none⟩) (Nat.le_refl _) (.int .u64 ((digit O j ||| digit l j * 2 ^ n % 18446744073709551616 : Nat) : Int))).setCell (p := ⟨w.heap.size, j + 1, none⟩) (Nat.le_refl _) (.int .u64 ((digit l j / 2 / 2 ^ (63 - n) : Nat) : Int))
      have HE := Lib.hid (And.intro (shl_or (digit O j) (digit l j) n (digit_lt _ HO.out.2.1 j)) (shr_cast (digit l j) n))
      go_region
      go_wp2_with fail
      rw [HE.out.1, HE.out.2]
      refine ⟨⟨j + 1, _, by omega, by simp, HS, ?_, hbel2.drew⟩, ?_⟩
      · rw [← map_limb_set, ← map_limb_set]
        exact Lib.hid (Blk.drew HB2.out)
      · simp [intOf]; omega
    · obtain rfl : j = len := by omega
      have hO := HO.out
      have hfin := (HLEN.out ▸ hO : ShAt l n l.length O).fin
      go_wp2_with fail
      go_ret
      exact ⟨by rw [HLEN.out]; rfl, ⟨O, hO.1, hO.2.1, hfin, HB.out⟩, hbel⟩
end Go.Proofs.Ytljgiagdmnedpaa.Nat_
