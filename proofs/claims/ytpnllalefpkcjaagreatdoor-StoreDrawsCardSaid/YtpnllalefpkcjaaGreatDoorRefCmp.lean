/-
Contracts of the reference's Cmp and digits; what its division rests on.
-/
import Derived.Test.YtpnllalefpkcjaaGreatDoorRefMul
namespace Go.Proofs.YtpnllalefpkcjaaGreatDoor.Nat_
open Go.RowKit

/-- How two numbers stand to each other. -/
def cmpN (x y : Nat) : Int := if x < y then -1 else if y < x then 1 else 0
theorem top_lt {x y k : Nat} (h : x / 4294967296 ^ (k + 1) = y / 4294967296 ^ (k + 1)) (hd : dgt x k < dgt y k) : x < y := by
  have h1 := div_succ x k
  have h2 := div_succ y k
  rw [h] at h1
  have hlt : x / 4294967296 ^ k < y / 4294967296 ^ k := by omega
  rcases Nat.lt_or_ge x y with h3 | h3
  · exact h3
  · have := Nat.div_le_div_right (c := 4294967296 ^ k) h3
    omega
theorem top_eq {x y k : Nat} (h : x / 4294967296 ^ (k + 1) = y / 4294967296 ^ (k + 1)) (hd : dgt x k = dgt y k) : x / 4294967296 ^ k = y / 4294967296 ^ k := by
  rw [div_succ x k, div_succ y k, h, hd]
set_option maxRecDepth 100000 in
set_option maxHeartbeats 1000000 in
theorem rcmp_any (v u : Value) (x y : Nat) (w : World) (hv : Nm w v x) (hu : Nm w u y) :
    Calls Tryz.prog 102 #[v, u] w fun e w' => e = .returned (.int .i64 (cmpN x y)) ∧ w' = w := by
  have hd := fun i hi => rdigit_any v x i w hv hi
  have hd' := fun i hi => rdigit_any u y i w hu hi
  obtain ⟨l, hl, hlx, hls⟩ := hv
  obtain ⟨m, hm, hmy, hms⟩ := hu
  have hxs := val_small l hl.lt
  have hys := val_small m hm.lt
  rw [hlx] at hxs
  rw [hmy] at hys
  obtain ⟨a, len, cap, rfl, h1, h2, h3, -, -, -⟩ := hl
  obtain ⟨a', len', cap', rfl, h1', h2', h3', -, -, -⟩ := hm
  unfold maxLen at h3 h3'
  obtain ⟨M, hM⟩ : ∃ M : Nat, max len len' = M := ⟨_, rfl⟩
  have hMI : max (len : Int) (len' : Int) = (M : Int) := by omega
  have hM3 : M ≤ 1000000 := by omega
  have hz : x / 4294967296 ^ (2 * M) = y / 4294967296 ^ (2 * M) := by
    rw [Nat.div_eq_of_lt (lt_pow_mono hxs (by omega)), Nat.div_eq_of_lt (lt_pow_mono hys (by omega))]
  have HX := Lib.hid hz
  have HD := Lib.hid (And.intro hd hd')
  clear hd hd' hlx hls hmy hms hxs hys hM h1 h1' hz
  go_enter Tryz.func102, Tryz.ntmps102
  go_wp2_with fail
  go_loop [5] (fun i => ∃ m : Nat, m ≤ 2 * M ∧ i = .int .i64 ((m : Int) - 1) ∧ Hid (x / 4294967296 ^ m = y / 4294967296 ^ m)) (fun i => (intOf i + 1).toNat)
  case atStart => exact ⟨2 * M, Nat.le_refl _, by simp, HX⟩
  case round =>
    obtain ⟨m, hm, rfl, HQ⟩ := hrel
    cases m with
    | zero =>
      have hfin := Lib.hid (show cmpN x y = 0 by
        have := HQ.out
        rw [Nat.pow_zero, Nat.div_one, Nat.div_one] at this
        unfold cmpN
        rw [this, if_neg (by omega), if_neg (by omega)])
      go_wp2_with fail
      go_ret
      exact ⟨ret_int (by rw [hfin.out]), rfl⟩
    | succ k =>
      have c1 := HD.out.1 k (by omega)
      have c2 := HD.out.2 k (by omega)
      have hk1 : ((k + 1 : Nat) : Int) - 1 = (k : Int) := by omega
      have hlt := Lib.hid (fun h => top_lt HQ.out h)
      have hgt := Lib.hid (fun h => top_lt HQ.out.symm h)
      have heq := Lib.hid (fun h => top_eq HQ.out h)
      have hk3 : k ≤ 2000000 := by omega
      rw [hk1]
      generalize dgt x k = dx at *
      generalize dgt y k = dy at *
      have C1 := Lib.hid c1
      have C2 := Lib.hid c2
      clear c1 c2 hk1
      by_cases h1 : dx < dy
      · have hfin := Lib.hid (show cmpN x y = -1 by unfold cmpN; rw [if_pos (hlt.out h1)])
        have dd : decide (dx < dy) = true := decide_eq_true h1
        go_wp2_with fail
        refine C1.out.mono ?_
        rintro e w1 ⟨rfl, rfl⟩
        go_wp2_with fail
        refine C2.out.mono ?_
        rintro e w1 ⟨rfl, rfl⟩
        go_wp2_with fail
        go_ret
        exact ⟨ret_int (by rw [hfin.out]), rfl⟩
      · have dd : decide (dx < dy) = false := decide_eq_false h1
        by_cases h2 : dy < dx
        · have hfin := Lib.hid (show cmpN x y = 1 by unfold cmpN; have := hgt.out h2; rw [if_neg (by omega), if_pos this])
          have dd2 : decide (dy < dx) = true := decide_eq_true h2
          go_wp2_with fail
          refine C1.out.mono ?_
          rintro e w1 ⟨rfl, rfl⟩
          go_wp2_with fail
          refine C2.out.mono ?_
          rintro e w1 ⟨rfl, rfl⟩
          go_wp2_with fail
          refine C1.out.mono ?_
          rintro e w1 ⟨rfl, rfl⟩
          go_wp2_with fail
          refine C2.out.mono ?_
          rintro e w1 ⟨rfl, rfl⟩
          go_wp2_with fail
          go_ret
          exact ⟨ret_int (by rw [hfin.out]), rfl⟩
        · have dd2 : decide (dy < dx) = false := decide_eq_false h2
          have HE := Lib.hid (heq.out (by omega))
          go_wp2_with fail
          refine C1.out.mono ?_
          rintro e w1 ⟨rfl, rfl⟩
          go_wp2_with fail
          refine C2.out.mono ?_
          rintro e w1 ⟨rfl, rfl⟩
          go_wp2_with fail
          refine C1.out.mono ?_
          rintro e w1 ⟨rfl, rfl⟩
          go_wp2_with fail
          refine C2.out.mono ?_
          rintro e w1 ⟨rfl, rfl⟩
          go_wp2_with fail
          go_round
          case rel => exact ⟨k, by omega, rfl, HE⟩
          case measure => simp [intOf]
/-- How many digits of 32 bits a number has. -/
def ndg (n : Nat) : Nat := (nbits n + 31) / 32
theorem ndg_lt (n : Nat) : n < 4294967296 ^ ndg n := by
  rw [pow32']
  by_cases h : n = 0
  · rw [h]; exact Nat.pow_pos (by decide)
  · obtain ⟨-, h2, -⟩ := nbits_spec n h
    exact Nat.lt_of_lt_of_le h2 (Nat.pow_le_pow_right (by decide) (by unfold ndg; omega))
theorem ndg_top (n : Nat) (h : n ≠ 0) : 1 ≤ ndg n ∧ 4294967296 ^ (ndg n - 1) ≤ n := by
  obtain ⟨h1, -, h3⟩ := nbits_spec n h
  refine ⟨by unfold ndg; omega, ?_⟩
  rw [pow32']
  exact Nat.le_trans (Nat.pow_le_pow_right (by decide) (by unfold ndg; omega)) h1
theorem ndg_le {n k : Nat} (h : n < 4294967296 ^ k) : ndg n ≤ k := by
  by_cases h0 : n = 0
  · rw [h0]; exact Nat.zero_le _
  · obtain ⟨h1, h2⟩ := ndg_top n h0
    have h3 := Nat.lt_of_le_of_lt h2 h
    have := (Nat.pow_lt_pow_iff_right (show 1 < 4294967296 by decide)).1 h3
    omega
theorem nl_pow {n k : Nat} (h : n < 4294967296 ^ (2 * k)) : nl n ≤ k := by
  unfold nl
  rw [← pow64] at h
  exact (limbs_len k n).2 h
set_option maxHeartbeats 1000000 in
theorem rdigits_any (v : Value) (n : Nat) (w : World) (h : Nm w v n) (hn : ndg n ≤ 100000000) :
    Calls Tryz.prog 97 #[v] w fun e w' => e = .returned (.int .i64 (ndg n : Int)) ∧ w' = w := by
  have c := rbits_any v n w h
  have q : ((nbits n : Int) + 31) / 32 = (ndg n : Int) := by unfold ndg; omega
  have hb : nbits n ≤ 32 * ndg n := by unfold ndg; omega
  generalize nbits n = b at *
  generalize ndg n = d at *
  have C := Lib.hid c
  clear c h
  go_enter Tryz.func97, Tryz.ntmps97
  go_wp2_with fail
  refine C.out.mono ?_
  rintro e w1 ⟨rfl, rfl⟩
  go_wp2_with fail
  go_ret
  exact ⟨ret_int q, rfl⟩

/-- What the division's loop has. -/
def DivD (X Y m i r : Nat) (Q : List Nat) : Prop := Q.length = m ∧ (∀ d ∈ Q, d < 4294967296) ∧ (∀ j, j < i → digit Q j = 0) ∧ vd Q * Y + 4294967296 ^ i * r + X % 4294967296 ^ i = X ∧ r < Y
theorem DivD.start {X Y n k : Nat} (hX : X < 4294967296 ^ (n + k)) (hY : 4294967296 ^ n ≤ Y) : DivD X Y k k (X / 4294967296 ^ k) (List.replicate k 0) := by
  refine ⟨by simp, by simp, fun j hj => ?_, ?_, ?_⟩
  · unfold digit
    rw [List.getElem?_replicate]
    split <;> rfl
  · rw [vd_zeros, Nat.zero_mul, Nat.zero_add]
    exact Nat.div_add_mod X _
  · refine Nat.lt_of_lt_of_le ?_ hY
    rw [Nat.div_lt_iff_lt_mul (dpos k), ← Nat.pow_add]
    exact hX
/-- The digit that is guessed is not too small. -/
theorem guess_ge {r Y n : Nat} (hr : r < Y * 4294967296) (hY : Y < 4294967296 ^ (n + 1)) (ht : 0 < dgt Y n) : r / Y ≤ min ((dgt r (n + 1) * 4294967296 + dgt r n) / dgt Y n) 4294967295 := by
  have hY0 : 0 < Y := by
    rcases Nat.eq_zero_or_pos Y with h | h
    · rw [h] at ht; simp [dgt] at ht
    · exact h
  have hYt : dgt Y n * 4294967296 ^ n ≤ Y := by
    have h1 := div_succ Y n
    rw [Nat.div_eq_of_lt hY, Nat.mul_zero, Nat.add_zero] at h1
    rw [← h1]
    exact Nat.div_mul_le_self _ _
  have hr2 : r < 4294967296 ^ (n + 2) := Nat.lt_of_lt_of_le hr (by rw [show n + 2 = (n + 1) + 1 from rfl, Nat.pow_succ]; exact Nat.mul_le_mul_right _ (Nat.le_of_lt hY))
  have hrt : r / 4294967296 ^ n = dgt r (n + 1) * 4294967296 + dgt r n := by
    have h1 := div_succ r n
    have h2 := div_succ r (n + 1)
    rw [Nat.div_eq_of_lt hr2, Nat.mul_zero, Nat.add_zero] at h2
    rw [h1, h2]
    omega
  rw [← hrt]
  refine Nat.le_min.2 ⟨?_, ?_⟩
  · rw [Nat.le_div_iff_mul_le ht, Nat.le_div_iff_mul_le (dpos n), Nat.mul_assoc]
    exact Nat.le_trans (Nat.mul_le_mul_left _ hYt) (Nat.div_mul_le_self r Y)
  · have : r / Y < 4294967296 := by rw [Nat.div_lt_iff_lt_mul hY0, Nat.mul_comm]; exact hr
    omega
theorem DivD.step {X Y m i r r1 g : Nat} {Q : List Nat} (h : DivD X Y m (i + 1) r Q) (him : i < m) (hr1 : r1 = r * 4294967296 + dgt X i) (hg : g = r1 / Y) (hg32 : g < 4294967296) : DivD X Y m i (r1 - g * Y) (Q.set i g) := by
  obtain ⟨h1, h2, h3, h4, h5⟩ := h
  have hset := vd_set Q i g (by omega)
  rw [h3 i (by omega), Nat.mul_zero, Nat.add_zero] at hset
  have hgy : g * Y ≤ r1 := by rw [hg]; exact Nat.div_mul_le_self _ _
  refine ⟨by rw [List.length_set, h1], ?_, fun j hj => ?_, ?_, ?_⟩
  · intro d hd
    rcases List.mem_or_eq_of_mem_set hd with hd | hd
    · exact h2 d hd
    · rw [hd]; exact hg32
  · have := h3 j (by omega)
    unfold digit at this ⊢
    rw [List.getElem?_set_ne (by omega)]
    exact this
  · rw [hset]
    rw [mod_succ, Nat.pow_succ] at h4
    generalize 4294967296 ^ i = P at *
    obtain ⟨z, hz⟩ : ∃ z, r1 - g * Y = z := ⟨_, rfl⟩
    rw [hz]
    have e1 : P * r1 = P * 4294967296 * r + P * dgt X i := by rw [hr1, Nat.mul_add, Nat.mul_assoc, Nat.mul_comm r]
    have e2 : P * r1 = P * g * Y + P * z := by rw [Nat.mul_assoc, ← Nat.mul_add]; congr 1; omega
    rw [Nat.add_mul]
    omega
  · have hlt := Nat.mod_lt r1 (show 0 < Y by omega)
    rw [hg, Nat.mul_comm]
    have := Nat.div_add_mod r1 Y
    omega
theorem DivD.fin {X Y m r : Nat} {Q : List Nat} (h : DivD X Y m 0 r Q) : vd Q = X / Y ∧ r = X % Y := by
  obtain ⟨-, -, -, h4, h5⟩ := h
  rw [Nat.pow_zero, Nat.one_mul, Nat.mod_one, Nat.add_zero] at h4
  have hY : 0 < Y := by omega
  rw [← h4, Nat.mul_comm, Nat.mul_add_div hY, Nat.div_eq_of_lt h5, Nat.add_zero, Nat.mul_add_mod, Nat.mod_eq_of_lt h5]
  exact ⟨rfl, rfl⟩
end Go.Proofs.YtpnllalefpkcjaaGreatDoor.Nat_
