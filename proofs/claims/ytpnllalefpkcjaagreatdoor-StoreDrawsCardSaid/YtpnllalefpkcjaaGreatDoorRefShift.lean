/-
Contracts of the reference's shifts.
-/
import Derived.Test.YtpnllalefpkcjaaGreatDoorRefAdd
namespace Go.Proofs.YtpnllalefpkcjaaGreatDoor.Nat_
open Go.RowKit

theorem pow32 (z k : Nat) : 4294967296 ^ z * 2 ^ k = 2 ^ (32 * z + k) := by
  rw [Nat.pow_add, Nat.pow_mul]
theorem pow32' (z : Nat) : 4294967296 ^ z = 2 ^ (32 * z) := by rw [Nat.pow_mul]
/-- What the loop of the shift up has. -/
def ShlD (x k z j c : Nat) (r : List Nat) : Prop := r.length = z + j ∧ c < 4294967296 ∧ (∀ d ∈ r, d < 4294967296) ∧ ∃ r', r = List.replicate z 0 ++ r' ∧ vd r' + 4294967296 ^ j * c = (x % 4294967296 ^ j) * 2 ^ k
theorem ShlD.start (x k z : Nat) : ShlD x k z 0 0 (List.replicate z 0) := ⟨by simp, by decide, by simp, [], by simp, by simp [vd, Nat.mod_one]⟩
theorem ShlD.step {x k z j c s : Nat} {r : List Nat} (h : ShlD x k z j c r) (hs : s = dgt x j * 2 ^ k + c) (h64 : s < 18446744073709551616) : ShlD x k z (j + 1) (s / 4294967296) (r ++ [s % 4294967296]) := by
  obtain ⟨h1, h2, h3, r', hr, h4⟩ := h
  refine ⟨by simp [h1]; omega, by omega, ?_, r' ++ [s % 4294967296], by rw [hr, List.append_assoc], ?_⟩
  · intro d hd
    rcases List.mem_append.1 hd with hd | hd
    · exact h3 d hd
    · obtain rfl : d = _ := by simpa using hd
      exact Nat.mod_lt _ (by decide)
  · have hl : r'.length = j := by
      have := congrArg List.length hr
      rw [List.length_append, List.length_replicate] at this
      omega
    rw [vd_snoc, hl]
    exact shl_dgt x (vd r') j c s (2 ^ k) h4 hs
theorem ShlD.next {x k z j c : Nat} {r : List Nat} (h : ShlD x k z j c r) (hk : k < 32) : ∃ p s t q : Nat, IntKind.u64.wrap ((dgt x j : Int) * 2 ^ k) = (p : Int) ∧ (p : Int) < 9223372036854775808 ∧ (p : Int) + (c : Int) = (s : Int) ∧ (s : Int) < 18446744073709551616 ∧ (s : Int) % 4294967296 = (t : Int) ∧ (s : Int) / 4294967296 = (q : Int) ∧
    t < 18446744073709551616 ∧ (q : Int) < 4294967296 ∧ ShlD x k z (j + 1) q (r ++ [t]) := by
  have hc := h.2.1
  have hx := dgt_lt x j
  obtain ⟨p, hp⟩ : ∃ p, dgt x j * 2 ^ k = p := ⟨_, rfl⟩
  have h31 : 2 ^ k ≤ 2147483648 := Nat.pow_le_pow_right (n := 2) (by decide) (show k ≤ 31 by omega)
  have hp2 : p ≤ 4294967295 * 2147483648 := by rw [← hp]; exact Nat.mul_le_mul (by omega) h31
  have hpI : (dgt x j : Int) * 2 ^ k = (p : Int) := by rw [← hp, Int.natCast_mul, Int.natCast_pow]; rfl
  have hst := h.step (s := p + c) (by rw [hp]) (by omega)
  refine ⟨p, p + c, (p + c) % 4294967296, (p + c) / 4294967296, by rw [hpI, IntKind.wrap_u64]; omega, ?_, ?_, ?_, ?_, ?_, ?_, ?_, hst⟩ <;> omega
theorem ShlD.fin {x k z j c : Nat} {r : List Nat} (h : ShlD x k z (j + 1) c r) (hx : x < 4294967296 ^ j) (hk : k < 32) : vd r = x * 2 ^ (32 * z + k) := by
  obtain ⟨h1, h2, h3, r', hr, h4⟩ := h
  have hl : r'.length = j + 1 := by
    have := congrArg List.length hr
    rw [List.length_append, List.length_replicate] at this
    omega
  rw [mod_big x _ (lt_pow_mono hx (by omega))] at h4
  have hlt : x * 2 ^ k < 4294967296 ^ (j + 1) := by
    rw [Nat.pow_succ]
    have h2k : 2 ^ k ≤ 4294967296 := Nat.pow_le_pow_right (n := 2) (by decide) (show k ≤ 32 by omega)
    exact Nat.lt_of_lt_of_le ((Nat.mul_lt_mul_right (Nat.pow_pos (by decide))).2 hx) (Nat.mul_le_mul_left _ h2k)
  have hc : c = 0 := by
    rcases Nat.eq_zero_or_pos c with h0 | h0
    · exact h0
    · have := Nat.le_mul_of_pos_right (4294967296 ^ (j + 1)) h0
      omega
  rw [hc, Nat.mul_zero, Nat.add_zero] at h4
  rw [hr, vd_append, vd_zeros, List.length_replicate, Nat.zero_add, h4, ← pow32, Nat.mul_left_comm]
def ownA (v : Value) : Option Addr := match v with | .slice a _ _ => a | _ => none
def ownC (v : Value) : Nat := match v with | .slice _ _ c => c | _ => 0
/-- A row of zeros of the call's own. -/
theorem ow_zeros (w : World) (z : Nat) (hz : z ≤ 3900000) : Ow w.heap.size (w.alloc (.cells (List.replicate z (limbV 0)).toArray 26)) (.slice (some ⟨w.heap.size, 0, none⟩) z z) (List.replicate z 0) := by
  refine ⟨⟨by simp, .inr ⟨w.heap.size, z, _, by rw [List.length_replicate], Nat.le_refl _, heap_alloc_new w _, by rw [List.length_replicate]; exact Nat.le_refl _, by unfold maxLen; omega, by simp, by simp⟩⟩, by simp; omega, by simp⟩
set_option maxRecDepth 100000 in
set_option maxHeartbeats 2000000 in
theorem rshl_any (v : Value) (x n : Nat) (w : World) (hv : Nm w v x) (hn : n ≤ 1000000) (hnl : nl (x * 2 ^ n) ≤ 1000000) :
    Calls Tryz.prog 96 #[v, .int .i64 (n : Int)] w (RNat w (x * 2 ^ n)) := by
  have hd := fun w' (hb : Below w.heap.size w w') i hi => rdigit_any v x i w' (hv.below hb) hi
  obtain ⟨l, hl, hlx, hls⟩ := hv
  have hxs := val_small l hl.lt
  rw [hlx] at hxs
  obtain ⟨a, len, cap, rfl, h1, h2, h3, -, -, -⟩ := hl
  unfold maxLen at h3
  rw [h1] at hxs
  obtain ⟨z, hz⟩ : ∃ z, n / 32 = z := ⟨_, rfl⟩
  obtain ⟨k, hk⟩ : ∃ k, n % 32 = k := ⟨_, rfl⟩
  have hzk : 32 * z + k = n := by omega
  have hk32 : k < 32 := by omega
  have q1 : (n : Int) / 32 = (z : Int) := by omega
  have q2 : (n : Int) % 32 = (k : Int) := by omega
  have hz2 : z ≤ 1000000 := by omega
  obtain ⟨Z, hZ⟩ : ∃ Z : List Value, Z = List.replicate z (limbV 0) := ⟨_, rfl⟩
  have hmk : ∀ V : World, (Instr.makeSlice 44 (.int .i64 (z : Int)) (.int .i64 (z : Int))).run Tryz.prog V = .ok (.slice (some ⟨V.heap.size, 0, none⟩) z z) (V.alloc (.cells Z.toArray 26)) := by
    intro V
    have h := run_make_row' (P := Tryz.prog) 44 26 _ 8 Tryz.underlying44 Tryz.limbInfo rfl .i64 .i64 z (by omega) (by omega) V
    rw [toList_made] at h
    rw [hZ]
    simpa [limbV] using h
  have hz0 := ow_zeros w z (by omega)
  rw [← hZ] at hz0
  have HX := Lib.hid hxs
  have HD := Lib.hid hd
  have HN := Lib.hid (And.intro hnl hzk)
  have HZ := Lib.hid hz0
  have hl3 : len ≤ 1000000 := by omega
  clear hd hlx hls hxs h1 hnl hz hk hzk hZ hz0
  go_enter Tryz.func96, Tryz.ntmps96
  go_wp2_with fail
  clear hmk q1
  go_loopw [5, 6, 7] (fun o cv i wr => ∃ (j c : Nat) (r : List Nat), j ≤ 2 * len + 1 ∧ i = .int .i64 (j : Int) ∧ cv = .int .u64 (c : Int) ∧ o = .slice (ownA o) r.length (ownC o) ∧ Hid (ShlD x k z j c r) ∧ Hid (Ow w.heap.size wr o r) ∧ Hid (Below w.heap.size w wr)) (fun _ _ i _ => 2 * len + 1 - (intOf i).toNat)
  case atStart => exact ⟨0, 0, List.replicate z 0, by omega, rfl, rfl, by rw [List.length_replicate]; rfl, Lib.hid (ShlD.start x k z), HZ, Lib.hid ((Below.refl _ _).alloc (Nat.le_refl _) _)⟩
  case round =>
    obtain ⟨j, c, r, hj, rfl, rfl, -, HS, HO, HB⟩ := hrel
    obtain ⟨oa, oc, rfl⟩ := HO.out.slice
    have HJ := Lib.hid HS.out.1
    have hjr : r.length ≤ 3000001 := by have := HJ.out; omega
    by_cases hlt : j ≤ 2 * len
    · have c1 := HD.out wr HB.out j (by omega)
      obtain ⟨p, s, t, q, hp, hp63, hsN, hs64, htI, hqI, ht64, hq1, hst⟩ := HS.out.next hk32
      have hc := HS.out.2.1
      have hxl := dgt_lt x j
      generalize dgt x j = dx at *
      have C1 := Lib.hid c1
      have HST := Lib.hid hst
      have hltI : (j : Int) ≤ 2 * (len : Int) := by omega
      have hsz := HB.out.size
      clear c1 hst hq1
      go_wp2_with fail
      refine C1.out.mono ?_
      rintro e w1 ⟨rfl, rfl⟩
      go_wp2_with (at_builtin; refine app1_ow _ rfl _ _ rfl w.heap.size (.slice oa r.length oc) r t ht64 rfl HO.out rfl (by omega) hsz ?_; intro a2 c2 w2 ho2 hb2; have HO2 := Lib.hid ho2; have HB2 := Lib.hid (HB.out.trans hb2); clear ho2)
      go_roundw
      have hle : (.slice a2 (r.length + 1) c2 : Value) = .slice a2 (r ++ [t]).length c2 := by rw [List.length_append, List.length_singleton]
      first
        | exact ⟨⟨j + 1, q, r ++ [t], by omega, by go_num, rfl, hle, HST, HO2, HB2⟩, by simp [intOf]; omega⟩
        | (case rel => exact ⟨j + 1, q, r ++ [t], by omega, by go_num, rfl, hle, HST, HO2, HB2⟩
           case measure => simp [intOf]; omega)
    · obtain rfl : j = 2 * len + 1 := by omega
      have hfin := HS.out.fin HX.out hk32
      rw [HN.out.2] at hfin
      have c3 := rmade_lb _ r wr HO.out.lb HS.out.2.2.1 (by omega) (by rw [hfin]; exact HN.out.1)
      rw [hfin] at c3
      have C3 := Lib.hid c3
      have hltI : 2 * (len : Int) < ((2 * len + 1 : Nat) : Int) := by omega
      clear c3 hfin
      go_wp2_with fail
      refine C3.out.mono ?_
      rintro e w' ⟨a3, c3, rfl, hn3, hb3⟩
      go_wp2_with fail
      go_ret
      exact ⟨a3, c3, rfl, hn3.ge HB.out.size, HB.out.trans (hb3.mono HB.out.size)⟩
/-- What the loop of the shift down has. -/
def ShrD (x n j : Nat) (r : List Nat) : Prop := r.length = j ∧ (∀ d ∈ r, d < 4294967296) ∧ vd r = (x / 2 ^ n) % 4294967296 ^ j
theorem ShrD.start (x n : Nat) : ShrD x n 0 [] := ⟨rfl, by simp, by simp [vd, Nat.mod_one]⟩
theorem ShrD.step {x n z k j t : Nat} {r : List Nat} (h : ShrD x n j r) (hn : 32 * z + k = n) (hk : k ≤ 32) (ht : t = (dgt x (z + j) + dgt x (z + j + 1) * 4294967296) / 2 ^ k % 4294967296) : ShrD x n (j + 1) (r ++ [t]) := by
  obtain ⟨h1, h2, h3⟩ := h
  rw [shr_dgt x (z + j) k hk] at ht
  refine ⟨by simp [h1], ?_, ?_⟩
  · intro d hd
    rcases List.mem_append.1 hd with hd | hd
    · exact h2 d hd
    · obtain rfl : d = t := by simpa using hd
      rw [ht]
      exact Nat.mod_lt _ (by decide)
  · rw [vd_snoc, h1, mod_succ, h3, ht]
    congr 2
    unfold dgt
    rw [Nat.div_div_eq_div_mul, Nat.div_div_eq_div_mul, pow32, pow32', ← Nat.pow_add]
    congr 3
    omega
theorem ShrD.next {x n z k j : Nat} {r : List Nat} (h : ShrD x n j r) (hn : 32 * z + k = n) (hk : k ≤ 32) : ∃ m s p t : Nat, (dgt x (z + j + 1) : Int) * 4294967296 = (m : Int) ∧ (m : Int) < 18446744073709551616 ∧ (dgt x (z + j) : Int) + (m : Int) = (s : Int) ∧ (s : Int) < 18446744073709551616 ∧ (s : Int) / 2 ^ k = (p : Int) ∧ (p : Int) ≤ (s : Int) ∧ (p : Int) % 4294967296 = (t : Int) ∧
    t < 18446744073709551616 ∧ ShrD x n (j + 1) (r ++ [t]) := by
  have h0 := dgt_lt x (z + j)
  have h1 := dgt_lt x (z + j + 1)
  have hst := h.step hn hk rfl
  obtain ⟨s, hs⟩ : ∃ s, dgt x (z + j) + dgt x (z + j + 1) * 4294967296 = s := ⟨_, rfl⟩
  rw [hs] at hst
  have hdl := Nat.div_le_self s (2 ^ k)
  have hdi : (s : Int) / 2 ^ k = ((s / 2 ^ k : Nat) : Int) := by rw [Int.natCast_ediv, Int.natCast_pow]; rfl
  obtain ⟨p, hp⟩ : ∃ p, s / 2 ^ k = p := ⟨_, rfl⟩
  rw [hp] at hst hdl hdi
  refine ⟨dgt x (z + j + 1) * 4294967296, s, p, p % 4294967296, ?_, ?_, ?_, ?_, hdi, ?_, ?_, ?_, hst⟩ <;> omega
theorem ShrD.fin {x n j m : Nat} {r : List Nat} (h : ShrD x n j r) (hx : x < 4294967296 ^ m) (hm : m ≤ j + n / 32) : vd r = x / 2 ^ n := by
  obtain ⟨h1, h2, h3⟩ := h
  rw [h3, mod_big]
  rw [Nat.div_lt_iff_lt_mul (Nat.pow_pos (by decide))]
  have h4 := lt_pow_mono hx hm
  rw [pow32'] at h4 ⊢
  rw [← Nat.pow_add]
  exact Nat.lt_of_lt_of_le h4 (Nat.pow_le_pow_right (by decide) (by omega))
set_option maxRecDepth 100000 in
set_option maxHeartbeats 2000000 in
theorem rshr_any (v : Value) (x n : Nat) (w : World) (hv : Nm w v x) (hn : n ≤ 1000000000) :
    Calls Tryz.prog 98 #[v, .int .i64 (n : Int)] w (RNat w (x / 2 ^ n)) := by
  have hd := fun w' (hb : Below w.heap.size w w') i hi => rdigit_any v x i w' (hv.below hb) hi
  obtain ⟨l, hl, hlx, hls⟩ := hv
  have hxs := val_small l hl.lt
  have hnx := nl_val l hl.lt
  rw [hlx] at hxs hnx
  have hnl : nl (x / 2 ^ n) ≤ 1000000 := by have := nl_le (Nat.div_le_self x (2 ^ n)); omega
  obtain ⟨a, len, cap, rfl, h1, h2, h3, -, -, -⟩ := hl
  unfold maxLen at h3
  rw [h1] at hxs
  obtain ⟨z, hz⟩ : ∃ z, n / 32 = z := ⟨_, rfl⟩
  obtain ⟨k, hk⟩ : ∃ k, n % 32 = k := ⟨_, rfl⟩
  have hzk : 32 * z + k = n := by omega
  have hk32 : k < 32 := by omega
  have q1 : (n : Int) / 32 = (z : Int) := by omega
  have q2 : (n : Int) % 32 = (k : Int) := by omega
  have hz2 : z ≤ 100000000 := by omega
  have HX := Lib.hid hxs
  have HD := Lib.hid hd
  have HN := Lib.hid (And.intro hnl (And.intro hzk hz))
  have hl3 : len ≤ 1000000 := by omega
  clear hd hlx hls hxs h1 hnl hz hk hzk hnx
  go_enter Tryz.func98, Tryz.ntmps98
  go_wp2_with fail
  clear q1
  go_loopw [5, 6] (fun o i wr => ∃ (j : Nat) (r : List Nat), (j = 0 ∨ z + j ≤ 2 * len) ∧ i = .int .i64 ((z + j : Nat) : Int) ∧ Hid (ShrD x n j r) ∧ Hid (Ow w.heap.size wr o r) ∧ Hid (Below w.heap.size w wr)) (fun _ i _ => 2 * len - (intOf i).toNat)
  case atStart => exact ⟨0, [], .inl rfl, rfl, Lib.hid (ShrD.start x n), Lib.hid (Ow.nil _ _), Lib.hid (Below.refl _ _)⟩
  case round =>
    obtain ⟨j, r, hj, rfl, HS, HO, HB⟩ := hrel
    obtain ⟨oa, oc, rfl⟩ := HO.out.slice
    have HJ := Lib.hid HS.out.1
    have hjr : r.length ≤ 2000001 := by have := HJ.out; omega
    by_cases hlt : z + j < 2 * len
    · have c1 := HD.out wr HB.out (z + j) (by omega)
      have c2 := HD.out wr HB.out (z + j + 1) (by omega)
      obtain ⟨m, s, p, t, hm, hm64, hsN, hs64, hp, hps, htI, ht64, hst⟩ := HS.out.next HN.out.2.1 (by omega)
      have hxl := dgt_lt x (z + j)
      have hyl := dgt_lt x (z + j + 1)
      generalize dgt x (z + j) = dx at *
      generalize dgt x (z + j + 1) = dy at *
      obtain ⟨i, hi⟩ : ∃ i, z + j = i := ⟨_, rfl⟩
      rw [hi] at c1 c2
      have hi' : z + (j + 1) = i + 1 := by omega
      have C1 := Lib.hid c1
      have C2 := Lib.hid c2
      have HST := Lib.hid hst
      have HI := Lib.hid (And.intro hi hi')
      have hltI : (i : Int) < 2 * (len : Int) := by omega
      have hilt : i ≤ 2000000 := by omega
      have hsz := HB.out.size
      have hii : ((i + 1 : Nat) : Int) = (i : Int) + 1 := by omega
      rw [hii] at C2
      rw [hi]
      clear c1 c2 hst hlt hii hi hi'
      go_wp2_with fail
      refine C1.out.mono ?_
      rintro e w1 ⟨rfl, rfl⟩
      go_wp2_with fail
      refine C2.out.mono ?_
      rintro e w1 ⟨rfl, rfl⟩
      go_wp2_with (at_builtin; refine app1_ow _ rfl _ _ rfl w.heap.size (.slice oa r.length oc) r t ht64 rfl HO.out rfl (by omega) hsz ?_; intro a2 c2 w2 ho2 hb2; have HO2 := Lib.hid ho2; have HB2 := Lib.hid (HB.out.trans hb2); clear ho2)
      go_roundw
      have hcond : j + 1 = 0 ∨ z + (j + 1) ≤ 2 * len := .inr (by rw [HI.out.2]; omega)
      first
        | exact ⟨⟨j + 1, r ++ [t], hcond, by rw [HI.out.2]; go_num, HST, HO2, HB2⟩, by simp [intOf]; omega⟩
        | (case rel => exact ⟨j + 1, r ++ [t], hcond, by rw [HI.out.2]; go_num, HST, HO2, HB2⟩
           case measure => simp [intOf]; omega)
    · have hfin := HS.out.fin HX.out (by rw [HN.out.2.2]; omega)
      have c3 := rmade_lb _ r wr HO.out.lb HS.out.2.1 (by omega) (by rw [hfin]; exact HN.out.1)
      rw [hfin] at c3
      have C3 := Lib.hid c3
      obtain ⟨i, hi⟩ : ∃ i, z + j = i := ⟨_, rfl⟩
      have hltI : 2 * (len : Int) ≤ (i : Int) := by omega
      have hilt : i ≤ 200000000 := by omega
      rw [hi]
      clear c3 hfin hi hlt
      go_wp2_with fail
      refine C3.out.mono ?_
      rintro e w' ⟨a3, c3, rfl, hn3, hb3⟩
      go_wp2_with fail
      go_ret
      exact ⟨a3, c3, rfl, hn3.ge HB.out.size, HB.out.trans (hb3.mono HB.out.size)⟩
end Go.Proofs.YtpnllalefpkcjaaGreatDoor.Nat_
