/-
math/bits.Div64: the quotient and the rest of two words by one.
-/
import Derived.Test.YtljgiagdmnedpaaNatMulW
import Derived.Test.YtljgiagdmnedpaaNatHalf
import Derived.Test.YtljgiagdmnedpaaShelf
import Derived.Lib.ItoaNum
import Derived.RegionTactic
namespace Go.Proofs.Ytljgiagdmnedpaa.Nat_
open Go.RowKit

theorem lead_any (y : Nat) (h0 : 0 < y) (h1 : y < 18446744073709551616) : ∃ s : Nat, s ≤ 63 ∧ 9223372036854775808 ≤ y * 2 ^ s ∧ y * 2 ^ s < 18446744073709551616 ∧ ∀ w : World,
    Calls Try.prog 62 #[.int .u64 (y : Int)] w fun e w' => e = .returned (.int .i64 (s : Int)) ∧ w' = w := by
  obtain ⟨h2, h3, h4⟩ := Lib.bitLenAux_bounds 64 y (by simpa using h1) (by omega)
  have h5 : Lib.bitLen y = Lib.bitLenAux 64 y := rfl
  rw [← h5] at h2 h3 h4
  have h6 : Lib.bitLen y ≤ 64 := by
    rcases Nat.lt_or_ge 64 (Lib.bitLen y) with h | h
    · have : 2 ^ 64 ≤ 2 ^ (Lib.bitLen y - 1) := Nat.pow_le_pow_right (by decide) (by omega)
      omega
    · exact h
  refine ⟨64 - Lib.bitLen y, by omega, ?_, ?_, fun w => ?_⟩
  · have h7 : 2 ^ (Lib.bitLen y - 1) * 2 ^ (64 - Lib.bitLen y) = 9223372036854775808 := by
      rw [← Nat.pow_add, show Lib.bitLen y - 1 + (64 - Lib.bitLen y) = 63 by omega]
    rw [← h7]
    exact Nat.mul_le_mul_right _ h3
  · have h7 : 2 ^ Lib.bitLen y * 2 ^ (64 - Lib.bitLen y) = 18446744073709551616 := by
      rw [← Nat.pow_add, show Lib.bitLen y + (64 - Lib.bitLen y) = 64 by omega]
    rw [← h7]
    exact Nat.mul_lt_mul_of_pos_right h4 (Nat.pow_pos (by decide))
  · refine (Try.bits_LeadingZeros64 (y : Int) w (by omega) (by omega)).mono ?_
    rintro e w' ⟨rfl, rfl⟩
    refine ⟨ret_int ?_, rfl⟩
    rw [Int.toNat_natCast]
    omega
theorem wrap_shl (a s : Nat) : IntKind.u64.wrap ((a : Int) * 2 ^ s) = ((a * 2 ^ s % 18446744073709551616 : Nat) : Int) := by
  rw [IntKind.wrap_u64]
  simp
/-- What the head of Div64 lays out. -/
theorem div_prep (hi lo y s : Nat) (hy : hi < y) (hl : lo < 18446744073709551616) (hs : s ≤ 63) (hY1 : 9223372036854775808 ≤ y * 2 ^ s) (hY2 : y * 2 ^ s < 18446744073709551616) :
    ∃ Y y1 y0 U L u1 u0 H : Nat, Y = y * 2 ^ s ∧ Y = y1 * 4294967296 + y0 ∧ y0 < 4294967296 ∧ 2147483648 ≤ y1 ∧ y1 < 4294967296 ∧ U < y1 * 4294967296 + y0 ∧ u1 < 4294967296 ∧ u0 < 4294967296 ∧ L = u1 * 4294967296 + u0 ∧
      U * 18446744073709551616 + (u1 * 4294967296 + u0) = (hi * 18446744073709551616 + lo) * 2 ^ s ∧
      IntKind.u64.wrap ((y : Int) * 2 ^ s) = (Y : Int) ∧ IntKind.u64.wrap ((hi : Int) * 2 ^ s) = (H : Int) ∧ IntKind.u64.wrap ((lo : Int) * 2 ^ s) = (L : Int) ∧
      bits .or .u64 (H : Int) ((lo : Int) / 2 ^ (64 - s)) = (U : Int) ∧ bits .and .u64 (Y : Int) 4294967295 = (y0 : Int) ∧ bits .and .u64 (L : Int) 4294967295 = (u0 : Int) ∧
      (Y : Int) / 4294967296 = (y1 : Int) ∧ (L : Int) / 4294967296 = (u1 : Int) := by
  have hS : 0 < 2 ^ s := Nat.pow_pos (by decide)
  have hH : hi * 2 ^ s + 2 ^ s ≤ y * 2 ^ s := by rw [← Nat.succ_mul]; exact Nat.mul_le_mul_right _ hy
  have hP : (18446744073709551616 : Nat) = 2 ^ (64 - s) * 2 ^ s := by rw [← Nat.pow_add, show 64 - s + s = 64 by omega]
  have hover : lo * 2 ^ s / 18446744073709551616 = lo / 2 ^ (64 - s) := by
    conv => lhs; rw [hP]
    rw [Nat.mul_div_mul_right _ _ hS]
  have hsm : lo / 2 ^ (64 - s) < 2 ^ s := by
    rw [Nat.div_lt_iff_lt_mul (Nat.pow_pos (by decide)), Nat.mul_comm, ← hP]
    exact hl
  have hdm := Nat.div_add_mod (lo * 2 ^ s) 18446744073709551616
  rw [hover] at hdm
  refine ⟨y * 2 ^ s, y * 2 ^ s / 4294967296, y * 2 ^ s % 4294967296, hi * 2 ^ s + lo / 2 ^ (64 - s), lo * 2 ^ s % 18446744073709551616, lo * 2 ^ s % 18446744073709551616 / 4294967296, lo * 2 ^ s % 18446744073709551616 % 4294967296, hi * 2 ^ s,
    rfl, by omega, by omega, by omega, by omega, by omega, by omega, by omega, by omega, ?_, ?_, ?_, ?_, ?_, ?_, ?_, by omega, by omega⟩
  · rw [Nat.add_mul, Nat.add_mul, Nat.mul_right_comm]
    omega
  · rw [wrap_shl, Nat.mod_eq_of_lt hY2]
  · rw [wrap_shl, Nat.mod_eq_of_lt (by omega)]
  · rw [wrap_shl]
  · have e : ((lo : Int) / 2 ^ (64 - s)) = ((lo / 2 ^ (64 - s) : Nat) : Int) := by simp
    rw [e, u64_or _ _ (by omega) (by omega) (by omega) (by omega)]
    rw [Int.toNat_natCast, Int.toNat_natCast, nat_join s _ _ (Nat.mul_mod_left _ _) hsm]
  · rw [and32 _ (by omega) (by omega)]; omega
  · rw [and32 _ (by omega) (by omega)]; omega
/-- What stands behind a half of the quotient. -/
theorem div_mid (U u1 Y q : Nat) (hq : q = (U * 4294967296 + u1) / Y) (hU : U < Y) (hY : Y < 18446744073709551616) :
    ∃ A A2 C V : Nat, V = (U * 4294967296 + u1) % Y ∧ V < Y ∧ U * 4294967296 + u1 = q * Y + V ∧ IntKind.u64.wrap ((U : Int) * 4294967296) = (A : Int) ∧ IntKind.u64.wrap ((A : Int) + (u1 : Int)) = (A2 : Int) ∧
      IntKind.u64.wrap ((q : Int) * (Y : Int)) = (C : Int) ∧ IntKind.u64.wrap ((A2 : Int) - (C : Int)) = (V : Int) := by
  have h1 := Nat.div_add_mod (U * 4294967296 + u1) Y
  have h2 := Nat.mod_lt (U * 4294967296 + u1) (show Y > 0 by omega)
  rw [← hq, Nat.mul_comm] at h1
  generalize hV : (U * 4294967296 + u1) % Y = V at *
  refine ⟨U * 4294967296 % 18446744073709551616, (U * 4294967296 % 18446744073709551616 + u1) % 18446744073709551616, q * Y % 18446744073709551616, V, rfl, h2, h1.symm, ?_, ?_, ?_, ?_⟩
  · rw [IntKind.wrap_u64]; omega
  · rw [IntKind.wrap_u64]; omega
  · rw [IntKind.wrap_u64, ← Int.natCast_mul]; omega
  · rw [IntKind.wrap_u64]
    generalize q * Y = D at *
    omega
theorem div_head (U y1 : Nat) (u1 y0 : Nat) (b1 : y0 < 4294967296) (b2 : 2147483648 ≤ y1) (b3 : y1 < 4294967296) (b4 : U < y1 * 4294967296 + y0) (b5 : u1 < 4294967296) :
    ∃ q r M : Nat, HInv U u1 y1 y0 q r ∧ r < 4294967296 ∧ q ≤ 4294967297 ∧ IntKind.u64.wrap ((U : Int) / (y1 : Int)) = (q : Int) ∧ IntKind.u64.wrap ((q : Int) * (y1 : Int)) = (M : Int) ∧ IntKind.u64.wrap ((U : Int) - (M : Int)) = (r : Int) := by
  obtain ⟨q, hq⟩ : ∃ q, q = U / y1 := ⟨_, rfl⟩
  obtain ⟨r, hr⟩ : ∃ r, r = U % y1 := ⟨_, rfl⟩
  obtain ⟨M, hM⟩ : ∃ M, M = q * y1 := ⟨_, rfl⟩
  have hinv := half_start U u1 y1 y0 b4 b2 b1 b5
  rw [← hq, ← hr] at hinv
  have hM2 : M + r = U := by rw [hM]; exact hinv.1
  have hr1 : r < 4294967296 := by
    have := Nat.mod_lt U (show y1 > 0 by omega)
    omega
  have hq3 := hinv.2.2
  refine ⟨q, r, M, hinv, hr1, hq3, ?_, ?_, ?_⟩
  · rw [IntKind.wrap_u64, ← Int.natCast_ediv, ← hq]
    omega
  · rw [IntKind.wrap_u64, ← Int.natCast_mul, ← hM]
    omega
  · rw [IntKind.wrap_u64]
    omega
theorem wrap_half (q y0 : Nat) (hq : q ≤ 4294967297) (h0 : y0 < 4294967296) : ∃ P : Nat, P = q * y0 ∧ IntKind.u64.wrap ((q : Int) * (y0 : Int)) = (P : Int) := by
  refine ⟨q * y0, rfl, ?_⟩
  have : q * y0 ≤ 4294967297 * y0 := Nat.mul_le_mul_right _ hq
  rw [IntKind.wrap_u64, ← Int.natCast_mul]
  omega
theorem join_halves (U u1 u0 q1 V q2 R Y : Nat) (h2 : U * 4294967296 + u1 = q1 * Y + V) (h3 : V * 4294967296 + u0 = q2 * Y + R) : U * 18446744073709551616 + (u1 * 4294967296 + u0) = (q1 * 4294967296 + q2) * Y + R := by
  rw [Nat.add_mul, Nat.mul_right_comm]
  generalize q1 * Y = a at *
  generalize q2 * Y = b at *
  simp only [Nat.mul_comm _ 4294967296, Nat.mul_comm _ 18446744073709551616] at *
  omega
theorem div_last (hi lo y s Y U u1 u0 q1 V q2 R : Nat) (hY : Y = y * 2 ^ s) (h1 : U * 18446744073709551616 + (u1 * 4294967296 + u0) = (hi * 18446744073709551616 + lo) * 2 ^ s)
    (h2 : U * 4294967296 + u1 = q1 * Y + V) (h3 : V * 4294967296 + u0 = q2 * Y + R) (hR : R < Y) : R / 2 ^ s < y ∧ hi * 18446744073709551616 + lo = (q1 * 4294967296 + q2) * y + R / 2 ^ s := by
  have hS : 0 < 2 ^ s := Nat.pow_pos (by decide)
  have h4 : (hi * 18446744073709551616 + lo) * 2 ^ s = (q1 * 4294967296 + q2) * (y * 2 ^ s) + R := by
    rw [← h1, ← hY]
    exact join_halves U u1 u0 q1 V q2 R Y h2 h3
  obtain ⟨h5, h6⟩ := shift_back _ _ _ _ _ hS h4
  refine ⟨?_, h6⟩
  rw [Nat.div_lt_iff_lt_mul hS, ← hY]
  exact hR
set_option maxRecDepth 100000 in
set_option maxHeartbeats 4000000 in
theorem div64_zero (lo y : Nat) (hy : 0 < y) (hl : lo < 18446744073709551616) (hy1 : y < 18446744073709551616) (w : World) :
    Calls Try.prog 61 #[.int .u64 0, .int .u64 (lo : Int), .int .u64 (y : Int)] w fun e w' => e = .returned (.tuple #[.int .u64 ((lo / y : Nat) : Int), .int .u64 ((lo % y : Nat) : Int)]) ∧ Below w.heap.size w w' := by
  have HQ := Lib.hid (show IntKind.u64.wrap ((lo : Int) / (y : Int)) = ((lo / y : Nat) : Int) by
    rw [IntKind.wrap_u64, ← Int.natCast_ediv]
    have := Nat.div_le_self lo y
    generalize lo / y = d at *
    omega)
  go_enter Try.func61, Try.ntmps61
  go_wp2_with fail
  go_region
  go_wp2_with fail
  go_ret2
  exact ⟨ret_int2 (by simp [HQ.out]) (by simp), (Below.refl _ _).drew⟩
set_option maxRecDepth 100000 in
set_option maxHeartbeats 4000000 in
theorem div64_more (hi lo y : Nat) (h0 : 0 < hi) (hy : hi < y) (hl : lo < 18446744073709551616) (hy1 : y < 18446744073709551616) (w : World) :
    Calls Try.prog 61 #[.int .u64 (hi : Int), .int .u64 (lo : Int), .int .u64 (y : Int)] w fun e w' => ∃ q r : Nat, e = .returned (.tuple #[.int .u64 (q : Int), .int .u64 (r : Int)]) ∧ q < 18446744073709551616 ∧ r < y ∧ hi * 18446744073709551616 + lo = q * y + r ∧ Below w.heap.size w w' := by
  obtain ⟨s, hs, hY1, hY2, hlead⟩ := lead_any y (by omega) hy1
  obtain ⟨Y, y1, y0, U, L, u1, u0, H, hY, hYs, b1, b2, b3, b4, b5, b6, hL, hsum, w1, w2, w3, w4, w5, w6, w7, w8⟩ := div_prep hi lo y s hy hl hs hY1 hY2
  obtain ⟨q, r, M, hinv, hr0, hq0, wq, wm, wr⟩ := div_head U y1 u1 y0 b1 b2 b3 b4 b5
  have HI0 := Lib.hid hinv
  have B4 := Lib.hid b4
  clear b4
  have hYB : Y < 18446744073709551616 := by omega
  have B := Lib.hid (And.intro hY (And.intro hsum (And.intro hYs hL)))
  clear hY hsum hY1 hY2 hYs hL hinv
  obtain ⟨iy1, ey1⟩ : ∃ i : Int, (y1 : Int) = i := ⟨_, rfl⟩
  obtain ⟨iy0, ey0⟩ : ∃ i : Int, (y0 : Int) = i := ⟨_, rfl⟩
  obtain ⟨iu1, eu1⟩ : ∃ i : Int, (u1 : Int) = i := ⟨_, rfl⟩
  obtain ⟨iu0, eu0⟩ : ∃ i : Int, (u0 : Int) = i := ⟨_, rfl⟩
  rw [ey0] at w5
  rw [eu0] at w6
  rw [ey1] at w7 wq wm
  rw [eu1] at w8
  go_enter Try.func61, Try.ntmps61
  go_wp2_with (go_at_call 62; refine (hlead _).mono ?_; rintro e w' ⟨rfl, rfl⟩)
  clear hlead w1 w2 w3 w4 w5 w6 w7 w8
  clear wq wm wr
  go_loop [15, 16] (fun a b => ∃ (q r : Nat) (jq jr : Int), a = .int .u64 jq ∧ b = .int .u64 jr ∧ (q : Int) = jq ∧ (r : Int) = jr ∧ r < 4294967296 ∧ q ≤ 4294967297 ∧ Hid (HInv U u1 y1 y0 q r)) (fun a _ => (intOf a).toNat)
  case atStart => exact ⟨q, r, _, _, rfl, rfl, rfl, rfl, hr0, hq0, HI0⟩
  case round =>
    clear hr0 hq0 HI0
    obtain ⟨q, r, jq, jr, rfl, rfl, fq, fr, hr, hq, HI⟩ := hrel
    obtain ⟨P, hP, wP⟩ := wrap_half q y0 hq b1
    have HP := Lib.hid hP
    obtain ⟨iP, eP⟩ : ∃ iP : Int, (P : Int) = iP := ⟨_, rfl⟩
    rw [fq, ey0, eP] at wP
    clear hP
    by_cases hc : 4294967296 ≤ q ∨ 4294967296 * r + u1 < P
    · obtain ⟨hq0, hi2, hq1⟩ := half_step HI.out B4.out b5 (by rw [← HP.out]; exact hc)
      obtain ⟨p, hp⟩ : ∃ p, q - 1 = p := ⟨_, rfl⟩
      rw [hp] at hi2 hq1
      have hpi : jq - 1 = (p : Int) := by omega
      have HI2 := Lib.hid hi2
      clear hi2 HI HP hp
      by_cases hr2 : r + y1 < 4294967296
      · go_wp2_with fail
        all_goals go_round
        all_goals (first | (exact ⟨p, r + y1, _, _, rfl, rfl, rfl, by rw [Int.natCast_add, fr, ey1], hr2, by omega, HI2⟩) | (simp [intOf]; omega))
      · have hfit := half_over HI2.out (by omega) b1 hq1 (by omega)
        have HQ1 := Lib.hid hfit
        have hq21 : p < 4294967296 := by rw [hfit]; exact half_lt U u1 y1 y0 B4.out b5
        clear hfit HI2 hq1
        generalize p = q1 at *
        obtain ⟨A, A2, C, V, hV, hVY, hsum1, wA, wB, wC, wD⟩ := div_mid U u1 Y q1 (by rw [B.out.2.2.1]; exact HQ1.out) (by rw [B.out.2.2.1]; exact B4.out) hYB
        rw [eu1] at wB
        have HV := Lib.hid (And.intro hV hsum1)
        clear hV hsum1
        have BV := Lib.hid (show V < y1 * 4294967296 + y0 by rw [← B.out.2.2.1]; exact hVY)
        have HVY := Lib.hid hVY
        clear hVY
        obtain ⟨q2, r2, M2, hinv2, hr2', hq2', wq2, wm2, wr2⟩ := div_head V y1 u0 y0 b1 b2 b3 BV.out b6
        rw [ey1] at wq2 wm2
        have HI2' := Lib.hid hinv2
        clear hinv2
        go_wp2_with fail
        clear wq2 wm2 wr2
        all_goals
          go_loop [18, 16] (fun a b => ∃ (q r : Nat) (iq ir : Int), a = .int .u64 iq ∧ b = .int .u64 ir ∧ (q : Int) = iq ∧ (r : Int) = ir ∧ r < 4294967296 ∧ q ≤ 4294967297 ∧ Hid (HInv V u0 y1 y0 q r)) (fun a _ => (intOf a).toNat)
          case atStart => exact ⟨q2, r2, _, _, rfl, rfl, rfl, rfl, hr2', hq2', HI2'⟩
          case round =>
            clear hr2' hq2' HI2'
            obtain ⟨q, r, iq, ir, rfl, rfl, eq_, er_, hr, hq, HI⟩ := hrel
            obtain ⟨P, hP, wP⟩ := wrap_half q y0 hq b1
            have HP := Lib.hid hP
            obtain ⟨iP, eP⟩ : ∃ iP : Int, (P : Int) = iP := ⟨_, rfl⟩
            rw [eq_, ey0, eP] at wP
            clear hP
            by_cases hc : 4294967296 ≤ q ∨ 4294967296 * r + u0 < P
            · obtain ⟨hq0, hi2, hq1⟩ := half_step HI.out BV.out b6 (by rw [← HP.out]; exact hc)
              obtain ⟨p, hp⟩ : ∃ p, q - 1 = p := ⟨_, rfl⟩
              rw [hp] at hi2 hq1
              have hpi : iq - 1 = (p : Int) := by omega
              have HI2 := Lib.hid hi2
              clear hi2 HI HP hp
              by_cases hr2 : r + y1 < 4294967296
              · go_wp2_with fail
                all_goals go_round
                all_goals (first | (exact ⟨p, r + y1, _, _, rfl, rfl, rfl, by rw [Int.natCast_add, er_, ey1], hr2, by omega, HI2⟩) | (simp [intOf]; omega))
              · have hfit := half_over HI2.out (by omega) b1 hq1 (by omega)
                have HQ2 := Lib.hid hfit
                have hq22 : p < 4294967296 := by rw [hfit]; exact half_lt V u0 y1 y0 BV.out b6
                clear hfit HI2 hq1
                obtain ⟨A', A2', C', R, hR, hRY, hsum2, wA', wB', wC', wD'⟩ := div_mid V u0 Y p (by rw [B.out.2.2.1]; exact HQ2.out) HVY.out hYB
                rw [eu0] at wB'
                have HR := Lib.hid (And.intro hR (And.intro hsum2 hRY))
                clear hR hsum2 hRY
                go_wp2_with fail
                all_goals go_ret2
                all_goals exact ⟨q1 * 4294967296 + p, R / 2 ^ s, ret_int2 (by omega) (by simp), by omega, (div_last hi lo y s Y U u1 u0 q1 V p R B.out.1 B.out.2.1 HV.out.2 HR.out.2.1 HR.out.2.2).1, (div_last hi lo y s Y U u1 u0 q1 V p R B.out.1 B.out.2.1 HV.out.2 HR.out.2.1 HR.out.2.2).2, Below.refl _ _⟩

            · have hfit := half_fit HI.out (by omega) (by rw [← HP.out]; omega)
              have HQ2 := Lib.hid hfit
              have hq22 : q < 4294967296 := by rw [hfit]; exact half_lt V u0 y1 y0 BV.out b6
              clear hfit HI HP hq
              obtain ⟨A', A2', C', R, hR, hRY, hsum2, wA', wB', wC', wD'⟩ := div_mid V u0 Y q (by rw [B.out.2.2.1]; exact HQ2.out) HVY.out hYB
              rw [eu0] at wB'
              rw [eq_] at wC'
              have HR := Lib.hid (And.intro hR (And.intro hsum2 hRY))
              clear hR hsum2 hRY
              go_wp2_with fail
              all_goals go_ret2
              all_goals exact ⟨q1 * 4294967296 + q, R / 2 ^ s, ret_int2 (by omega) (by simp), by omega, (div_last hi lo y s Y U u1 u0 q1 V q R B.out.1 B.out.2.1 HV.out.2 HR.out.2.1 HR.out.2.2).1, (div_last hi lo y s Y U u1 u0 q1 V q R B.out.1 B.out.2.1 HV.out.2 HR.out.2.1 HR.out.2.2).2, Below.refl _ _⟩


    · have hfit := half_fit HI.out (by omega) (by rw [← HP.out]; omega)
      have HQ1 := Lib.hid hfit
      have hq21 : q < 4294967296 := by rw [hfit]; exact half_lt U u1 y1 y0 B4.out b5
      clear hfit HI HP hq
      generalize q = q1 at *
      obtain ⟨A, A2, C, V, hV, hVY, hsum1, wA, wB, wC, wD⟩ := div_mid U u1 Y q1 (by rw [B.out.2.2.1]; exact HQ1.out) (by rw [B.out.2.2.1]; exact B4.out) hYB
      rw [eu1] at wB
      rw [fq] at wC
      have HV := Lib.hid (And.intro hV hsum1)
      clear hV hsum1
      have BV := Lib.hid (show V < y1 * 4294967296 + y0 by rw [← B.out.2.2.1]; exact hVY)
      have HVY := Lib.hid hVY
      clear hVY
      obtain ⟨q2, r2, M2, hinv2, hr2', hq2', wq2, wm2, wr2⟩ := div_head V y1 u0 y0 b1 b2 b3 BV.out b6
      rw [ey1] at wq2 wm2
      have HI2' := Lib.hid hinv2
      clear hinv2
      go_wp2_with fail
      clear wq2 wm2 wr2
      go_loop [18, 16] (fun a b => ∃ (q r : Nat) (iq ir : Int), a = .int .u64 iq ∧ b = .int .u64 ir ∧ (q : Int) = iq ∧ (r : Int) = ir ∧ r < 4294967296 ∧ q ≤ 4294967297 ∧ Hid (HInv V u0 y1 y0 q r)) (fun a _ => (intOf a).toNat)
      case atStart => exact ⟨q2, r2, _, _, rfl, rfl, rfl, rfl, hr2', hq2', HI2'⟩
      case round =>
        clear hr2' hq2' HI2'
        obtain ⟨q, r, iq, ir, rfl, rfl, eq_, er_, hr, hq, HI⟩ := hrel
        obtain ⟨P, hP, wP⟩ := wrap_half q y0 hq b1
        have HP := Lib.hid hP
        obtain ⟨iP, eP⟩ : ∃ iP : Int, (P : Int) = iP := ⟨_, rfl⟩
        rw [eq_, ey0, eP] at wP
        clear hP
        by_cases hc : 4294967296 ≤ q ∨ 4294967296 * r + u0 < P
        · obtain ⟨hq0, hi2, hq1⟩ := half_step HI.out BV.out b6 (by rw [← HP.out]; exact hc)
          obtain ⟨p, hp⟩ : ∃ p, q - 1 = p := ⟨_, rfl⟩
          rw [hp] at hi2 hq1
          have hpi : iq - 1 = (p : Int) := by omega
          have HI2 := Lib.hid hi2
          clear hi2 HI HP hp
          by_cases hr2 : r + y1 < 4294967296
          · go_wp2_with fail
            all_goals go_round
            all_goals (first | (exact ⟨p, r + y1, _, _, rfl, rfl, rfl, by rw [Int.natCast_add, er_, ey1], hr2, by omega, HI2⟩) | (simp [intOf]; omega))
          · have hfit := half_over HI2.out (by omega) b1 hq1 (by omega)
            have HQ2 := Lib.hid hfit
            have hq22 : p < 4294967296 := by rw [hfit]; exact half_lt V u0 y1 y0 BV.out b6
            clear hfit HI2 hq1
            obtain ⟨A', A2', C', R, hR, hRY, hsum2, wA', wB', wC', wD'⟩ := div_mid V u0 Y p (by rw [B.out.2.2.1]; exact HQ2.out) HVY.out hYB
            rw [eu0] at wB'
            have HR := Lib.hid (And.intro hR (And.intro hsum2 hRY))
            clear hR hsum2 hRY
            go_wp2_with fail
            all_goals go_ret2
            all_goals exact ⟨q1 * 4294967296 + p, R / 2 ^ s, ret_int2 (by omega) (by simp), by omega, (div_last hi lo y s Y U u1 u0 q1 V p R B.out.1 B.out.2.1 HV.out.2 HR.out.2.1 HR.out.2.2).1, (div_last hi lo y s Y U u1 u0 q1 V p R B.out.1 B.out.2.1 HV.out.2 HR.out.2.1 HR.out.2.2).2, Below.refl _ _⟩

        · have hfit := half_fit HI.out (by omega) (by rw [← HP.out]; omega)
          have HQ2 := Lib.hid hfit
          have hq22 : q < 4294967296 := by rw [hfit]; exact half_lt V u0 y1 y0 BV.out b6
          clear hfit HI HP hq
          obtain ⟨A', A2', C', R, hR, hRY, hsum2, wA', wB', wC', wD'⟩ := div_mid V u0 Y q (by rw [B.out.2.2.1]; exact HQ2.out) HVY.out hYB
          rw [eu0] at wB'
          rw [eq_] at wC'
          have HR := Lib.hid (And.intro hR (And.intro hsum2 hRY))
          clear hR hsum2 hRY
          go_wp2_with fail
          all_goals go_ret2
          all_goals exact ⟨q1 * 4294967296 + q, R / 2 ^ s, ret_int2 (by omega) (by simp), by omega, (div_last hi lo y s Y U u1 u0 q1 V q R B.out.1 B.out.2.1 HV.out.2 HR.out.2.1 HR.out.2.2).1, (div_last hi lo y s Y U u1 u0 q1 V q R B.out.1 B.out.2.1 HV.out.2 HR.out.2.1 HR.out.2.2).2, Below.refl _ _⟩


end Go.Proofs.Ytljgiagdmnedpaa.Nat_
