/-
Contracts of package cast's functions.
-/
import Derived.Test.YtaknmionaibodaaDoorProg
import Derived.Test.YtaknmionaibodaaDoorBase
import Derived.Test.YtaknmionaibodaaDoorCastMath
import Derived.Test.YtaknmionaibodaaDoorMem
import Derived.Lib.Strings
namespace Go.Proofs.YtaknmionaibodaaDoor
open Go.RowKit

theorem mul64_any (a b : Int) (w : World) (h0 : 0 ≤ a) (h1 : a < 18446744073709551616) (g0 : 0 ≤ b) (g1 : b < 18446744073709551616) :
    Calls Tryd.prog 94 #[.int .u64 a, .int .u64 b] w fun e w' => e = .returned (.tuple #[.int .u64 (a * b / 18446744073709551616), .int .u64 (a * b % 18446744073709551616)]) ∧ w = w' := by
  have ha := and32 a h0 h1
  have hb := and32 b g0 g1
  have hc := and32 (a / 4294967296 * (b % 4294967296) + a % 4294967296 * (b % 4294967296) / 4294967296)
  have ⟨p1, p2⟩ := half_bd (a := a % 4294967296) (b := b % 4294967296) (by omega) (by omega) (by omega) (by omega)
  have ⟨p3, p4⟩ := half_bd (a := a / 4294967296) (b := b % 4294967296) (by omega) (by omega) (by omega) (by omega)
  have ⟨p5, p6⟩ := half_bd (a := a % 4294967296) (b := b / 4294967296) (by omega) (by omega) (by omega) (by omega)
  have ⟨p7, p8⟩ := half_bd (a := a / 4294967296) (b := b / 4294967296) (by omega) (by omega) (by omega) (by omega)
  have ⟨q1, q2⟩ := hi_bd a b h0 h1 g0 g1
  have he := mul_end a b h0 h1 g0 g1
  have hc := hc (by omega) (by omega)
  have HE := Lib.hid he
  clear he
  go_enter Tryd.func94, Tryd.ntmps94
  go_wp2
  go_ret2
  exact ⟨ret_int2 HE.out (IntKind.wrap_u64 _), rfl⟩

theorem below_any (n : Int) (w : World) (h0 : 0 ≤ n) (h1 : n < 18446744073709551616) :
    Calls Tryd.prog 82 #[.int .u64 n] w fun e w' => e = .returned (.int .u64 (n % 2305843009213693951)) ∧ w = w' := by
  have hb := and61 n h0 h1
  go_enter Tryd.func82, Tryd.ntmps82
  go_wp2
  all_goals (go_ret; exact ⟨ret_int (by omega), rfl⟩)

theorem times_plain (x : Int) : (x % 18446744073709551616 + x / 18446744073709551616 * 8) % 2305843009213693951 = x % 2305843009213693951 := by
  have e : x % 18446744073709551616 + x / 18446744073709551616 * 8 = x - 2305843009213693951 * (8 * (x / 18446744073709551616)) := by omega
  rw [e, Int.sub_mul_emod_self_left]
theorem times_any (a b : Int) (w : World) (h0 : 0 ≤ a) (h1 : a < 2305843009213693952) (g0 : 0 ≤ b) (g1 : b ≤ 72057594037927936) :
    Calls Tryd.prog 83 #[.int .u64 a, .int .u64 b] w fun e w' => e = .returned (.int .u64 (a * b % 2305843009213693951)) ∧ w = w' := by
  have hn := Int.mul_nonneg h0 g0
  have hm := Int.mul_le_mul (show a ≤ 2305843009213693952 by omega) g1 g0 (by omega)
  simp only [Int.reduceMul] at hm
  have hk : 0 ≤ a * b / 18446744073709551616 ∧ a * b / 18446744073709551616 < 9007199254740993 := by omega
  have hs := and61 (a * b / 18446744073709551616 * 8) (by omega) (by omega)
  have hp := times_plain (a * b)
  have HP := Lib.hid hp
  clear hp
  go_enter Tryd.func83, Tryd.ntmps83
  go_wp2_with fail
  refine (mul64_any a b _ h0 (by omega) g0 (by omega)).mono ?_
  rintro e w' ⟨rfl, rfl⟩
  have e8 : a * b / 18446744073709551616 * 8 % 2305843009213693952 = a * b / 18446744073709551616 * 8 := by omega
  rw [e8] at hs
  clear e8
  go_wp2_with (go_at_call 82; refine (below_any _ _ (by omega) (by omega)).mono ?_; rintro e w' ⟨rfl, rfl⟩)
  go_ret
  exact ⟨ret_int HP.out, rfl⟩

/-- What the table of the package holds. -/
def Shifts (w : World) : Prop := ∀ i : Nat, i < 8 → w.cell? ⟨0, i, none⟩ = some (.int .u64 ((256 ^ i : Nat) : Int))
theorem Shifts.below {w w' : World} (h : Shifts w) (hb : Below w.heap.size w w') : Shifts w' := fun i hi => by
  have hc := h i hi
  have hlt : 0 < w.heap.size := by
    rcases Nat.lt_or_ge 0 w.heap.size with hlt | hge
    · exact hlt
    · simp [World.cell?, Array.getElem?_eq_none hge] at hc
  rw [hb.cell (p := ⟨0, i, none⟩) hlt]
  exact hc

def strOf : Value → ByteArray | .string s => s | _ => ByteArray.empty

theorem take_snoc (s : ByteArray) (k : Nat) (h : k < s.size) : s.data.toList.take (k + 1) = s.data.toList.take k ++ [s[k]] := by
  rw [List.take_succ_eq_append_getElem (by simpa using h)]; rfl

theorem be_take (l : List UInt8) (j k : Nat) (h : j ≤ k) : be (l.take j) < 256 ^ k :=
  Nat.lt_of_lt_of_le (be_lt _) (Nat.pow_le_pow_right (by decide) (Nat.le_trans (List.length_take_le _ _) h))
theorem byte_of (u : ByteArray) (j : Nat) (h : j < u.size) : ∃ c : Nat, c < 256 ∧ ((u[j]'h).toNat : Int) = (c : Int) ∧ Hid (be (u.data.toList.take (j + 1)) = be (u.data.toList.take j) * 256 + c) :=
  ⟨(u[j]'h).toNat, (u[j]'h).toNat_lt, rfl, by show be _ = _; rw [take_snoc u j h, be_snoc]⟩
theorem more_cut (x : Nat) (u : ByteArray) (K : Nat) (hK : K ≤ u.size) :
    more x u.data.toList = more ((x * 256 ^ K + be (u.data.toList.take K)) % P61) (u.extract K u.size).data.toList := by
  have e : (u.extract K u.size).data.toList = u.data.toList.drop K := by
    rw [ByteArray.data_extract, Array.toList_extract]
    simp only [List.extract]
    rw [List.take_of_length_le (by simp)]
  have h := more_append x (u.data.toList.take K) (u.data.toList.drop K)
  rw [List.take_append_drop] at h
  rw [← h, e]
  unfold more
  rw [List.length_take, Nat.min_eq_left (by simpa using hK)]

theorem more_all (x : Nat) (u : ByteArray) : more x u.data.toList = more ((x * 256 ^ u.size + be (u.data.toList.take u.size)) % P61) ByteArray.empty.data.toList := by
  show _ = more _ []
  rw [more_nil, Nat.mod_mod, List.take_of_length_le (by simp)]
  rfl
set_option maxHeartbeats 400000 in
theorem more_any (r : Int) (s : ByteArray) (w : World) (h0 : 0 ≤ r) (h1 : r < 18446744073709551616) (hs : s.size ≤ maxLen) (hsh : Shifts w) :
    Calls Tryd.prog 63 #[.int .u64 r, .string s] w fun e w' => e = .returned (.int .u64 (more r.toNat s.data.toList : Nat)) ∧ w = w' := by
  unfold maxLen at hs
  go_enter Tryd.func63, Tryd.ntmps63
  go_wp2_with fail
  refine (below_any r _ h0 h1).mono ?_
  rintro e w' ⟨rfl, rfl⟩
  go_wp2_with fail
  go_loop [0, 1] (fun q t => ∃ (x : Nat) (u : ByteArray), q = .int .u64 (x : Int) ∧ t = .string u ∧ x < P61 ∧ u.size ≤ s.size ∧ more x u.data.toList = more r.toNat s.data.toList) (fun _ t => (strOf t).size)
  case atStart =>
    refine ⟨(r % 2305843009213693951).toNat, s, ?_, rfl, ?_, Nat.le_refl _, ?_⟩
    · rw [Int.toNat_of_nonneg (by omega)]
    · unfold P61; omega
    · rw [← more_mod r.toNat]; unfold P61; congr 1; omega
  case round =>
    obtain ⟨x, u, rfl, rfl, hx, hu, hm⟩ := hrel
    unfold P61 at hx
    have HM := Lib.hid hm
    clear hm
    by_cases hz : 0 < u.size
    · by_cases h7 : 7 < u.size
      · go_wp2_with fail
        go_loop [6, 17] (fun n i => ∃ j : Nat, j ≤ 7 ∧ i = .int .i64 (j : Int) ∧ n = .int .u64 (be (u.data.toList.take j) : Nat)) (fun _ i => 7 - (intOf i).toNat)
        case atStart => exact ⟨0, by omega, rfl, rfl⟩
        case round =>
          obtain ⟨j, hj, rfl, rfl⟩ := hrel
          by_cases hlt : j < 7
          · have hb := be_take u.data.toList j 6 (by omega)
            obtain ⟨c, hc, hcu, HN⟩ := byte_of u j (by omega)
            have ho := or8 (be (u.data.toList.take j)) (c : Int) (by omega) (by omega) (by omega) (by omega)
            go_wp2_with fail
            go_round
            case rel => exact ⟨j + 1, by omega, by go_num, by rw [HN.out]; go_num⟩
            case measure => simp [intOf]; omega
          · have hcell : w.cell? ⟨0, 7, none⟩ = some (.int .u64 72057594037927936) := hsh 7 (by omega)
            have hb := be_take u.data.toList j 7 (by omega)
            obtain rfl : j = 7 := by omega
            have HC := Lib.hid (more_cut x u 7 (by omega))
            go_wp2_with fail
            refine (times_any _ _ _ (by omega) (by omega) (by omega) (by omega)).mono ?_
            rintro e w' ⟨rfl, rfl⟩
            go_wp2_with fail
            refine (below_any _ _ (by omega) (by omega)).mono ?_
            rintro e w' ⟨rfl, rfl⟩
            go_wp2_with fail
            go_round
            case rel =>
              refine ⟨_, _, ?_, rfl, ?_, ?_, HC.out.symm.trans HM.out⟩
              · exact congrArg (Value.int .u64) (by simp only [P61, Int.natCast_emod, Int.natCast_add, Int.natCast_mul]; rfl)
              · exact Nat.mod_lt _ (by decide)
              · simp; omega
            case measure => simp [strOf]; omega
      · obtain ⟨p, hp⟩ : ∃ p : Int, p = ((256 ^ u.size : Nat) : Int) := ⟨_, rfl⟩
        have hp1 : 1 ≤ p := by
          have : 0 < 256 ^ u.size := Nat.pow_pos (by decide)
          omega
        have hp2 : p ≤ 72057594037927936 := by
          have : 256 ^ u.size ≤ 256 ^ 7 := Nat.pow_le_pow_right (by decide) (by omega)
          omega
        have hcell : w.cell? ⟨0, u.size, none⟩ = some (.int .u64 p) := by rw [hp]; exact hsh u.size (by omega)
        have HP := Lib.hid hp
        clear hp
        go_wp2_with fail
        go_loop [6, 17] (fun n i => ∃ j : Nat, j ≤ u.size ∧ i = .int .i64 (j : Int) ∧ n = .int .u64 (be (u.data.toList.take j) : Nat)) (fun _ i => 7 - (intOf i).toNat)
        case atStart => exact ⟨0, by omega, rfl, rfl⟩
        case round =>
          obtain ⟨j, hj, rfl, rfl⟩ := hrel
          by_cases hlt : j < u.size
          · have hb := be_take u.data.toList j 6 (by omega)
            obtain ⟨c, hc, hcu, HN⟩ := byte_of u j (by omega)
            have ho := or8 (be (u.data.toList.take j)) (c : Int) (by omega) (by omega) (by omega) (by omega)
            go_wp2_with fail
            go_round
            case rel => exact ⟨j + 1, by omega, by go_num, by rw [HN.out]; go_num⟩
            case measure => simp [intOf]; omega
          · have hb := be_take u.data.toList j 7 (by omega)
            obtain rfl : j = u.size := by omega
            have HC := Lib.hid (more_all x u)
            go_wp2_with fail
            refine (times_any _ _ _ (by omega) (by omega) (by omega) (by omega)).mono ?_
            rintro e w' ⟨rfl, rfl⟩
            go_wp2_with fail
            refine (below_any _ _ (by omega) (by omega)).mono ?_
            rintro e w' ⟨rfl, rfl⟩
            go_wp2_with fail
            go_round
            case rel =>
              refine ⟨_, ByteArray.empty, ?_, rfl, ?_, ?_, HC.out.symm.trans HM.out⟩
              · exact congrArg (Value.int .u64) (by rw [HP.out]; simp only [P61, Int.natCast_emod, Int.natCast_add, Int.natCast_mul]; rfl)
              · exact Nat.mod_lt _ (by decide)
              · simp
            case measure => simp [strOf]; omega
    · go_wp2_with fail
      go_ret
      refine ⟨ret_int ?_, rfl⟩
      have e : u.data.toList = [] := by
        have : u.data.toList.length = 0 := by simpa using (show u.size = 0 by omega)
        exact List.eq_nil_of_length_eq_zero this
      rw [← HM.out, e, more_nil, Nat.mod_eq_of_lt (by unfold P61; exact hx)]

def rest (l : List UInt8) : Nat := more 1 l
theorem rest_any (s : ByteArray) (w : World) (hs : s.size ≤ maxLen) (hsh : Shifts w) :
    Calls Tryd.prog 42 #[.string s] w fun e w' => e = .returned (.int .u64 (rest s.data.toList : Nat)) ∧ w = w' := by
  go_enter Tryd.func42, Tryd.ntmps42
  go_wp2_with fail
  refine (more_any 1 s _ (by omega) (by omega) hs hsh).mono ?_
  rintro e w' ⟨rfl, rfl⟩
  go_wp2_with fail
  go_ret
  exact ⟨rfl, rfl⟩

theorem twice_any (r : Int) (w : World) (h0 : 0 ≤ r) (h1 : r < 2305843009213693951) :
    Calls Tryd.prog 102 #[.int .u64 r] w fun e w' => e = .returned (.int .u64 (r * 2 % 2305843009213693951)) ∧ w = w' := by
  go_enter Tryd.func102, Tryd.ntmps102
  go_wp2
  all_goals (go_ret; exact ⟨ret_int (by omega), rfl⟩)

theorem dig_step (x j : Nat) : x * 2 ^ j % P61 * 2 % P61 = x * 2 ^ (j + 1) % P61 := by
  rw [Nat.pow_succ, ← Nat.mul_assoc, Nat.mod_mul_mod]
def dig (x c : Nat) : Nat := (x * 256 + c) % P61
theorem digit_any (x c : Int) (w : World) (h0 : 0 ≤ x) (h1 : x < 2305843009213693951) (g0 : 0 ≤ c) (g1 : c < 256) :
    Calls Tryd.prog 95 #[.int .u64 x, .int .u8 c] w fun e w' => e = .returned (.int .u64 (dig x.toNat c.toNat : Int)) ∧ w = w' := by
  go_enter Tryd.func95, Tryd.ntmps95
  go_wp2_with fail
  go_loop [0, 5] (fun q i => ∃ (j : Nat) (y : Int), j ≤ 8 ∧ i = .int .i64 (j : Int) ∧ q = .int .u64 y ∧ y = ((x.toNat * 2 ^ j % P61 : Nat) : Int)) (fun _ i => 8 - (intOf i).toNat)
  case atStart => exact ⟨0, x, by omega, rfl, rfl, by rw [Nat.pow_zero, Nat.mul_one, Nat.mod_eq_of_lt (by unfold P61; omega)]; omega⟩
  case round =>
    obtain ⟨j, y, hj, rfl, rfl, hy⟩ := hrel
    have hlt := Nat.mod_lt (x.toNat * 2 ^ j) (show 0 < P61 by decide)
    have HS := Lib.hid (dig_step x.toNat j)
    have y0 : 0 ≤ y := by omega
    have y1 : y < 2305843009213693951 := by unfold P61 at hlt hy; omega
    clear hlt
    by_cases h8 : j < 8
    · have HY := Lib.hid hy
      clear hy
      go_wp2_with fail
      refine (twice_any _ _ (by omega) (by omega)).mono ?_
      rintro e w' ⟨rfl, rfl⟩
      go_wp2_with fail
      go_round
      case rel => exact ⟨j + 1, _, by omega, by go_num, rfl, by rw [← HS.out, HY.out, Int.natCast_emod (_ * 2), Int.natCast_mul _ 2]; rfl⟩
      case measure => simp [intOf]; omega
    · have e : j = 8 := by omega
      have hf : (dig x.toNat c.toNat : Int) = if y + c < 2305843009213693951 then y + c else y + c - 2305843009213693951 := by
        rw [hy, e]
        unfold dig P61
        split <;> omega
      have HF := Lib.hid hf
      clear hf hy
      have e8 : ¬ (j : Int) < 8 := by omega
      clear e HS hj h8
      go_wp2_with fail
      all_goals (go_ret; exact ⟨ret_int (by rw [HF.out]; split <;> omega), rfl⟩)

theorem more_take (r : Nat) (s : ByteArray) (j : Nat) (h : j < s.size) : more r (s.data.toList.take (j + 1)) = dig (more r (s.data.toList.take j)) (s[j]'h).toNat := by
  rw [take_snoc s j h, more_snoc]; rfl
theorem byte_more (r : Nat) (u : ByteArray) (j : Nat) (h : j < u.size) : ∃ c : Nat, c < 256 ∧ ((u[j]'h).toNat : Int) = (c : Int) ∧ Hid (more r (u.data.toList.take (j + 1)) = dig (more r (u.data.toList.take j)) c) :=
  ⟨(u[j]'h).toNat, (u[j]'h).toNat_lt, rfl, more_take r u j h⟩
theorem refMore_any (r : Nat) (s : ByteArray) (w : World) (h1 : r < 18446744073709551616) (hs : s.size ≤ maxLen) :
    Calls Tryd.prog 84 #[.int .u64 (r : Int), .string s] w fun e w' => e = .returned (.int .u64 (more r s.data.toList : Int)) ∧ w = w' := by
  unfold maxLen at hs
  go_enter Tryd.func84, Tryd.ntmps84
  go_wp2_with fail
  go_loop [0, 5] (fun q i => ∃ j : Nat, j ≤ s.size ∧ i = .int .i64 (j : Int) ∧ q = .int .u64 (more r (s.data.toList.take j) : Int)) (fun _ i => s.size - (intOf i).toNat)
  case atStart => exact ⟨0, by omega, rfl, by simp [more_nil, P61]⟩
  case round =>
    obtain ⟨j, hj, rfl, rfl⟩ := hrel
    have hlt := more_lt r (s.data.toList.take j)
    unfold P61 at hlt
    by_cases h8 : j < s.size
    · obtain ⟨c, hc, hcu, HN⟩ := byte_more r s j h8
      go_wp2_with fail
      refine (digit_any _ _ _ (by omega) (by omega) (by omega) (by omega)).mono ?_
      rintro e w' ⟨rfl, rfl⟩
      go_wp2_with fail
      go_round
      case rel => exact ⟨j + 1, by omega, by go_num, by rw [HN.out]⟩
      case measure => simp [intOf]; omega
    · have e : more r (s.data.toList.take j) = more r s.data.toList := by rw [List.take_of_length_le (by simp; omega)]
      have HE := Lib.hid e
      clear e
      go_wp2_with fail
      go_ret
      exact ⟨ret_int (by rw [HE.out]), rfl⟩
theorem refRest_any (s : ByteArray) (w : World) (hs : s.size ≤ maxLen) :
    Calls Tryd.prog 65 #[.string s] w fun e w' => e = .returned (.int .u64 (rest s.data.toList : Int)) ∧ w = w' := by
  go_enter Tryd.func65, Tryd.ntmps65
  go_wp2_with fail
  refine (refMore_any 1 s _ (by omega) hs).mono ?_
  rintro e w' ⟨rfl, rfl⟩
  go_wp2_with fail
  go_ret
  exact ⟨rfl, rfl⟩

end Go.Proofs.YtaknmionaibodaaDoor
