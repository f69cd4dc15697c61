/-
The arithmetic of layer 2 (cast): a text's remainder by the prime, in plain numbers. No program in sight.
Contracts of package cast's functions.
Contracts of cast.Seal and cast.Open, and of the reference's.
-/
import Derived.WalkKit
import Derived.Test.YtpnllalefpkcjaaGreatDoorProg
import Derived.Test.YtpnllalefpkcjaaGreatDoorMemA
import Derived.Lib.Strings
namespace Go.Proofs.YtpnllalefpkcjaaGreatDoor
def P61 : Nat := 2305843009213693951
def be (l : List UInt8) : Nat := l.foldl (fun a c => a * 256 + c.toNat) 0
theorem foldl_be (l : List UInt8) : ∀ a : Nat, l.foldl (fun a c => a * 256 + c.toNat) a = a * 256 ^ l.length + be l := by
  induction l with
  | nil => intro a; simp [be]
  | cons x l ih =>
    intro a
    have h1 := ih (a * 256 + x.toNat)
    have h2 := ih (0 * 256 + x.toNat)
    have e : be (x :: l) = (l.foldl (fun a c => a * 256 + c.toNat) (0 * 256 + x.toNat)) := rfl
    rw [List.foldl_cons, h1, e, h2, List.length_cons, Nat.pow_succ]
    simp only [Nat.add_mul, Nat.zero_mul, Nat.zero_add]
    rw [Nat.mul_comm (256 ^ l.length) 256, ← Nat.mul_assoc]
    omega
theorem be_append (a b : List UInt8) : be (a ++ b) = be a * 256 ^ b.length + be b := by
  show (a ++ b).foldl _ 0 = _
  rw [List.foldl_append, foldl_be]
  rfl
theorem be_snoc (a : List UInt8) (c : UInt8) : be (a ++ [c]) = be a * 256 + c.toNat := by
  rw [be_append]; simp [be]
theorem be_lt (l : List UInt8) : be l < 256 ^ l.length := by
  induction l with
  | nil => simp [be]
  | cons x l ih =>
    have := be_append [x] l
    simp only [List.singleton_append] at this
    rw [this, List.length_cons, Nat.pow_succ]
    have hx : x.toNat < 256 := x.toNat_lt
    have e : be [x] = x.toNat := by simp [be]
    rw [e]
    have : (x.toNat + 1) * 256 ^ l.length ≤ 256 * 256 ^ l.length := Nat.mul_le_mul_right _ (by omega)
    rw [Nat.add_mul, Nat.one_mul] at this
    rw [Nat.mul_comm (256 ^ l.length) 256]
    omega
def more (r : Nat) (l : List UInt8) : Nat := (r * 256 ^ l.length + be l) % P61
theorem more_lt (r : Nat) (l : List UInt8) : more r l < P61 := Nat.mod_lt _ (by decide)
theorem more_mod (r : Nat) (l : List UInt8) : more (r % P61) l = more r l := by
  unfold more
  rw [Nat.add_mod, Nat.mul_mod, Nat.mod_mod, ← Nat.mul_mod, ← Nat.add_mod]
theorem more_append (r : Nat) (a b : List UInt8) : more (more r a) b = more r (a ++ b) := by
  show more ((r * 256 ^ a.length + be a) % P61) b = _
  rw [more_mod]
  unfold more
  rw [be_append, List.length_append, Nat.pow_add, Nat.add_mul, Nat.mul_assoc, Nat.add_assoc]
theorem more_nil (r : Nat) : more r [] = r % P61 := by simp [more, be]
theorem more_snoc (r : Nat) (a : List UInt8) (c : UInt8) : more r (a ++ [c]) = (more r a * 256 + c.toNat) % P61 := by
  rw [← more_append]
  show (more r a * 256 ^ 1 + be [c]) % P61 = _
  simp [be]
end Go.Proofs.YtpnllalefpkcjaaGreatDoor

namespace Go.Proofs.YtpnllalefpkcjaaGreatDoor
open Go.RowKit

theorem mul64_any (a b : Int) (w : World) (h0 : 0 ≤ a) (h1 : a < 18446744073709551616) (g0 : 0 ≤ b) (g1 : b < 18446744073709551616) :
    Calls Tryz.prog 107 #[.int .u64 a, .int .u64 b] w fun e w' => e = .returned (.tuple #[.int .u64 (a * b / 18446744073709551616), .int .u64 (a * b % 18446744073709551616)]) ∧ w = w' := by
  have ha := and32 a h0 h1
  have hb := and32 b g0 g1
  have hc := and32 (a / 4294967296 * (b % 4294967296) + a % 4294967296 * (b % 4294967296) / 4294967296)
  have ⟨p1, p2⟩ := half_bd (a := a % 4294967296) (b := b % 4294967296) (by omega) (by omega) (by omega) (by omega)
  have ⟨p3, p4⟩ := half_bd (a := a / 4294967296) (b := b % 4294967296) (by omega) (by omega) (by omega) (by omega)
  have ⟨p5, p6⟩ := half_bd (a := a % 4294967296) (b := b / 4294967296) (by omega) (by omega) (by omega) (by omega)
  have ⟨p7, p8⟩ := half_bd (a := a / 4294967296) (b := b / 4294967296) (by omega) (by omega) (by omega) (by omega)
  have ⟨q1, q2⟩ := hi_bd a b h0 h1 g0 g1
  have he := mul_end a b h0 h1 g0 g1
  have hc := hc (by omega) (by omega)
  have HE := Lib.hid he
  clear he
  go_enter Tryz.func107, Tryz.ntmps107
  go_wp2
  go_ret2
  exact ⟨ret_int2 HE.out (IntKind.wrap_u64 _), rfl⟩

theorem below_any (n : Int) (w : World) (h0 : 0 ≤ n) (h1 : n < 18446744073709551616) :
    Calls Tryz.prog 89 #[.int .u64 n] w fun e w' => e = .returned (.int .u64 (n % 2305843009213693951)) ∧ w = w' := by
  have hb := and61 n h0 h1
  go_enter Tryz.func89, Tryz.ntmps89
  go_wp2
  all_goals (go_ret; exact ⟨ret_int (by omega), rfl⟩)

theorem times_plain (x : Int) : (x % 18446744073709551616 + x / 18446744073709551616 * 8) % 2305843009213693951 = x % 2305843009213693951 := by
  have e : x % 18446744073709551616 + x / 18446744073709551616 * 8 = x - 2305843009213693951 * (8 * (x / 18446744073709551616)) := by omega
  rw [e, Int.sub_mul_emod_self_left]
theorem times_any (a b : Int) (w : World) (h0 : 0 ≤ a) (h1 : a < 2305843009213693952) (g0 : 0 ≤ b) (g1 : b ≤ 72057594037927936) :
    Calls Tryz.prog 90 #[.int .u64 a, .int .u64 b] w fun e w' => e = .returned (.int .u64 (a * b % 2305843009213693951)) ∧ w = w' := by
  have hn := Int.mul_nonneg h0 g0
  have hm := Int.mul_le_mul (show a ≤ 2305843009213693952 by omega) g1 g0 (by omega)
  simp only [Int.reduceMul] at hm
  have hk : 0 ≤ a * b / 18446744073709551616 ∧ a * b / 18446744073709551616 < 9007199254740993 := by omega
  have hs := and61 (a * b / 18446744073709551616 * 8) (by omega) (by omega)
  have hp := times_plain (a * b)
  have HP := Lib.hid hp
  clear hp
  go_enter Tryz.func90, Tryz.ntmps90
  go_wp2_with fail
  refine (mul64_any a b _ h0 (by omega) g0 (by omega)).mono ?_
  rintro e w' ⟨rfl, rfl⟩
  have e8 : a * b / 18446744073709551616 * 8 % 2305843009213693952 = a * b / 18446744073709551616 * 8 := by omega
  rw [e8] at hs
  clear e8
  go_wp2_with (go_at_call 89; refine (below_any _ _ (by omega) (by omega)).mono ?_; rintro e w' ⟨rfl, rfl⟩)
  go_ret
  exact ⟨ret_int HP.out, rfl⟩

/-- What the table of the package holds. -/
def Shifts (w : World) : Prop := ∀ i : Nat, i < 8 → w.cell? ⟨0, i, none⟩ = some (.int .u64 ((256 ^ i : Nat) : Int))
theorem Shifts.below {w w' : World} (h : Shifts w) (hb : Below w.heap.size w w') : Shifts w' := fun i hi => by
  have hc := h i hi
  have hlt : 0 < w.heap.size := by
    rcases Nat.lt_or_ge 0 w.heap.size with hlt | hge
    · exact hlt
    · simp [World.cell?, Array.getElem?_eq_none hge] at hc
  rw [hb.cell (p := ⟨0, i, none⟩) hlt]
  exact hc

def strOf : Value → ByteArray | .string s => s | _ => ByteArray.empty

theorem take_snoc (s : ByteArray) (k : Nat) (h : k < s.size) : s.data.toList.take (k + 1) = s.data.toList.take k ++ [s[k]] := by
  rw [List.take_succ_eq_append_getElem (by simpa using h)]; rfl

theorem be_take (l : List UInt8) (j k : Nat) (h : j ≤ k) : be (l.take j) < 256 ^ k :=
  Nat.lt_of_lt_of_le (be_lt _) (Nat.pow_le_pow_right (by decide) (Nat.le_trans (List.length_take_le _ _) h))
theorem byte_of (u : ByteArray) (j : Nat) (h : j < u.size) : ∃ c : Nat, c < 256 ∧ ((u[j]'h).toNat : Int) = (c : Int) ∧ Hid (be (u.data.toList.take (j + 1)) = be (u.data.toList.take j) * 256 + c) :=
  ⟨(u[j]'h).toNat, (u[j]'h).toNat_lt, rfl, by show be _ = _; rw [take_snoc u j h, be_snoc]⟩
theorem more_cut (x : Nat) (u : ByteArray) (K : Nat) (hK : K ≤ u.size) :
    more x u.data.toList = more ((x * 256 ^ K + be (u.data.toList.take K)) % P61) (u.extract K u.size).data.toList := by
  have e : (u.extract K u.size).data.toList = u.data.toList.drop K := by
    rw [ByteArray.data_extract, Array.toList_extract]
    simp only [List.extract]
    rw [List.take_of_length_le (by simp)]
  have h := more_append x (u.data.toList.take K) (u.data.toList.drop K)
  rw [List.take_append_drop] at h
  rw [← h, e]
  unfold more
  rw [List.length_take, Nat.min_eq_left (by simpa using hK)]

theorem more_all (x : Nat) (u : ByteArray) : more x u.data.toList = more ((x * 256 ^ u.size + be (u.data.toList.take u.size)) % P61) ByteArray.empty.data.toList := by
  show _ = more _ []
  rw [more_nil, Nat.mod_mod, List.take_of_length_le (by simp)]
  rfl
set_option maxHeartbeats 400000 in
theorem more_any (r : Int) (s : ByteArray) (w : World) (h0 : 0 ≤ r) (h1 : r < 18446744073709551616) (hs : s.size ≤ maxLen) (hsh : Shifts w) :
    Calls Tryz.prog 72 #[.int .u64 r, .string s] w fun e w' => e = .returned (.int .u64 (more r.toNat s.data.toList : Nat)) ∧ w = w' := by
  unfold maxLen at hs
  go_enter Tryz.func72, Tryz.ntmps72
  go_wp2_with fail
  refine (below_any r _ h0 h1).mono ?_
  rintro e w' ⟨rfl, rfl⟩
  go_wp2_with fail
  go_loop [0, 1] (fun q t => ∃ (x : Nat) (u : ByteArray), q = .int .u64 (x : Int) ∧ t = .string u ∧ x < P61 ∧ u.size ≤ s.size ∧ more x u.data.toList = more r.toNat s.data.toList) (fun _ t => (strOf t).size)
  case atStart =>
    refine ⟨(r % 2305843009213693951).toNat, s, ?_, rfl, ?_, Nat.le_refl _, ?_⟩
    · rw [Int.toNat_of_nonneg (by omega)]
    · unfold P61; omega
    · rw [← more_mod r.toNat]; unfold P61; congr 1; omega
  case round =>
    obtain ⟨x, u, rfl, rfl, hx, hu, hm⟩ := hrel
    unfold P61 at hx
    have HM := Lib.hid hm
    clear hm
    by_cases hz : 0 < u.size
    · by_cases h7 : 7 < u.size
      · go_wp2_with fail
        go_loop [6, 17] (fun n i => ∃ j : Nat, j ≤ 7 ∧ i = .int .i64 (j : Int) ∧ n = .int .u64 (be (u.data.toList.take j) : Nat)) (fun _ i => 7 - (intOf i).toNat)
        case atStart => exact ⟨0, by omega, rfl, rfl⟩
        case round =>
          obtain ⟨j, hj, rfl, rfl⟩ := hrel
          by_cases hlt : j < 7
          · have hb := be_take u.data.toList j 6 (by omega)
            obtain ⟨c, hc, hcu, HN⟩ := byte_of u j (by omega)
            have ho := or8 (be (u.data.toList.take j)) (c : Int) (by omega) (by omega) (by omega) (by omega)
            go_wp2_with fail
            go_round
            case rel => exact ⟨j + 1, by omega, by go_num, by rw [HN.out]; go_num⟩
            case measure => simp [intOf]; omega
          · have hcell : w.cell? ⟨0, 7, none⟩ = some (.int .u64 72057594037927936) := hsh 7 (by omega)
            have hb := be_take u.data.toList j 7 (by omega)
            obtain rfl : j = 7 := by omega
            have HC := Lib.hid (more_cut x u 7 (by omega))
            go_wp2_with fail
            refine (times_any _ _ _ (by omega) (by omega) (by omega) (by omega)).mono ?_
            rintro e w' ⟨rfl, rfl⟩
            go_wp2_with fail
            refine (below_any _ _ (by omega) (by omega)).mono ?_
            rintro e w' ⟨rfl, rfl⟩
            go_wp2_with fail
            go_round
            case rel =>
              refine ⟨_, _, ?_, rfl, ?_, ?_, HC.out.symm.trans HM.out⟩
              · exact congrArg (Value.int .u64) (by simp only [P61, Int.natCast_emod, Int.natCast_add, Int.natCast_mul]; rfl)
              · exact Nat.mod_lt _ (by decide)
              · simp; omega
            case measure => simp [strOf]; omega
      · obtain ⟨p, hp⟩ : ∃ p : Int, p = ((256 ^ u.size : Nat) : Int) := ⟨_, rfl⟩
        have hp1 : 1 ≤ p := by
          have : 0 < 256 ^ u.size := Nat.pow_pos (by decide)
          omega
        have hp2 : p ≤ 72057594037927936 := by
          have : 256 ^ u.size ≤ 256 ^ 7 := Nat.pow_le_pow_right (by decide) (by omega)
          omega
        have hcell : w.cell? ⟨0, u.size, none⟩ = some (.int .u64 p) := by rw [hp]; exact hsh u.size (by omega)
        have HP := Lib.hid hp
        clear hp
        go_wp2_with fail
        go_loop [6, 17] (fun n i => ∃ j : Nat, j ≤ u.size ∧ i = .int .i64 (j : Int) ∧ n = .int .u64 (be (u.data.toList.take j) : Nat)) (fun _ i => 7 - (intOf i).toNat)
        case atStart => exact ⟨0, by omega, rfl, rfl⟩
        case round =>
          obtain ⟨j, hj, rfl, rfl⟩ := hrel
          by_cases hlt : j < u.size
          · have hb := be_take u.data.toList j 6 (by omega)
            obtain ⟨c, hc, hcu, HN⟩ := byte_of u j (by omega)
            have ho := or8 (be (u.data.toList.take j)) (c : Int) (by omega) (by omega) (by omega) (by omega)
            go_wp2_with fail
            go_round
            case rel => exact ⟨j + 1, by omega, by go_num, by rw [HN.out]; go_num⟩
            case measure => simp [intOf]; omega
          · have hb := be_take u.data.toList j 7 (by omega)
            obtain rfl : j = u.size := by omega
            have HC := Lib.hid (more_all x u)
            go_wp2_with fail
            refine (times_any _ _ _ (by omega) (by omega) (by omega) (by omega)).mono ?_
            rintro e w' ⟨rfl, rfl⟩
            go_wp2_with fail
            refine (below_any _ _ (by omega) (by omega)).mono ?_
            rintro e w' ⟨rfl, rfl⟩
            go_wp2_with fail
            go_round
            case rel =>
              refine ⟨_, ByteArray.empty, ?_, rfl, ?_, ?_, HC.out.symm.trans HM.out⟩
              · exact congrArg (Value.int .u64) (by rw [HP.out]; simp only [P61, Int.natCast_emod, Int.natCast_add, Int.natCast_mul]; rfl)
              · exact Nat.mod_lt _ (by decide)
              · simp
            case measure => simp [strOf]; omega
    · go_wp2_with fail
      go_ret
      refine ⟨ret_int ?_, rfl⟩
      have e : u.data.toList = [] := by
        have : u.data.toList.length = 0 := by simpa using (show u.size = 0 by omega)
        exact List.eq_nil_of_length_eq_zero this
      rw [← HM.out, e, more_nil, Nat.mod_eq_of_lt (by unfold P61; exact hx)]

def rest (l : List UInt8) : Nat := more 1 l
theorem rest_any (s : ByteArray) (w : World) (hs : s.size ≤ maxLen) (hsh : Shifts w) :
    Calls Tryz.prog 54 #[.string s] w fun e w' => e = .returned (.int .u64 (rest s.data.toList : Nat)) ∧ w = w' := by
  go_enter Tryz.func54, Tryz.ntmps54
  go_wp2_with fail
  refine (more_any 1 s _ (by omega) (by omega) hs hsh).mono ?_
  rintro e w' ⟨rfl, rfl⟩
  go_wp2_with fail
  go_ret
  exact ⟨rfl, rfl⟩

theorem dig_step (x j : Nat) : x * 2 ^ j % P61 * 2 % P61 = x * 2 ^ (j + 1) % P61 := by
  rw [Nat.pow_succ, ← Nat.mul_assoc, Nat.mod_mul_mod]
def dig (x c : Nat) : Nat := (x * 256 + c) % P61
theorem more_take (r : Nat) (s : ByteArray) (j : Nat) (h : j < s.size) : more r (s.data.toList.take (j + 1)) = dig (more r (s.data.toList.take j)) (s[j]'h).toNat := by
  rw [take_snoc s j h, more_snoc]; rfl
theorem byte_more (r : Nat) (u : ByteArray) (j : Nat) (h : j < u.size) : ∃ c : Nat, c < 256 ∧ ((u[j]'h).toNat : Int) = (c : Int) ∧ Hid (more r (u.data.toList.take (j + 1)) = dig (more r (u.data.toList.take j)) c) :=
  ⟨(u[j]'h).toNat, (u[j]'h).toNat_lt, rfl, more_take r u j h⟩
end Go.Proofs.YtpnllalefpkcjaaGreatDoor

namespace Go.Proofs.YtpnllalefpkcjaaGreatDoor
open Go.RowKit

/-- A number's eight bytes, the highest first. -/
def be8 (n : Nat) : List UInt8 := (List.range 8).map fun i => UInt8.ofNat (n / 256 ^ (7 - i))
def sealL (l : List UInt8) : List UInt8 := l ++ be8 (rest l)
def sealB (s : ByteArray) : ByteArray := ⟨(sealL s.data.toList).toArray⟩
theorem be8_length (n : Nat) : (be8 n).length = 8 := by simp [be8]
def rowI (l : List UInt8) (n i : Nat) : List Value := bytesV (l ++ (be8 n).take i) ++ List.replicate (8 - i) (.int .u8 0)
theorem rowI_length (l : List UInt8) (n i : Nat) (h : i ≤ 8) : (rowI l n i).length = l.length + 8 := by
  simp [rowI, bytesV_length, be8_length]; omega
theorem be8_get (n i : Nat) (h : i < 8) : (be8 n)[i]? = some (UInt8.ofNat (n / 256 ^ (7 - i))) := by simp [be8, h]
theorem rowI_set (l : List UInt8) (n i : Nat) (h : i < 8) :
    (rowI l n i).set (l.length + i) (.int .u8 ((n / 256 ^ (7 - i) % 256 : Nat) : Int)) = rowI l n (i + 1) := by
  have e : List.take (i + 1) (be8 n) = List.take i (be8 n) ++ [UInt8.ofNat (n / 256 ^ (7 - i))] := by
    rw [List.take_add_one, be8_get n i h]; rfl
  have r : List.replicate (8 - i) (Value.int .u8 0) = .int .u8 0 :: List.replicate (8 - (i + 1)) (.int .u8 0) := by
    rw [show 8 - i = (8 - (i + 1)) + 1 by omega, List.replicate_succ]
  unfold rowI
  rw [e, r, ← List.append_assoc l, bytesV_append (l ++ _)]
  rw [List.set_append_right _ _ (by simp [bytesV_length, be8_length]; omega)]
  have z : l.length + i - (bytesV (l ++ List.take i (be8 n))).length = 0 := by simp [bytesV_length, be8_length]; omega
  rw [z]
  simp [bytesV]
theorem info_u8 : (Tryz.prog.info? 5).map (fun i => (i.zero, i.size, i.bytes)) = some (some (.int .u8 0), 1, 1) := by kernel_rfl
theorem rowI_zero (l : List UInt8) (n : Nat) (Z : List Value) (hZ : Z = List.replicate (l.length + 8) (.int .u8 0)) : spliceL Z 0 (bytesV l) = rowI l n 0 := by
  subst hZ
  simp [spliceL, rowI, bytesV_length]
theorem byte_val (n j : Nat) : Value.int .u8 ((n / 256 ^ (7 - j) % 256 : Nat) : Int) = .int .u8 ((n : Int) / 2 ^ (8 * (7 - j)) % 256) := by
  have e : (256 : Nat) ^ (7 - j) = 2 ^ (8 * (7 - j)) := by rw [Nat.pow_mul]
  rw [e]
  congr 1
theorem rowI_end (s : ByteArray) (n : Nat) (h : n = rest s.data.toList) : ((rowI s.data.toList n 8).drop 0).take (s.size + 8) = bytesV (sealL s.data.toList) := by
  have e : s.data.toList.length = s.size := by simp
  rw [List.drop_zero, List.take_of_length_le (by rw [rowI_length _ _ _ (Nat.le_refl _), e]; exact Nat.le_refl _)]
  simp [rowI, sealL, h, be8_length, List.take_of_length_le]
theorem madeCells_one (z : Value) (n : Nat) : madeCells #[z] n = (List.replicate n z).toArray := by
  apply Array.ext'
  rw [toList_madeCells_one]

set_option maxRecDepth 100000 in
set_option maxHeartbeats 400000 in
theorem seal_any (s : ByteArray) (w : World) (hs : s.size ≤ 281474976710648) (hsh : Shifts w) :
    Calls Tryz.prog 33 #[.string s] w fun e w' => e = .returned (.string (sealB s)) ∧ Below w.heap.size w w' := by
  obtain ⟨Z, hZ⟩ : ∃ Z : List Value, Z = List.replicate (s.size + 8) (.int .u8 0) := ⟨_, rfl⟩
  have hmk : ∀ W : World, (Instr.makeSlice 89 (.int .i64 ((s.size : Int) + 8)) (.int .i64 ((s.size : Int) + 8))).run Tryz.prog W = .ok (.slice (some ⟨W.heap.size, 0, none⟩) (s.size + 8) (s.size + 8)) (W.alloc (.cells Z.toArray 5)) := by
    intro W
    have h := run_make_row' (P := Tryz.prog) 89 5 _ 1 Tryz.underlying89 info_u8 rfl .i64 .i64 (s.size + 8) (by omega) (by omega) W
    rw [madeCells_one, ← hZ] at h
    exact h
  have HZ := Lib.hid hZ
  have hZl : Z.length = s.size + 8 := by rw [hZ]; simp
  clear hZ
  go_enter Tryz.func33, Tryz.ntmps33
  go_wp2_with (with_reducible refine wpList_copy_str rfl (.tmp 11) (.tmp 12) _ _ rfl 5 Tryz.underlying89 (by kernel_rfl) w.heap.size 0 _ _ s rfl rfl 5 Z (Blk.new _ _ _) (by omega) (by omega) ?_; intro w1 hb1 hg1; clear hmk)
  have hB1 : Below w.heap.size w w1 := below_grown ((Below.refl _ _).alloc (Nat.le_refl _) _) hg1 (by simp) (Nat.le_refl _)
  have hb2 := Lib.hid (rowI_zero s.data.toList (rest s.data.toList) Z HZ.out ▸ hb1)
  clear hg1 hb1
  refine (rest_any s w1 (by unfold maxLen; omega) (hsh.below hB1)).mono ?_
  rintro e w' ⟨rfl, rfl⟩
  have hr := more_lt 1 s.data.toList
  obtain ⟨n, hn⟩ : ∃ n : Nat, n = rest s.data.toList := ⟨_, rfl⟩
  rw [← hn] at hb2 ⊢
  change rest s.data.toList < P61 at hr
  rw [← hn] at hr
  unfold P61 at hr
  have HN := Lib.hid hn
  clear hn
  go_wp2_with fail
  go_loopw [16] (fun i wr => ∃ j : Nat, j ≤ 8 ∧ i = .int .i64 (j : Int) ∧ Hid (Blk wr w.heap.size 5 (rowI s.data.toList n j)) ∧ Below w.heap.size w wr) (fun i _ => 8 - (intOf i).toNat)
  case atStart => exact ⟨0, by omega, rfl, hb2, hB1⟩
  case round =>
    obtain ⟨j, hj, rfl, hblk, hbel⟩ := hrel
    by_cases h8 : j < 8
    · have hlen := rowI_length s.data.toList n j hj
      have hfr := hblk.out.frozen (s.size + j) (by rw [hlen]; simp; omega)
      obtain ⟨old, hcell⟩ : ∃ u, wr.cell? ⟨w.heap.size, s.size + j, none⟩ = some u := by
        rw [hblk.out.cell, List.getElem?_eq_getElem (by rw [hlen]; simp; omega)]
        exact ⟨_, rfl⟩
      have hset := rowI_set s.data.toList n j h8
      have hnew := hblk.out.set_ (s.data.toList.length + j) (.int .u8 ((n / 256 ^ (7 - j) % 256 : Nat) : Int))
      rw [hset] at hnew
      have e1 : s.data.toList.length = s.size := by simp
      rw [e1, byte_val n j] at hnew
      have HN2 := Lib.hid hnew
      have hbel2 := hbel.setCell (p := ⟨w.heap.size, s.size + j, none⟩) (Nat.le_refl _) (.int .u8 ((n : Int) / 2 ^ (8 * (7 - j)) % 256))
      clear hnew hset hlen e1
      go_wp2_with fail
      go_roundw
      case rel => exact ⟨j + 1, by omega, by go_num, HN2.out, hbel2⟩
      case measure => simp [intOf]; omega
    · have e : j = 8 := by omega
      subst e
      have hstr := run_str_of_blk (P := Tryz.prog) (w := wr) 89 9 5 Tryz.underlying89 Tryz.underlying5 Tryz.underlying9 w.heap.size 0 (s.size + 8) (s.size + 8) (sealL s.data.toList) (by simp [sealL, be8_length]) _ _ hblk.out (rowI_end s n HN.out)
      go_wp2_with fail
      go_ret
      exact ⟨rfl, hbel⟩

theorem be8_drop (n j : Nat) (h : j < 8) : (be8 n).drop (8 - (j + 1)) = UInt8.ofNat (n / 256 ^ j) :: (be8 n).drop (8 - j) := by
  rw [List.drop_eq_getElem_cons (by rw [be8_length]; omega)]
  have e := be8_get n (8 - (j + 1)) (by omega)
  rw [List.getElem?_eq_getElem (by rw [be8_length]; omega)] at e
  injection e with e
  rw [e]
  congr 1
  · rw [show 7 - (8 - (j + 1)) = j by omega]
  · rw [show 8 - (j + 1) + 1 = 8 - j by omega]
theorem ofNat_mod (m : Nat) : UInt8.ofNat (m % 256) = UInt8.ofNat m := by
  apply UInt8.toNat_inj.1
  simp
theorem one_byte (v : Int) (W : World) : (convert 89 9 (.slice (some ⟨W.heap.size, 0, none⟩) 1 1)).run Tryz.prog (W.alloc (.cells #[.int .u8 v] 5)) = .ok (.string ⟨#[UInt8.ofNat v.toNat]⟩) (W.alloc (.cells #[.int .u8 v] 5)) := by
  have hc := run_convert_bytes_arg (P := Tryz.prog) (W.alloc (.cells #[.int .u8 v] 5)) 89 5 Tryz.underlying89 Tryz.underlying5 W.heap.size 0 1 1 [v] rfl
    (fun i hi => by
      obtain rfl : i = 0 := by omega
      have := (Blk.new W 5 [.int .u8 v]).cell 0
      simp at this ⊢) 9 Tryz.underlying9
  exact hc
theorem cons_bytes (a : UInt8) (l : List UInt8) : (⟨#[a]⟩ : ByteArray) ++ ⟨l.toArray⟩ = ⟨(a :: l).toArray⟩ := by
  apply ByteArray.ext
  simp

def eightB (n : Nat) : ByteArray := ⟨(be8 n).toArray⟩
def openL (l : List UInt8) : Bool := decide (8 ≤ l.length) && (be (l.drop (l.length - 8)) == rest (l.take (l.length - 8)))
theorem open_short (s : ByteArray) (w : World) (hs : s.size < 8) :
    Calls Tryz.prog 74 #[.string s] w fun e w' => e = .returned (.tuple #[.string ByteArray.empty, .bool false]) ∧ Below w.heap.size w w' := by
  go_enter Tryz.func74, Tryz.ntmps74
  go_wp2_with fail
  go_ret2
  exact ⟨rfl, Below.refl _ _⟩
theorem bytesV_get (l : List UInt8) (z : List Value) (i : Nat) (h : i < l.length) : (bytesV l ++ z)[i]? = some (.int .u8 ((l.getD i 0).toNat : Int)) := by
  rw [List.getElem?_append_left (by rw [bytesV_length]; exact h)]
  simp [bytesV, h]
theorem be_drop_snoc (l : List UInt8) (m j : Nat) (h : m + j < l.length) : be ((l.drop m).take (j + 1)) = be ((l.drop m).take j) * 256 + (l.getD (m + j) 0).toNat := by
  rw [List.take_add_one, List.getElem?_drop, List.getElem?_eq_getElem h]
  rw [show (some l[m + j]).toList = [l[m + j]] from rfl, be_snoc]
  simp [h]
theorem byte_drop (l : List UInt8) (z : List Value) (m j : Nat) (h : m + j < l.length) : ∃ c : Nat, c < 256 ∧ (bytesV l ++ z)[m + j]? = some (.int .u8 (c : Int)) ∧ Hid (be ((l.drop m).take (j + 1)) = be ((l.drop m).take j) * 256 + c) :=
  ⟨(l.getD (m + j) 0).toNat, (l.getD (m + j) 0).toNat_lt, bytesV_get l z (m + j) h, be_drop_snoc l m j h⟩
def cutB (s : ByteArray) : ByteArray := ⟨(s.data.toList.take (s.size - 8)).toArray⟩
theorem take_bytes (s : ByteArray) (z : List Value) : ((bytesV s.data.toList ++ z).drop 0).take (s.size - 8) = bytesV (s.data.toList.take (s.size - 8)) := by
  rw [List.drop_zero, List.take_append_of_le_length (by rw [bytesV_length]; simp)]
  simp [bytesV, List.map_take]
theorem open_iff (s : ByteArray) (h : 8 ≤ s.size) : openL s.data.toList = decide (be ((s.data.toList.drop (s.size - 8)).take 8) = rest (cutB s).data.toList) := by
  have e : s.data.toList.length = s.size := by simp
  unfold openL cutB
  rw [e, decide_eq_true h, Bool.true_and, List.take_of_length_le (i := 8) (by rw [List.length_drop, e]; omega)]
  rfl
def openV (s : ByteArray) : Value := .tuple (if openL s.data.toList then #[.string (cutB s), .bool true] else #[.string ByteArray.empty, .bool false])
set_option maxRecDepth 100000 in
set_option maxHeartbeats 400000 in
theorem open_long (s : ByteArray) (w : World) (hs : 8 ≤ s.size) (hm : s.size ≤ 281474976710648) (hsh : Shifts w) :
    Calls Tryz.prog 74 #[.string s] w fun e w' => e = .returned (openV s) ∧ Below w.heap.size w w' := by
  obtain ⟨cap, W1, hcv, hc1, hc2, hsz1, hblk, hbel⟩ := str_bytes (P := Tryz.prog) w 9 89 5 s Tryz.underlying9 Tryz.underlying89 Tryz.underlying5 (by unfold maxLen; omega)
  unfold maxLen at hc2
  have hsh1 := hsh.below hbel
  have HB := Lib.hid hblk
  have hll : s.data.toList.length = s.size := by simp
  have HLL := Lib.hid hll
  clear hblk hll hsz1
  go_enter Tryz.func74, Tryz.ntmps74
  go_wp2_with fail
  go_loop [7, 25] (fun n i => ∃ j : Nat, j ≤ 8 ∧ i = .int .i64 (j : Int) ∧ n = .int .u64 (be ((s.data.toList.drop (s.size - 8)).take j) : Nat)) (fun _ i => 8 - (intOf i).toNat)
  case atStart => exact ⟨0, by omega, rfl, rfl⟩
  case round =>
    obtain ⟨j, hj, rfl, rfl⟩ := hrel
    have hb := be_take (s.data.toList.drop (s.size - 8)) j 8 hj
    by_cases hlt : j < 8
    · have hb := be_take (s.data.toList.drop (s.size - 8)) j 7 (by omega)
      obtain ⟨c, hc, hcu, HN⟩ := byte_drop s.data.toList (List.replicate (cap - s.size) (.int .u8 0)) (s.size - 8) j (by rw [HLL.out]; omega)
      have hcell := HB.out.cell (s.size - 8 + j)
      rw [hcu] at hcell
      clear hcu
      have ho := or8 (be ((s.data.toList.drop (s.size - 8)).take j)) (c : Int) (by omega) (by omega) (by omega) (by omega)
      go_wp2_with fail
      go_round
      case rel => exact ⟨j + 1, by omega, by go_num, by rw [HN.out]; go_num⟩
      case measure => simp [intOf]; omega
    · obtain rfl : j = 8 := by omega
      have hstr := run_str_of_blk (P := Tryz.prog) (w := W1) 89 9 5 Tryz.underlying89 Tryz.underlying5 Tryz.underlying9 w.heap.size 0 (s.size - 8) (s.size - 8) (s.data.toList.take (s.size - 8)) (by rw [List.length_take, HLL.out]; omega) _ _ HB.out (take_bytes s _)
      change _ = Result.ok (Value.string (cutB s)) W1 at hstr
      have hcz : (cutB s).size ≤ s.size := by
        show ((s.data.toList.take (s.size - 8)).toArray).size ≤ _
        simp
      have hd := open_iff s hs
      obtain ⟨n, hn⟩ : ∃ n : Nat, n = be ((s.data.toList.drop (s.size - 8)).take 8) := ⟨_, rfl⟩
      obtain ⟨r, hr⟩ : ∃ r : Nat, r = rest (cutB s).data.toList := ⟨_, rfl⟩
      rw [← hn] at hd ⊢
      rw [← hr] at hd
      have HR := Lib.hid hr
      have HN := Lib.hid hn
      clear hr hn hb
      by_cases hq : n = r
      · have hv : openV s = .tuple #[.string (cutB s), .bool true] := by unfold openV; rw [hd, decide_eq_true hq]; rfl
        have HV := Lib.hid hv
        have hbo : ((n : Int) != (r : Int)) = false := by rw [hq]; simp
        clear hv hd hq
        go_wp2_with fail
        refine (rest_any (cutB s) W1 (by unfold maxLen; omega) hsh1).mono ?_
        rintro e w' ⟨rfl, rfl⟩
        rw [← HR.out]
        go_wp2_with fail
        go_ret2
        exact ⟨congrArg Ending.returned HV.out.symm, hbel⟩
      · have hv : openV s = .tuple #[.string ByteArray.empty, .bool false] := by unfold openV; rw [hd, decide_eq_false hq]; rfl
        have HV := Lib.hid hv
        have hbo : ((n : Int) != (r : Int)) = true := by simp; omega
        clear hv hd hq
        go_wp2_with fail
        refine (rest_any (cutB s) W1 (by unfold maxLen; omega) hsh1).mono ?_
        rintro e w' ⟨rfl, rfl⟩
        rw [← HR.out]
        go_wp2_with fail
        go_ret2
        exact ⟨congrArg Ending.returned HV.out.symm, hbel⟩

theorem openV_short (s : ByteArray) (h : s.size < 8) : openV s = .tuple #[.string ByteArray.empty, .bool false] := by
  have e : s.data.toList.length = s.size := by simp
  unfold openV openL
  rw [e, decide_eq_false (by omega)]
  rfl
theorem open_any (s : ByteArray) (w : World) (hm : s.size ≤ 281474976710648) (hsh : Shifts w) :
    Calls Tryz.prog 74 #[.string s] w fun e w' => e = .returned (openV s) ∧ Below w.heap.size w w' := by
  by_cases h : s.size < 8
  · rw [openV_short s h]
    exact open_short s w h
  · exact open_long s w (by omega) hm hsh

/-- Eight bytes are a number's bytes just if they are the number. -/
theorem be8_of (l : List UInt8) (h : l.length = 8) : l = be8 (be l) := by
  match l, h with
  | [a, b, c, d, e, f, g, i], _ =>
    have ha := a.toNat_lt; have hb := b.toNat_lt; have hc := c.toNat_lt; have hd := d.toNat_lt
    have he := e.toNat_lt; have hf := f.toNat_lt; have hg := g.toNat_lt; have hi := i.toNat_lt
    have hn : be [a, b, c, d, e, f, g, i] = ((((((a.toNat * 256 + b.toNat) * 256 + c.toNat) * 256 + d.toNat) * 256 + e.toNat) * 256 + f.toNat) * 256 + g.toNat) * 256 + i.toNat := by simp [be]
    rw [hn]
    simp only [be8, List.range, List.range.loop, List.map_cons, List.map_nil, List.cons.injEq, and_true]
    refine ⟨?_, ?_, ?_, ?_, ?_, ?_, ?_, ?_⟩ <;> (apply UInt8.toNat_inj.1; simp only [UInt8.toNat_ofNat']; omega)
theorem be_be8 (n : Nat) (h : n < 18446744073709551616) : be (be8 n) = n := by
  simp only [be, be8, List.range, List.range.loop, List.map_cons, List.map_nil, List.foldl_cons, List.foldl_nil, UInt8.toNat_ofNat']
  omega
theorem sealed_iff (l : List UInt8) (h : 8 ≤ l.length) : openL l = decide (sealL (l.take (l.length - 8)) = l) := by
  unfold openL
  rw [decide_eq_true h, Bool.true_and]
  have hsplit : l = l.take (l.length - 8) ++ l.drop (l.length - 8) := (List.take_append_drop _ _).symm
  have hr : rest (l.take (l.length - 8)) < 18446744073709551616 := by
    have := more_lt 1 (l.take (l.length - 8))
    change rest _ < P61 at this
    unfold P61 at this
    omega
  rw [Bool.eq_iff_iff]
  simp only [beq_iff_eq, decide_eq_true_eq]
  unfold sealL
  constructor
  · intro e
    rw [← e, ← be8_of (l.drop (l.length - 8)) (by rw [List.length_drop]; omega)]
    exact hsplit.symm
  · intro e
    have := e.trans hsplit
    have h2 := List.append_cancel_left this
    rw [← h2, be_be8 _ hr]

theorem extract_cut (s : ByteArray) : s.extract 0 (s.size - 8) = cutB s := by
  apply ByteArray.ext
  apply Array.ext'
  simp [cutB]
end Go.Proofs.YtpnllalefpkcjaaGreatDoor
