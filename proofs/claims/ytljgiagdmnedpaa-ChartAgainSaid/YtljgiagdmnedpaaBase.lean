/-
Small lemmas used by the walks of this seat: returned values, masks of 64 bits, products of two words.
-/
import Derived.WalkKit
import Derived.Handy
import Derived.Laws.BitsAllLaws
import Derived.Lib.Mul64
import Derived.Lib.Hide
namespace Go.Proofs.Ytljgiagdmnedpaa
open Go.RowKit

theorem ret_int {k : IntKind} {a b : Int} (h : a = b) : Ending.returned (.int k a) = .returned (.int k b) := by rw [h]
theorem ret_int2 {k l : IntKind} {a b c d : Int} (h : a = b) (g : c = d) : Ending.returned (.tuple #[.int k a, .int l c]) = .returned (.tuple #[.int k b, .int l d]) := by rw [h, g]
theorem ret_str {a b : ByteArray} (h : a = b) : Ending.returned (.string a) = .returned (.string b) := by rw [h]
theorem ret_bool {a b : Bool} (h : a = b) : Ending.returned (.bool a) = .returned (.bool b) := by rw [h]

/-- Old cells and marks read as before behind a call that only makes memory. -/
theorem bcell {W w1 : World} (hb : Below W.heap.size W w1) : (∀ b o, b < W.heap.size → w1.cell? ⟨b, o, none⟩ = W.cell? ⟨b, o, none⟩) ∧ (∀ b o, b < W.heap.size → w1.frozen? ⟨b, o, none⟩ = W.frozen? ⟨b, o, none⟩) :=
  ⟨fun b o h => hb.cell (p := ⟨b, o, none⟩) h, fun b o h => hb.frozen (p := ⟨b, o, none⟩) h⟩

theorem mask_u64 (k : Nat) (n m : Int) (hm : m = ((2 ^ k - 1 : Nat) : Int)) (hk : k ≤ 64) (h0 : 0 ≤ n) (h1 : n < 18446744073709551616) : bits .and .u64 n m = n % ((2 ^ k : Nat) : Int) := by
  have hp : 0 < 2 ^ k := Nat.pow_pos (by decide)
  have hle : 2 ^ k ≤ 18446744073709551616 := Nat.pow_le_pow_right (n := 2) (by decide) hk
  rw [u64_and n _ h0 h1 (by omega) (by omega)]
  have e : m.toNat = 2 ^ k - 1 := by rw [hm]; rfl
  rw [e, Nat.and_two_pow_sub_one_eq_mod, Int.natCast_emod]
  generalize 2 ^ k = p at *
  rw [Int.toNat_of_nonneg h0]
theorem and32 (n : Int) (h0 : 0 ≤ n) (h1 : n < 18446744073709551616) : bits .and .u64 n 4294967295 = n % 4294967296 := mask_u64 32 n _ (by decide) (by decide) h0 h1
theorem and61 (n : Int) (h0 : 0 ≤ n) (h1 : n < 18446744073709551616) : bits .and .u64 n 2305843009213693951 = n % 2305843009213693952 := mask_u64 61 n _ (by decide) (by decide) h0 h1
/-- A byte laid behind a number. -/
theorem or8 (n c : Int) (h0 : 0 ≤ n) (h1 : n < 72057594037927936) (g0 : 0 ≤ c) (g1 : c < 256) : bits .or .u64 (n * 256) c = n * 256 + c := by
  rw [u64_or _ c (by omega) (by omega) g0 (by omega), nat_join 8 _ _ (by omega) (by omega)]
  omega

theorem half_bd {a b : Int} (ha : 0 ≤ a) (hb : 0 ≤ b) (ka : a < 4294967296) (kb : b < 4294967296) : 0 ≤ a * b ∧ a * b ≤ 18446744065119617025 := by
  refine ⟨Int.mul_nonneg ha hb, ?_⟩
  have := Int.mul_le_mul (show a ≤ 4294967295 by omega) (show b ≤ 4294967295 by omega) hb (by omega)
  simpa using this
theorem mul_end (a b : Int) (h0 : 0 ≤ a) (h1 : a < 18446744073709551616) (g0 : 0 ≤ b) (g1 : b < 18446744073709551616) :
    (a / 4294967296) * (b / 4294967296) + ((a / 4294967296) * (b % 4294967296) + (a % 4294967296) * (b % 4294967296) / 4294967296) / 4294967296 +
      (((a / 4294967296) * (b % 4294967296) + (a % 4294967296) * (b % 4294967296) / 4294967296) % 4294967296 + (a % 4294967296) * (b / 4294967296)) / 4294967296 = a * b / 18446744073709551616 := by
  obtain ⟨x, rfl⟩ := Int.eq_ofNat_of_zero_le h0
  obtain ⟨y, rfl⟩ := Int.eq_ofNat_of_zero_le g0
  have := (Lib.mul64_hi x y (by omega) (by omega)).2.2.2
  have h := congrArg (fun n : Nat => (n : Int)) this
  simp only [Int.natCast_add, Int.natCast_mul, Int.natCast_ediv, Int.natCast_emod, Int.cast_ofNat_Int] at h
  exact h
theorem hi_bd (a b : Int) (h0 : 0 ≤ a) (h1 : a < 18446744073709551616) (g0 : 0 ≤ b) (g1 : b < 18446744073709551616) : 0 ≤ a * b / 18446744073709551616 ∧ a * b / 18446744073709551616 < 18446744073709551616 := by
  have h := Int.mul_nonneg h0 g0
  have := Int.mul_le_mul (show a ≤ 18446744073709551615 by omega) (show b ≤ 18446744073709551615 by omega) g0 (by omega)
  simp only [Int.reduceMul] at this
  generalize a * b = c at *
  omega
end Go.Proofs.Ytljgiagdmnedpaa
