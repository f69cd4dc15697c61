/-
nat.Mul: the product, or that it is too long.
-/
import Derived.Test.YtljgiagdmnedpaaNatAdd
import Derived.Test.YtljgiagdmnedpaaNatProd
import Derived.Lib.Strings
namespace Go.Proofs.Ytljgiagdmnedpaa.Nat_
open Go.RowKit

theorem mul64_any (a b : Int) (w : World) (h0 : 0 ≤ a) (h1 : a < 18446744073709551616) (g0 : 0 ≤ b) (g1 : b < 18446744073709551616) :
    Calls Try.prog 72 #[.int .u64 a, .int .u64 b] w fun e w' => e = .returned (.tuple #[.int .u64 (a * b / 18446744073709551616), .int .u64 (a * b % 18446744073709551616)]) ∧ w = w' := by
  have ha := and32 a h0 h1
  have hb := and32 b g0 g1
  have hc := and32 (a / 4294967296 * (b % 4294967296) + a % 4294967296 * (b % 4294967296) / 4294967296)
  have ⟨p1, p2⟩ := half_bd (a := a % 4294967296) (b := b % 4294967296) (by omega) (by omega) (by omega) (by omega)
  have ⟨p3, p4⟩ := half_bd (a := a / 4294967296) (b := b % 4294967296) (by omega) (by omega) (by omega) (by omega)
  have ⟨p5, p6⟩ := half_bd (a := a % 4294967296) (b := b / 4294967296) (by omega) (by omega) (by omega) (by omega)
  have ⟨p7, p8⟩ := half_bd (a := a / 4294967296) (b := b / 4294967296) (by omega) (by omega) (by omega) (by omega)
  have ⟨q1, q2⟩ := hi_bd a b h0 h1 g0 g1
  have he := mul_end a b h0 h1 g0 g1
  have hc := hc (by omega) (by omega)
  have HE := Lib.hid he
  clear he
  go_enter Try.func72, Try.ntmps72
  go_wp2
  go_ret2
  exact ⟨ret_int2 HE.out (IntKind.wrap_u64 _), rfl⟩
/-- math/bits.Mul64 in natural numbers. -/
theorem mul64n (a b : Nat) (ha : a < 18446744073709551616) (hb : b < 18446744073709551616) :
    ∃ h l : Nat, h < 18446744073709551616 ∧ l < 18446744073709551616 ∧ a * b = h * 18446744073709551616 + l ∧ ∀ w : World,
      Calls Try.prog 72 #[.int .u64 (a : Int), .int .u64 (b : Int)] w fun e w' => e = .returned (.tuple #[.int .u64 (h : Int), .int .u64 (l : Int)]) ∧ w = w' := by
  have hm : a * b ≤ 18446744073709551615 * 18446744073709551615 := Nat.mul_le_mul (by omega) (by omega)
  refine ⟨a * b / 18446744073709551616, a * b % 18446744073709551616, by omega, by omega, by omega, fun w => ?_⟩
  refine (mul64_any a b w (by omega) (by omega) (by omega) (by omega)).mono ?_
  rintro e w' ⟨rfl, rfl⟩
  exact ⟨by simp, rfl⟩

theorem toList_made (z : Value) (n : Nat) : madeCells #[z] n = (List.replicate n z).toArray := by
  apply Array.ext'
  rw [toList_madeCells_one]
theorem map_limb_set (O : List Nat) (i y : Nat) : (O.map limbV).set i (.int .u64 (y : Int)) = (O.set i y).map limbV := by rw [List.map_set]; rfl
theorem limb_cell {w : World} {G : Nat} {t : TypeId} {O : List Nat} (h : Blk w G t (O.map limbV)) (i : Nat) (hi : i < O.length) : w.cell? ⟨G, i, none⟩ = some (.int .u64 (digit O i : Int)) := by
  rw [h.cell, List.getElem?_map, List.getElem?_eq_getElem hi, digit_get O i hi]
  rfl
theorem lb_cell {w : World} {b off : Nat} {len cap : Nat} {l : List Nat} (h : Lb w (.slice (some ⟨b, off, none⟩) len cap) l) (i : Nat) (hi : i < l.length) : w.cell? ⟨b, off + i, none⟩ = some (.int .u64 (digit l i : Int)) := by
  obtain ⟨a', len', cap', he, h1, h2, h3, h0, h4, h5⟩ := h
  obtain ⟨hb, rfl, rfl⟩ : some (⟨b, off, none⟩ : Addr) = a' ∧ len = len' ∧ cap = cap' := by simpa using he
  obtain ⟨b', off', ha, -, hc⟩ := h5 (by omega)
  rw [← hb] at ha
  obtain ⟨rfl, rfl⟩ : b = b' ∧ off = off' := by simpa using ha
  have := hc i _ (List.getElem?_eq_getElem hi)
  rw [this, digit_get l i hi]
  rfl
theorem lb_addr {w : World} {a : Option Addr} {len cap : Nat} {l : List Nat} (h : Lb w (.slice a len cap) l) (hl : 0 < l.length) : ∃ b off, a = some ⟨b, off, none⟩ ∧ b < w.heap.size := by
  obtain ⟨a', len', cap', he, h1, h2, h3, h0, h4, h5⟩ := h
  obtain ⟨rfl, rfl, rfl⟩ : a = a' ∧ len = len' ∧ cap = cap' := by simpa using he
  obtain ⟨b', off', ha, hb, -⟩ := h5 (by omega)
  exact ⟨b', off', ha, hb⟩

end Go.Proofs.Ytljgiagdmnedpaa.Nat_
